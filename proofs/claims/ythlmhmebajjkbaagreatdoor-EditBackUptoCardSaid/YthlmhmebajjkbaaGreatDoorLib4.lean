/-
  THE TYPED MACHINE: calls, labels, code. Definitions.
-/
import Derived.Test.YthlmhmebajjkbaaGreatDoorLib3
set_option linter.defProp false
set_option linter.unusedSectionVars false
set_option linter.unusedSimpArgs false
set_option linter.unusedVariables false
namespace Go.Ab
open Go
noncomputable section
def mks{α β:Type}(es:List (α×β)):List α:=es.map Prod.fst
def mvs{α β:Type}(es:List (α×β)):List β:=es.map Prod.snd
def yz8{α β:Type}:∀es:List (α×β),List.zip (mks es) (mvs es)=es
 |[]=>rfl
 |(_,_)::l=>congrArg (_ :: ·) (yz8 l)
inductive Src (T:Nat->Type) where
 |slot (s:Nat)
 |nil
abbrev z6i(T:Nat->Type):=List (Nat×Src T)
section
variable {T:Nat → Type}
def Src.z001(s:Nat):Src T->Bool
 |.slot a=>a==s
 |_=>false
def zh1(n k s:Nat)(M:z6i T):Option (z6i T) :=
 match fnd M k with
 |some (.slot a)=>if a=s then some M else none
 |some _=>none
 |none=>if k<n∧M.all (λp => !p.2.z001 s)then some ((k,.slot s)::M)else none
def yrk(n k:Nat)(M:z6i T):Option (z6i T) :=
 match fnd M k with
 |some .nil=>some M
 |some _=>none
 |none=>if k<n then some ((k,.nil)::M)else none
def frU(o:Option (z6i T)):FR (z6i T×Unit) :=
 match o with
 |some M=>.ok (M,())
 |none=>.bad
end
def OSh.tys:OSh->List DTy
 |.cells cs=>Sh.z45 cs
 |.st i=>[.st i]
 |.acc _ t _=>[.sl t]
 |.siter=>[.str,.nat]
 |.mp _ t=>[.sl .str,.sl t]
 |.mit t=>[.sl .str,.sl t]
 |.bld _ _=>[]
 |.deep _ i=>[.sl (.st i)]
 |.deeph _ i _ _=>[.sl (.st i),.int .i64]
def z19:List OSh->List DTy
 |[]=>[]
 |o::l=>o.tys++z19 l
def yym:List (Nat×Sh)->List DTy
 |[]=>[]
 |p::l=>p.2.tys++yym l
section
variable (D:Dat)
mutual
def y9x(n:Nat):(j:Sh)->TV D.T->z6i D.T->FR (z6i D.T×HL D.T j.tys)
 |.any,_,M=>.ok (M,())
 |.d t,v,M=>match asD D t v with
  |.ok x=>.ok (M,(x,()))
  |.frz s=>.frz s
  |.bad=>.bad
 |.own k,.own s,M=>frU (zh1 n k s M)
 |.own k,.nils,M=>frU (yrk n k M)
 |.ptr k g,.ptr s e,M=>if g=e then frU (zh1 n k s M)else .bad
 |.bp k,.bp s 0,M=>frU (zh1 n k s M)
 |.map k,.map s,M=>frU (zh1 n k s M)
 |.mc t,.mc h es,M=>match zxq h t es with
  |some es=>.ok (M,(mks es,(mvs es,())))
  |none=>.bad
 |.mc _,.map s,_=>.frz s
 |.nilp,.nilp,M=>.ok (M,())
 |.nilf,.nilf,M=>.ok (M,())
 |.nili,.nili,M=>.ok (M,())
 |.nils,.nils,M=>.ok (M,())
 |.fn f a b,.fn l o m,M=>if f=l then (match y0o n a o M with
  |.ok (M,x)=>match y0o n b m M with
   |.ok (M,y)=>.ok (M,HL.app x y)
   |.frz s=>.frz s
   |.bad=>.bad
  |.frz s=>.frz s
  |.bad=>.bad)else .bad
 |.iface t s,.iface h v,M=>if t=h then y9x n s v M else .bad
 |.agg cs,.agg vs,M=>y0o n cs vs M
 |.tup cs,.tup vs,M=>y0o n cs vs M
 |.ref cs g,.ref vs e,M=>if g=e then y0o n cs vs M else .bad
 |.dp k g,.dp s i e,M=>if g=e then (match zh1 n k s M with
  |some M=>.ok (M,(i,()))
  |none=>.bad)else .bad
 |.ap k t g,.ap s h i x e,M=>if g=e then (match y4y h t x with
  |some x=>(match zh1 n k s M with
   |some M=>.ok (M,(i,(x,())))
   |none=>.bad)
  |none=>.bad)else .bad
 |_,_,_=>.bad
def y0o(n:Nat):(l:List Sh)->List (TV D.T)->z6i D.T->FR (z6i D.T×HL D.T (Sh.z45 l))
 |[],[],M=>.ok (M,())
 |sh::l,v::vs,M=>match y9x n sh v M with
  |.ok (M,x)=>match y0o n l vs M with
   |.ok (M,y)=>.ok (M,HL.app x y)
   |.frz s=>.frz s
   |.bad=>.bad
  |.frz s=>.frz s
  |.bad=>.bad
 |_,_,_=>.bad
end
mutual
def zmd(m:Nat->Nat):(g:Sh)->HL D.T g.tys->TV D.T
 |.any,_=>.any
 |.d t,x=>D.tv t x.1
 |.own k,_=>.own (m k)
 |.ptr k e,_=>.ptr (m k) e
 |.bp k,_=>.bp (m k) 0
 |.map k,_=>.map (m k)
 |.mc t,x=>.mc t (List.zip x.1 x.2.1)
 |.nilp,_=>.nilp
 |.nilf,_=>.nilf
 |.nili,_=>.nili
 |.nils,_=>.nils
 |.fn f a b,x=>.fn f (z41 m a (HL.fst _ x)) (z41 m b (HL.snd _ x))
 |.iface t s,x=>.iface t (zmd m s x)
 |.agg cs,x=>.agg (z41 m cs x)
 |.tup cs,x=>.tup (z41 m cs x)
 |.ref cs e,x=>.ref (z41 m cs x) e
 |.dp k e,x=>.dp (m k) x.1 e
 |.ap k t e,x=>.ap (m k) t x.1 x.2.1 e
def z41(m:Nat->Nat):(l:List Sh)->HL D.T (Sh.z45 l)->List (TV D.T)
 |[],_=>[]
 |sh::l,x=>zmd m sh (HL.fst _ x)::z41 m l (HL.snd _ x)
end
def y9h(n:Nat)(ts:TS D.T):(o:OSh)->Src D.T->z6i D.T->FR (z6i D.T×HL D.T o.tys)
 |.cells cs,.slot s,M=>match fnd ts.o s with
  |some (.cells vs)=>y0o D n cs vs M
  |_=>.bad
 |.st i,.slot s,M=>match fnd ts.o s with
  |some (.cells vs)=>match zbn D (D.fl i) vs with
   |.ok x=>.ok (M,(D.make i x,()))
   |.frz s=>.frz s
   |.bad=>.bad
  |_=>.bad
 |.acc ty t w,.slot s,M=>match fnd ts.o s with
  |some (.acc a d xs j)=>if ty=a∧(w=true->j=true)then (match zf5 d t xs with|some xs=>.ok (M,(xs,()))|none=>.bad)else .bad
  |_=>.bad
 |.acc _ _ _,.nil,M=>.ok (M,([],()))
 |.siter,.slot s,M=>match fnd ts.o s with
  |some (.siter l g)=>.ok (M,(l,(g,())))
  |_=>.bad
 |.mp ty t,.slot s,M=>match fnd ts.o s with
  |some (.mp a d es)=>if ty=a then (match zxq d t es with|some es=>.ok (M,(mks es,(mvs es,())))|none=>.bad)else .bad
  |_=>.bad
 |.mit t,.slot s,M=>match fnd ts.o s with
  |some (.mit d _ es)=>(match zxq d t es with|some es=>.ok (M,(mks es,(mvs es,())))|none=>.bad)
  |_=>.bad
 |.bld ty k,.slot s,M=>match fnd ts.o s with
  |some (.bld a b)=>if ty=a then (match b with
   |some q=>frU (zh1 n k q M)
   |none=>frU (yrk n k M))else .bad
  |_=>.bad
 |.deep ty q,.slot s,M=>match fnd ts.o s with
  |some (.deep a e xs h)=>if ty=a then (match h with
   |none=>(match zf5 (.st e) (.st q) xs with
    |some xs=>.ok (M,(xs,()))
    |none=>.bad)
   |some _=>.frz s)else .bad
  |_=>.bad
 |.deep _ _,.nil,M=>.ok (M,([],()))
 |.deeph ty q f k,.slot s,M=>match fnd ts.o s with
  |some (.deep a e xs h)=>if ty=a then (match h with
   |some p=>if f=p.2.1 then (match zf5 (.st e) (.st q) xs with
    |some xs=>(match zh1 n k p.2.2 M with
     |some M=>.ok (M,(xs,(p.1,())))
     |none=>.bad)
    |none=>.bad)else .bad
   |none=>.bad)else .bad
  |_=>.bad
 |_,_,_=>.bad
def yei(n:Nat)(ts:TS D.T):(a:List OSh)->Nat->z6i D.T->FR (z6i D.T×HL D.T (z19 a))
 |[],_,M=>.ok (M,())
 |o::a,k,M=>match fnd M k with
  |some src=>match y9h D n ts o src M with
   |.ok (M,x)=>match yei n ts a (k+1) M with
    |.ok (M,y)=>.ok (M,HL.app x y)
    |.frz s=>.frz s
    |.bad=>.bad
   |.frz s=>.frz s
   |.bad=>.bad
  |none=>.bad
def ys5(n:Nat)(ts:TS D.T):(l:List (Nat×Sh))->z6i D.T->FR (z6i D.T×HL D.T (yym l))
 |[],M=>.ok (M,())
 |p::l,M=>match fnd ts.t p.1 with
  |some v=>match y9x D n p.2 v M with
   |.ok (M,x)=>match ys5 n ts l M with
    |.ok (M,y)=>.ok (M,HL.app x y)
    |.frz s=>.frz s
    |.bad=>.bad
   |.frz s=>.frz s
   |.bad=>.bad
  |none=>.bad
def zn0(m:Nat->Nat):(o:OSh)->HL D.T o.tys->TO D.T
 |.cells cs,x=>.cells (z41 D m cs x)
 |.st i,x=>.cells (D.leaves (D.fl i) (D.get i x.1))
 |.acc ty t w,x=>.acc ty t x.1 w
 |.siter,x=>.siter x.1 x.2.1
 |.mp ty t,x=>.mp ty t (List.zip x.1 x.2.1)
 |.mit t,x=>.mit t none (List.zip x.1 x.2.1)
 |.bld ty k,_=>.bld ty (some (m k))
 |.deep ty q,x=>.deep ty q x.1 none
 |.deeph ty q f k,x=>.deep ty q x.1 (some (x.2.1,f,m k))
def z86(m:Nat->Nat):(a:List OSh)->Nat->HL D.T (z19 a)->List (Nat×TO D.T)
 |[],_,_=>[]
 |o::a,k,x=>(m k,zn0 D m o (HL.fst _ x))::z86 m a (k+1) (HL.snd _ x)
def yqx(m:Nat->Nat):(l:List (Nat×Sh))->HL D.T (yym l)->List (Nat×TV D.T)
 |[],_=>[]
 |p::l,x=>(p.1,zmd D m p.2 (HL.fst _ x))::yqx m l (HL.snd _ x)
end
structure LSh where
 ts:List (Nat×Sh)
 os:List OSh
 pin:Nat
 nt:Nat
 gs:List Nat:=[]
def LSh.tys(l:LSh):List DTy:=yym l.ts++z19 l.os
section
variable (D:Dat)
def LSh.bld(l:LSh)(x:HL D.T l.tys):TS D.T :=
 ⟨yqx D (λk=>k) l.ts (HL.fst _ x),z86 D (λk=>k) l.os 0 (HL.snd _ x),l.os.length,l.nt,[],l.gs.map some⟩
def pins{T:Nat->Type}:Nat->z6i T
 |0=>[]
 |n+1=>(n,.slot n)::pins n
def yu2{T:Nat->Type}(n:Nat):List Nat->List (Option Nat)->z6i T->Option (z6i T)
 |[],[],M=>some M
 |k::b,some s::a,M=>match zh1 n k s M with
  |some M=>yu2 n b a M
  |none=>none
 |_,_,_=>none
def LSh.fit(l:LSh)(ts:TS D.T):FR (HL D.T l.tys) :=
 if ts.nt=l.nt∧ts.d.isEmpty=true then (match ys5 D l.os.length ts l.ts (pins l.pin)with
  |.ok (M,x)=>match yu2 l.os.length l.gs ts.g M with
   |some M=>(match yei D l.os.length ts l.os 0 M with
    |.ok (_,y)=>.ok (HL.app x y)
    |.frz s=>.frz s
    |.bad=>.bad)
   |none=>.bad
  |.frz s=>.frz s
  |.bad=>.bad)else .bad
def LSh.enter{R:Type}(l:LSh)(k:HL D.T l.tys->Option R):Nat->TS D.T->Option R
 |0,_=>none
 |f+1,ts=>match l.fit D ts with
  |.ok x=>k x
  |.frz s=>match isHole ts s with
   |true=>ts.fold D (yb6 9 ts s) λa=>LSh.enter l k f a
   |false=>match ts.freeze D s with
    |some a=>LSh.enter l k f a
    |none=>none
  |.bad=>none
structure Ent where
 f:Nat
 p:Nat
 args:List Sh
 aos:List OSh
 outs:List Sh
 ros:List OSh
 pan:Sh
 pos:List OSh
 pure:Bool
 go:{R:Type}->HL D.T (Sh.z45 args++z19 aos)->(HL D.T (Sh.z45 outs++z19 ros)->Option R)->(HL D.T (pan.tys++z19 pos)->Option R)->Option R
 ren:List (Nat×Nat):=[]
def Ent.fit(e:Ent D)(vs:List (TV D.T))(ts:TS D.T):FR (z6i D.T×HL D.T (Sh.z45 e.args++z19 e.aos)) :=
 match y0o D e.aos.length e.args vs []with
 |.ok (M,x)=>match yei D e.aos.length ts e.aos 0 M with
  |.ok (M,y)=>.ok (M,HL.app x y)
  |.frz s=>.frz s
  |.bad=>.bad
 |.frz s=>.frz s
 |.bad=>.bad
def zch(M:z6i D.T)(p nx k:Nat):Nat :=
 if k<p then (match fnd M k with|some (.slot s)=>s|_=>0)else nx+(k-p)
def zl8:z6i D.T->List (Nat×TO D.T)
 |[]=>[]
 |(_,.slot s)::l=>(s,.gone)::zl8 l
 |(_,.nil)::l=>zl8 l
def zej(M:z6i D.T)(p:Nat)(ts:TS D.T)(a:List OSh)(y:HL D.T (z19 a)):TS D.T :=
 {ts with o:=z86 D (zch D M p ts.nx) a 0 y++(zl8 D M++ts.o),nx:=ts.nx+(a.length-p)}
def zfu(M:z6i D.T)(p nx:Nat):List (Nat×Nat)->TS D.T->TS D.T
 |[],ts=>ts
 |q::l,ts=>match fnd M q.1 with
  |some (.slot s)=>zfu M p nx l (ts.zeb D (TV.ren D s (zch D M p nx q.2)))
  |_=>zfu M p nx l ts
def ye1:List (TV D.T)->TV D.T
 |[v]=>v
 |vs=>.tup vs
def z05q{R:Type}(f:Nat)(vs:List (TV D.T))(ts:TS D.T)(k a:TV D.T->TS D.T->Option R)(b:Nat->Option R):Option R:=none
def zw2{R:Type}(f:Nat)(vs:List (TV D.T))(ts:TS D.T)(k a:TV D.T->TS D.T->Option R)(b:Nat->Option R):List (Ent D)->Option R
 |[]=>z05q D f vs ts k a b
 |e::r=>match Nat.beq e.f f with
  |false=>zw2 f vs ts k a b r
  |true=>match e.fit D vs ts with
   |.bad=>zw2 f vs ts k a b r
   |.frz s=>b s
   |.ok (M,x)=>if e.p<=e.aos.length∧e.p<=e.ros.length∧e.p<=e.pos.length∧(List.range e.p).all (λk=>match fnd M k with|some (.slot _)=>true|_=>false)then
      e.go x (λy=>k (ye1 D (z41 D (zch D M e.p ts.nx) e.outs (HL.fst _ y))) (zfu D M e.p ts.nx e.ren (zej D M e.p ts e.ros (HL.snd _ y))))
       (λy=>a (zmd D (zch D M e.p ts.nx) e.pan (HL.fst _ y)) (zej D M e.p ts e.pos (HL.snd _ y)))
      else none
end
def Sh.z00e:Sh->Bool
 |.d t=>t.flat
 |_=>false
def pBor{R:Type}(D:Dat)(f:Nat)(vs:List (TV D.T))(ts:TS D.T)(k:TV D.T->TS D.T->Option R)(a:Option R):Option R:=a
def yyc{R:Type}(D:Dat)(f:Nat)(vs:List (TV D.T))(ts:TS D.T)(k:TV D.T->TS D.T->Option R)(a:Option R):List (Ent D)->Option R
 |[]=>pBor D f vs ts k a
 |e::r=>match Nat.beq e.f f&&e.pure&&e.outs.all Sh.z00e with
  |true=>(match e.fit D (TV.yxf D ts vs) ts with
   |.ok b=>e.go b.2 (λy=>k (ye1 D (z41 D (λk=>k) e.outs (HL.fst _ y))) ts) (λ_=>none)
   |_=>yyc D f vs ts k a r)
  |false=>yyc D f vs ts k a r
section
variable (P:Program)(D:Dat)(tbl:List (Ent D))
def yfo{R:Type}(op:Op)(k j:TV D.T->TS D.T->Option R):Nat->TS D.T->Option R
 |0,_=>none
 |fuel+1,ts=>
  let g:=λs=>match isHole ts s with
   |true=>ts.fold D (yb6 9 ts s) λh=>yfo op k j fuel h
   |false=>(match ts.freeze D s with
    |some h=>yfo op k j fuel h
    |none=>none)
  match op with
  |.load t a=>(match ts.ev a with
   |some (.dp s i l)=>yup D P ts t s i l k g
   |_=>tOp P D ts op k g)
  |.call c=>match c.callee with
   |.value x=>match ts.ev x,ts.evs c.args.toList with
    |some (.fn f a b),some vs=>(match (TV.yeu (a++vs++b)).find? (z01s ts)with
     |some _=>(match (TV.yeu (a++vs++b)).find? (isHole ts)with
      |some s=>g s
      |none=>yyc D f (a++vs++b) ts k (zw2 D f (a++vs++b) ts k j g tbl) tbl)
     |none=>zw2 D f (a++vs++b) ts k j g tbl)
    |_,_=>none
   |_=>tOp P D ts op k g
  |.panic x=>match ts.ev x with
   |some (.iface t v)=>j (.iface t v) ts
   |_=>none
  |.defer c=>match c.callee with
   |.value x=>match ts.ev x,ts.evs c.args.toList with
    |some (.fn f a b),some vs=>k .any {ts with d:=(f,a++vs++b)::ts.d}
    |_,_=>none
   |_=>none
  |.binOp o t x y _=>match ts.ev x,ts.ev y with
   |some .nili,some .nili=>(match isC x||isC y,P.underlying t with
    |true,some (.interface _)=>(match o with
     |.eql=>k (.bool true) ts
     |.neq=>k (.bool false) ts
     |_=>none)
    |_,_=>none)
   |_,_=>tOp P D ts op k g
  |.alloc t=>match zeroV P t,P.info? t with
   |some (.agg [.nilp,.nils]),some i=>(match z05m P t&&Nat.beq i.size 2 with
    |true=>k (.bp ts.nx 0) (ts.new D (.bld t none))
    |false=>tOp P D ts op k g)
   |_,_=>tOp P D ts op k g
  |.convert s d x=>match ts.ev x with
   |some (.sl (.int .u8) xs _)=>(match P.underlying s,P.underlying d with
    |some (.slice e),some .string=>(match P.underlying e with
     |some (.int .u8)=>z9s (ysl xs) λy=>k (.str y) ts
     |_=>none)
    |_,_=>none)
   |_=>tOp P D ts op k g
  |.range t x=>match ts.ev x with
   |some (.map q)=>g q
   |some (.mc τ es)=>(match P.underlying t with
    |some (.map _ _)=>k (.ptr ts.nx 0) (ts.new D (.mit τ none es))
    |_=>none)
   |_=>tOp P D ts op k g
  |.next x false=>match ts.ev x with
   |some (.ptr s 0)=>(match fnd ts.o s with
    |some (.mit τ _ es)=>y82 es (λa y r=>k (.tup [.bool true,.str a,D.leaf τ y]) (ts.set D s (.mit τ (some (a,y)) r))) (k (.tup [.bool false]) ts)
    |_=>none)
   |_=>none
  |.entry x=>match ts.ev x with
   |some (.ptr s 0)=>(match fnd ts.o s with
    |some (.mit τ (some p) _)=>k (.tup [.str p.1,D.leaf τ p.2]) ts
    |_=>none)
   |_=>none
  |_=>tOp P D ts op k g
def yef{R:Type}(all:List Oper)(o:Oper)(ts:TS D.T)(go skip:TS D.T->Option R):Option R :=
 match o.guard with
 |none=>go ts
 |some (j,want)=>match (all[j]?).bind (·.dst)with
  |none=>none
  |some d=>match fnd ts.t d with
   |some (.bool b)=>pIf b (if want then go {ts with t:=(d,.bool true)::ts.t}else skip {ts with t:=(d,.bool true)::ts.t})
     (if want then skip {ts with t:=(d,.bool false)::ts.t}else go {ts with t:=(d,.bool false)::ts.t})
   |some (.tup _)=>skip ts
   |_=>none
def cpB(all:List Oper)(o:Oper):Option (Nat×Operand×Operand):=match o.op,o.dst with
 |.slice t x (some b) none none,some d=>if all.any (λq=>match q.op with
  |.call c=>(match c.callee with
   |.builtin .copy=>c.args.toList.any λa=>(match a with
    |.tmp i=>Nat.beq i d
    |_=>false)
   |_=>false)
  |_=>false)then some (t,x,b)else none
 |_,_=>none
def tPC{R:Type}(all:List Oper)(o:Oper)(k:TV D.T->Option R)(ts:TS D.T):Option R:=match cpB all o with
 |some (t,x,a)=>(match ts.ev x,ts.ev a with
  |some x,some a=>tCut P D ts t x a k (tP P D ts o.op k λ_=>none)
  |_,_=>none)
 |none=>tP P D ts o.op k λ_=>none
def litB(all:List Oper)(o:Oper):Bool:=match o.op,o.dst with
 |.buildSlice _ _ _,some d=>all.any λq=>(match q.op with
  |.assign (.tmp i)=>Nat.beq i d
  |_=>false)
 |_,_=>false
def tLit{R:Type}(ts:TS D.T)(op:Op)(k:TV D.T->TS D.T->Option R)(a:Option R):Option R:=match op with
 |.buildSlice t len d=>(match P.underlying t,y3i ts d.toList with
  |some (.slice e),some b=>(match zly P D t len b with
   |.ok (.sl τ xs 1)=>k (.own ts.nx) (ts.new D (.acc e τ xs true))
   |_=>a)
  |_,_=>a)
 |_=>a
def z00a{R:Type}(all:List Oper)(o:Oper)(k b:TV D.T->TS D.T->Option R)(ts:TS D.T):Option R:=match cpB all o with
 |some (t,x,a)=>(match ts.ev x,ts.ev a with
  |some x,some a=>tCut P D ts t x a (λv=>k v ts) (yfo P D tbl o.op k b 9 ts)
  |_,_=>none)
 |none=>match litB all o with
  |true=>tLit P D ts o.op k (yfo P D tbl o.op k b 9 ts)
  |false=>yfo P D tbl o.op k b 9 ts
def y2b{R:Type}(all:List Oper)(b:TS D.T->Option R)(a:TV D.T->TS D.T->Option R):List Oper->TS D.T->Option R
 |[],ts=>b ts
 |o::rest,ts=>pOp o<|yef D all o ts
  (λts=>z00a P D tbl all o (λv ts=>match ts.put D o.dst v with|some ts=>y2b all b a rest ts|none=>none) a ts)
  (λts=>match ts.put D o.dst (.tup [])with|some ts=>y2b all b a rest ts|none=>none)
def yyr(f:Nat):Bool:=tbl.any λe=>Nat.beq e.f f&&e.pure
def z05u(op:Op):Bool :=
 match op with
 |.alloc _| .box _ _| .store _ _ _| .makeMap _ _| .mapUpdate _ _ _ _| .insert _ _ _ _| .range _ _| .next _ _| .panic _=>false
 |.call c=>match c.callee with
  |.builtin .len| .builtin .min| .builtin .max=>true
  |.value (.func f)=>yyr D tbl f
  |_=>false
 |_=>true
def zhy{R:Type}(all:List Oper)(d:TS D.T->Option R):List Oper->TS D.T->Option R
 |[],ts=>d ts
 |o::rest,ts=>pOp o<|yef D all o ts
  (λts=>match o.op with
   |.call c=>match c.callee with
    |.value x=>match ts.ev x,ts.evs c.args.toList with
     |some (.fn f a b),some vs=>(match (TV.yeu (a++vs++b)).find? (z01s ts)with
      |some _=>yyc D f (a++vs++b) ts (λv _=>match ts.put D o.dst v with|some ts=>zhy all d rest ts|none=>none) (zw2 D f (a++vs++b) ts (λv _=>match ts.put D o.dst v with|some ts=>zhy all d rest ts|none=>none) (λ_ _=>none) (λ_=>none) (tbl.filter (·.pure))) tbl
      |none=>zw2 D f (a++vs++b) ts (λv _=>match ts.put D o.dst v with|some ts=>zhy all d rest ts|none=>none) (λ_ _=>none) (λ_=>none) (tbl.filter (·.pure)))
     |_,_=>none
    |_=>tP P D ts o.op (λv=>match ts.put D o.dst v with|some ts=>zhy all d rest ts|none=>none) (λ_=>none)
   |_=>tPC P D all o (λv=>match ts.put D o.dst v with|some ts=>zhy all d rest ts|none=>none) ts)
  (λts=>match ts.put D o.dst (.tup [])with|some ts=>zhy all d rest ts|none=>none)
def yvz:List Oper->Nat
 |[]=>0
 |o::r=>if z05u D tbl o.op then yvz r+1 else 0
def TV.yuu{T:Nat->Type}:TV T->Bool
 |.any| .own _| .osl _ _| .map _| .bp _ _=>false
 |_=>true
def TV.isOwn{T:Nat->Type}:TV T->Bool
 |.own _=>true
 |_=>false
def z6k{T:Nat->Type}(ts:TS T)(s:Nat):Bool:=match fnd ts.o s with
 |some .gone=>false
 |some _=>true
 |none=>false
def plainO{T:Nat->Type}(ts:TS T)(x:Operand):Option (List Nat):=match ts.ev x with
 |some v=>(match v.yuu with
  |true=>some []
  |false=>none)
 |none=>none
def ownO{T:Nat->Type}(ts:TS T)(x:Operand):Option (List Nat):=match ts.ev x with
 |some (.own s)=>(match fnd ts.o s with
  |some (.acc _ _ _ _)=>some [s]
  |some (.deep _ _ _ _)=>some [s]
  |_=>none)
 |_=>plainO ts x
def rdK{T:Nat->Type}(ts:TS T)(op:Op):Option (List Nat):=match op with
 |.load _ a=>(match ts.ev a with
  |some (.ptr s _)=>some [s]
  |some (.ap s _ _ _ _)=>some [s]
  |some (.ref _ _)=>some []
  |_=>none)
 |.indexAddr _ x _=>ownO ts x
 |.slice _ x _ _ _=>plainO ts x
 |.call c=>(match c.callee,c.args.toList with
  |.builtin .len,[x]=>ownO ts x
  |.builtin .min,_=>some []
  |.builtin .max,_=>some []
  |_,_=>none)
 |.makeSlice _ _ _| .move _| .assign _| .pick _ _ _| .nilCheck _| .binOp _ _ _ _ _| .unOp _ _ _| .convert _ _ _| .makeInterface _ _| .makeFunc _ _ _| .fieldAddr _ _ _| .field _ _ _| .index _ _ _| .typeAssert _ _ _ _| .extract _ _| .build _ _| .buildSlice _ _ _=>some []
 |_=>none
def appW{T:Nat->Type}(nx:Nat):Option (TV T)->Option (TV T)->Option Nat
 |_,some (.bsl _ _)=>none
 |some (.sl _ _ _),_=>some nx
 |some .nils,_=>some nx
 |_,_=>none
def wrK{T:Nat->Type}(ts:TS T)(op:Op):Option Nat:=match op with
 |.alloc _=>some ts.nx
 |.box _ _=>some ts.nx
 |.store _ a _=>(match ts.ev a with
  |some (.ptr s _)=>some s
  |_=>none)
 |.call c=>(match c.callee,c.args.toList with
  |.builtin .append,[s,x]=>appW ts.nx (ts.ev s) (ts.ev x)
  |_,_=>none)
 |_=>none
abbrev Rds:=List (Nat×Option (List Nat))
abbrev Wrs:=List (Nat×Option Nat)
def z055(all:List Oper)(i:Nat)(w:Option Nat)(a:Rds):Bool:=a.all λp=>yoo all p.1 i||(match p.2,w with
 |some [],_=>true
 |some R,some s=>R.all λq => !Nat.beq q s
 |_,_=>false)
def yll(all:List Oper)(i:Nat)(a:Wrs):Bool:=a.all λp=>yoo all p.1 i
def rdOk(all:List Oper)(i:Nat)(R:List Nat)(a:Wrs):Bool:=a.all λp=>yoo all p.1 i||(match R,p.2 with
 |[],_=>true
 |R,some s=>R.all λq => !Nat.beq q s
 |_,_=>false)
def ykg(w:Option Nat)(a:Rds):Rds:=match w with
 |some _=>a
 |none=>a.map λp=>(p.1,match p.2 with|some []=>some []|_=>none)
def ykf(w:Option Nat)(a:Wrs):Wrs:=match w with
 |some _=>a
 |none=>a.map λp=>(p.1,none)
def z04l(all:List Oper)(i:Nat)(rest:List Nat):Bool:=rest.all λj=>yoo all i j
def z00r(all:List Oper)(done:List Nat)(j:Nat):Bool := !done.any (Nat.beq j)&&(match all[j]? with
 |some o=>o.after.toList.all λe => !Region.binds .any e||done.any (Nat.beq e.on)
 |none=>false)
def sched(all:List Oper)(quiet:Op->Bool):Nat->List Nat->List Nat
 |0,_=>[]
 |n+1,done=>match (List.range all.length).find? λj=>z00r all done j&&(match all[j]? with|some o=>quiet o.op|none=>false)with
  |some j=>j::sched all quiet n (j::done)
  |none=>match (List.range all.length).find? λj=>z00r all done j with
   |some j=>j::sched all quiet n (j::done)
   |none=>[]
def z00x{T:Nat->Type}(all:List Oper)(i:Nat)(a:Rds)(M:z6i T):Bool:=a.all λp=>yoo all p.1 i||(match p.2 with
 |some R=>R.all λq=>M.all λm=>match m.2 with
  |.slot s => !Nat.beq q s
  |.nil=>true
 |none=>false)
def z03g{R:Type}(f:Nat)(vs:List (TV D.T))(ts:TS D.T)(a:z6i D.T->Bool)(k b:TV D.T->TS D.T->Option R):Option R:=none
def y7a{R:Type}(f:Nat)(vs:List (TV D.T))(ts:TS D.T)(a:z6i D.T->Bool)(k b:TV D.T->TS D.T->Option R):List (Ent D)->Option R
 |[]=>z03g D f vs ts a k b
 |e::r=>match Nat.beq e.f f with
  |false=>y7a f vs ts a k b r
  |true=>match e.fit D vs ts with
   |.ok (M,x)=>if a M=true∧e.p<=e.aos.length∧e.p<=e.ros.length∧e.p<=e.pos.length∧(List.range e.p).all (λk=>match fnd M k with|some (.slot _)=>true|_=>false)then
      e.go x (λy=>k (ye1 D (z41 D (zch D M e.p ts.nx) e.outs (HL.fst _ y))) (zfu D M e.p ts.nx e.ren (zej D M e.p ts e.ros (HL.snd _ y))))
       (λy=>b (zmd D (zch D M e.p ts.nx) e.pan (HL.fst _ y)) (zej D M e.p ts e.pos (HL.snd _ y)))
      else none
   |_=>y7a f vs ts a k b r
def z05a(τ:DTy):TV D.T->Option (List (τ.S D.T))
 |.nils=>some []
 |.sl t xs _=>zf5 t τ xs
 |_=>none
def fl12(n:Nat):Bool:=match n with
 |1=>true
 |2=>true
 |_=>false
def z010{R:Type}(t u:Nat)(s x:TV D.T)(k:TV D.T->Option R):Option R :=
 match s with
 |.sl b xs d=>(match fl12 d with
  |true=>(match P.underlying t,P.underlying u with
   |some (.slice e),some g=>(match P.info? e,D.ty e with
    |some i,some τ=>(match i.zero with
     |some z=>(match zx9 g&&decide (0<i.size)&&decide (i.bytes<=524288)&&z.cells.size==i.size&&Nat.beq (D.len τ) i.size with
      |true=>(match zf5 b τ xs,z05a D τ x with
       |some xs,some a=>z9s (ext xs a) λzs=>k (.sl τ zs 0)
       |_,_=>none)
      |false=>none)
     |none=>none)
    |_,_=>none)
   |_,_=>none)
  |false=>none)
 |_=>none
def appB(op:Op):Bool:=match op with
 |.call c=>(match c.callee with
  |.builtin .append=>true
  |_=>false)
 |_=>false
def z067(all:List Oper)(i:Nat):Bool:=(List.range all.length).any λj => !Nat.beq i j&&(match all[j]? with|some o=>yu5 o.op|none=>false) && !yoo all i j && !yoo all j i
def zgf{R:Type}(all:List Oper)(l:TS D.T->Option R)(k:TV D.T->TS D.T->Option R):List Nat->Rds->Wrs->TS D.T->Option R
 |[],_,_,ts=>l ts
 |i::rest,h,g,ts=>match all[i]? with
 |none=>none
 |some o=>pOp o<|yef D all o ts
  (λts=>match yu5 o.op with
   |true=>(match appB o.op&&z067 all i with
    |true=>(match o.op with
     |.call c=>(match c.callee,c.args.toList,c.argTypes.toList with
      |.builtin .append,[s,x],[t,u]=>(match ts.ev s,ts.ev x with
       |some s,some x=>z010 P D t u s x (λv=>match ts.put D o.dst v with
        |some d=>zgf all l k rest ((i,some [])::h) g d
        |none=>none)
       |_,_=>none)
      |_,_,_=>none)
     |_=>none)
    |false=>(match z055 all i (wrK ts o.op) h&&yll all i g with
    |true=>tOp P D ts o.op (λv j=>match j.put D o.dst v with
     |some d=>zgf all l k rest (ykg (wrK ts o.op) h) ((i,wrK ts o.op)::ykf (wrK ts o.op) g) d
     |none=>none) (λ_=>none)
    |false=>none))
   |false=>(match rdK ts o.op with
    |some R=>(match rdOk all i R g&&R.all (z6k ts)with
     |true=>tP P D ts o.op (λv=>match ts.put D o.dst v with
      |some d=>zgf all l k rest ((i,some R)::h) g d
      |none=>none) (λ_=>none)
     |false=>none)
    |none=>(match o.op with
     |.call c=>(match c.callee with
      |.value x=>(match ts.ev x,ts.evs c.args.toList with
       |some (.fn f a b),some vs=>(match yyr D tbl f && !vs.any TV.isOwn with
        |true=>zw2 D f (a++vs++b) ts (λv _=>match ts.put D o.dst v with
         |some d=>zgf all l k rest ((i,some [])::h) g d
         |none=>none) (λ_ _=>none) (λ_=>none) (tbl.filter (·.pure))
        |false=>(match z04l all i rest&&yll all i g with
         |true=>y7a D f (a++vs++b) ts (z00x all i h) (λv j=>match j.put D o.dst v with
          |some d=>zgf all l k rest (ykg none h) ((i,none)::ykf none g) d
          |none=>none) (λz j=>k z {j with t:=[]}) (tbl.filter λe => !e.pure)
         |false=>none))
       |_,_=>none)
      |_=>none)
     |_=>none)))
  (λts=>match ts.put D o.dst (.tup [])with
   |some d=>zgf all l k rest ((i,some [])::h) g d
   |none=>none)
def y6r{R:Type}(ops:Array Oper)(draw:Bool)(ts:TS D.T)(a:TS D.T->Option R)(b:TV D.T->TS D.T->Option R):Option R :=
 if draw then
  let n:=yvz D tbl ops.toList
  if P.follows .mixedOrders then
   (if n=ops.size then (if Region.lexB .any ops then zhy P D tbl ops.toList a ops.toList ts else none)
   else (if Region.lexTailB .any ops n then zhy P D tbl ops.toList (λts=>y2b P D tbl ops.toList a b (ops.toList.drop n) ts) (ops.toList.take n) ts
   else (let l:=sched ops.toList (λop => !yu5 op&&(match op with| .call c=>(match c.callee with| .value (.func f)=>yyr D tbl f| .value _=>false|_=>true)|_=>true)) ops.size []
    if y6a .any ops l (Array.replicate ops.size false)&&Nat.beq l.length ops.size&&(List.range ops.size).all (λj=>l.any (Nat.beq j))then zgf P D tbl ops.toList a b l [] [] ts else none)))
  else none
 else y2b P D tbl ops.toList a b ops.toList ts
end
inductive AC where
 |skip
 |region (id:Nat) (ops:Array Oper) (draw:Bool)
 |seq (a b:AC)
 |cond (c:Operand) (a b:AC)
 |block (id:Nat) (a:AC)
 |loop (a:AC)
 |exit (id:Nat)
 |ret
 |lab (l:Nat) (a:AC)
 |other (c:Code)
def AC.erase:AC->Code
 |.skip=>.skip
 |.region id ops d=>.region id ops d
 |.seq a b=>.seq a.erase b.erase
 |.cond c a b=>.cond c a.erase b.erase
 |.block id a=>.block id a.erase
 |.loop a=>.loop a.erase
 |.exit id=>.exit id
 |.ret=>.ret
 |.lab _ a=>a.erase
 |.other c=>c
def y81(f:List (Nat×Nat))(i:Nat)(a:AC):AC :=
 match fnd f i with
 |some l=>.lab l a
 |none=>a
def ann(f:List (Nat×Nat)):Code->Nat->AC×Nat
 |.skip,i=>(y81 f i .skip,i+1)
 |.region id ops d,i=>(y81 f i (.region id ops d),i+1)
 |.seq a b,i=>
  let x:=ann f a (i+1)
  let y:=ann f b x.2
  (y81 f i (.seq x.1 y.1),y.2)
 |.cond c a b,i=>
  let x:=ann f a (i+1)
  let y:=ann f b x.2
  (y81 f i (.cond c x.1 y.1),y.2)
 |.block id a,i=>
  let x:=ann f a (i+1)
  (y81 f i (.block id x.1),x.2)
 |.loop a,i=>
  let x:=ann f a (i+1)
  (y81 f i (.loop x.1),x.2)
 |.exit id,i=>(y81 f i (.exit id),i+1)
 |.ret,i=>(y81 f i .ret,i+1)
 |c,i=>(.other c,i+1)
structure Lb(D:Dat)(R:Type) where
 sh:LSh
 go:HL D.T sh.tys->Option R
def jump(D:Dat){R:Type}(z6m:List (Nat×Lb D R))(l:Nat)(ts:TS D.T):Option R :=
 match fnd z6m l with
 |some a=>a.sh.enter D a.go 9 ts
 |none=>none
structure Ks(T:Nat->Type)(R:Type) where
 kn:TS T->Option R
 kx:List (Nat×(TS T->Option R))
 kr:TS T->Option R
 kp:TV T->TS T->Option R
section
variable (P:Program)(D:Dat)(tbl:List (Ent D)){R:Type}(J:Nat → TS D.T → Option R)
def preS:List Oper->TS D.T->Option Nat
 |[],_=>none
 |o::r,ts=>match o.op with
  |.slice _ x _ _ _=>(match ts.ev x with
   |some (.own k)=>(match fnd ts.o k with
    |some (.deep _ _ _ _)=>some k
    |_=>none)
   |_=>none)
  |.buildSlice _ _ _=>preS r ts
  |.fieldAddr _ _ _| .load _ _| .move _=>(match tP1 P D ts o.op with
   |.ok v=>(match yuo D ts (match v with| .agg cells=>cells|_=>[])with
    |some k=>some k
    |none=>(match ts.put D o.dst v with
     |some ts=>preS r ts
     |none=>none))
   |_=>none)
  |.call _=>preS r ts
  |_=>none
def pre(ops:Array Oper)(d:Bool)(ts:TS D.T):TS D.T:=match d with
 |true=>(match preS P D ops.toList ts with
  |some s=>(match ts.freeze D s with
   |some a=>a
   |none=>ts)
  |none=>ts)
 |false=>ts
def run:AC->TS D.T->Ks D.T R->Option R
 |.skip,ts,K=>K.kn ts
 |.region _ ops d,ts,K=>y6r P D tbl ops d (pre P D ops d ts) K.kn K.kp
 |.seq a b,ts,K=>run a ts {K with kn:=λts=>run b ts K}
 |.cond c a b,ts,K=>match ts.ev c with
  |some (.bool v)=>(match c with
   |.tmp t=>pIf v (run a {ts with t:=(t,.bool true)::ts.t} K) (run b {ts with t:=(t,.bool false)::ts.t} K)
   |_=>pIf v (run a ts K) (run b ts K))
  |_=>none
 |.block id a,ts,K=>run a ts {K with kx:=(id,K.kn)::K.kx}
 |.loop _,_,_=>none
 |.exit id,ts,K=>match fnd K.kx id with
  |some k=>k ts
  |none=>none
 |.ret,ts,K=>K.kr ts
 |.lab l _,ts,_=>J l ts
 |.other _,_,_=>none
def z02g(l:Nat)(a:AC)(K:Ks D.T R):TS D.T->Option R:=λts=>
 match a with
 |.loop b=>run P D tbl J b ts {K with kn:=J l}
 |a=>run P D tbl J a ts K
def AC.at(l:Nat):AC->Ks D.T R->(TS D.T->Option R)->Option (TS D.T->Option R)
 |.seq a b,K,_=>match AC.at l a {K with kn:=λts=>run P D tbl J b ts K} (λ_=>none)with
  |some x=>some x
  |none=>AC.at l b K (λ_=>none)
 |.cond _ a b,K,_=>match AC.at l a K (λ_=>none)with
  |some x=>some x
  |none=>AC.at l b K (λ_=>none)
 |.block id a,K,_=>AC.at l a {K with kx:=(id,K.kn)::K.kx} (λ_=>none)
 |.loop a,K,kl=>AC.at l a {K with kn:=kl} (λ_=>none)
 |.lab d a,K,_=>match Nat.beq d l with
  |true=>some (z02g P D tbl J d a K)
  |false=>AC.at l a K (J d)
 |_,_,_=>none
end
def ywp{α:Type}:List α->Nat->List (Nat×α)
 |[],_=>[]
 |a::l,k=>(k,a)::ywp l (k+1)
def entry(D:Dat)(args:List Sh)(a:List OSh)(b:Nat)(gs:List Nat)(x:HL D.T (Sh.z45 args++z19 a)):TS D.T :=
 ⟨ywp (z41 D (λk=>k) args (HL.fst _ x)) 0,z86 D (λk=>k) a 0 (HL.snd _ x),a.length,b,[],gs.map some⟩
def y7d(P:Program)(D:Dat)(ts:TS D.T):List ResultVar->Option (List (TV D.T))
 |[]=>some []
 |.tmp t::b=>match fnd ts.t t,y7d P D ts b with
  |some v,some vs=>some (v::vs)
  |_,_=>none
 |.cell a t::b=>match fnd ts.t a with
  |some p=>match yvl P D ts t p,y7d P D ts b with
   |some v,some vs=>some (v::vs)
   |_,_=>none
  |none=>none
def yan{R:Type}(D:Dat)(l:LSh)(pack:HL D.T l.tys->R):Ks D.T R :=
 ⟨l.enter D (λx=>some (pack x)) 9,[],l.enter D (λx=>some (pack x)) 9,λ_ _=>none⟩
section
variable (D:Dat)
def ytg(b:Sh)(a:List OSh)(p:Nat)(z:TV D.T)(ts:TS D.T):Option (HL D.T (b.tys++z19 a)) :=
 match ts.d with
 |[]=>match y9x D a.length b z (pins p)with
  |.ok (M,x)=>match yei D a.length ts a 0 M with
   |.ok (_,y)=>some (HL.app x y)
   |_=>none
  |_=>none
 |_=>none
def yav:Option Sh->List DTy
 |none=>[]
 |some s=>s.tys
structure y2m where
 f:Nat
 args:List Sh
 aos:List OSh
 m:Option Sh
 ros:List OSh
 go:HL D.T (Sh.z45 args++z19 aos)->HL D.T (yav m)->Option (HL D.T (z19 ros))
def y2m.ent(a:y2m D):Ent D:={f:=a.f,p:=a.aos.length,args:=a.args,aos:=a.aos,outs:=[],ros:=a.ros,pan:=.nilp,pos:=[],pure:=false,go:=λ_ _ _=>none}
def ylw:(m:Option Sh)->Option (TV D.T)->Option (HL D.T (yav m))
 |none,none=>some ()
 |some s,some z=>match y9x D 0 s z []with
  |.ok (_,x)=>some x
  |_=>none
 |_,_=>none
def y5u{R:Type}(f:Nat)(vs:List (TV D.T))(m:Option (TV D.T))(ts:TS D.T)(k:TS D.T->Option R):List (y2m D)->Option R
 |[]=>none
 |de::r=>match Nat.beq de.f f with
  |false=>y5u f vs m ts k r
  |true=>match ylw D de.m m with
   |none=>y5u f vs m ts k r
   |some a=>match de.ent.fit D vs ts with
    |.ok (M,x)=>if de.aos.length<=de.ros.length∧(List.range de.aos.length).all (λk=>match fnd M k with|some (.slot _)=>true|_=>false)then
       z9s (de.go x a) λy=>k (zej D M de.aos.length ts de.ros y)else none
    |_=>y5u f vs m ts k r
def zmc{R:Type}(des:List (y2m D))(k:TS D.T->Option R)(b:TV D.T->TS D.T->Option R):List (Nat×List (TV D.T))->Option (TV D.T)->TS D.T->Option R
 |[],none,ts=>k ts
 |[],some z,ts=>b z ts
 |(f,vs)::r,m,ts=>y5u D f vs m ts (λa=>zmc des k b r none {a with d:=r}) des
def panK{X R:Type}(d:Sh)(b:List OSh)(p:Nat)(a:HL D.T (d.tys++z19 b)->X)(z:TV D.T)(ts:TS D.T):Option (Res X R):=match ytg D d b p z ts with
 |some y=>some (.pan (a y))
 |none=>none
def yvc{X R:Type}(des:List (y2m D))(l:LSh)(pack:HL D.T l.tys->R)(e:Sh)(b:List OSh)(p:Nat)(a:HL D.T (e.tys++z19 b)->X):Ks D.T (Res X R) :=
 ⟨λts=>zmc D des (l.enter D (λx=>some (.ok (pack x))) 9) (panK D e b p a) ts.d none ts,[],
  λts=>zmc D des (l.enter D (λx=>some (.ok (pack x))) 9) (panK D e b p a) ts.d none ts,
  λz ts=>zmc D des (l.enter D (λx=>some (.ok (pack x))) 9) (panK D e b p a) ts.d (some z) ts⟩
end
def yzc{α:Type}(i:Nat)(a:α)(r:List (Nat×α))(j:Nat):fnd ((i,a)::r) j=if i=j then some a else fnd r j:=by
 simp only[fnd]
 cases h:Nat.beq i j with
 |true=>rw[Qbx (Qaj h)]
 |false=>rw[Qby (λe=>by rw[e,Nat.beq_refl]at h;cases h)]
def znf{α:Type}(f:α->α):∀(l:List (Nat×α)) (j:Nat),fnd (l.map λp=>(p.1,f p.2)) j=(fnd l j).map f
 |[],j=>rfl
 |(i,a)::r,j=>by
  rw[List.map_cons,yzc,yzc];split
  ·rfl
  ·exact znf f r j
def HL.nth{T:Nat->Type}:(l:List DTy)->HL T l->Nat->Option ((t:DTy)×t.S T)
 |[],_,_=>none
 |t::_,x,0=>some ⟨t,x.1⟩
 |_::l,x,j+1=>HL.nth l x.2 j
def HL.zmb{T:Nat->Type}:∀(l:List DTy) (x:HL T l) (j:Nat),j<l.length->∃p,HL.nth l x j=some p∧l[j]? = some p.1
 |[],_,j,h=>by simp at h
 |t::_,x,0,_=>⟨⟨t,x.1⟩,rfl,rfl⟩
 |_::l,x,j+1,h=>by
  have⟨p,b,a⟩:=HL.zmb l x.2 j (by simpa using h);exact⟨p,b,by simpa using a⟩
def HL.zfq{T:Nat->Type}:∀(l:List DTy) (x:HL T l) (j:Nat) (p:(t:DTy)×t.S T),HL.nth l x j=some p->j<l.length∧l[j]? = some p.1
 |[],_,j,p,h=>by simp[HL.nth]at h
 |t::_,x,0,p,h=>by simp[HL.nth]at h;subst h;simp
 |_::l,x,j+1,p,h=>by
  have⟨b,a⟩:=HL.zfq l x.2 j p h;exact⟨by simpa using b,by simpa using a⟩
structure Dat.Ok(P:Program)(D:Dat):Prop where
 enc:∀i x,D.enc i x = .agg (D.els (D.fl i) (D.get i x))
 getMake:∀i x,D.get i (D.make i x)=x
 flat:∀i t,t∈D.fl i->(match t with| .st _=>False| .nat=>False|_=>True)
 ty:∀e t,D.ty e=some t->t ≠ .nat
 kin:∀i x (Dm:Nat->Nat->Prop),V.kin Dm (D.enc i x)
section
variable {D:Dat}
def yb5:∀(l:List DTy) (x:HL D.T l),(D.els l x).length=l.length
 |[],_=>rfl
 |t::l,x=>by simp[Dat.els,yb5 l x.2]
def ylh:∀(l:List DTy) (x:HL D.T l) (j:Nat),(D.els l x)[j]? = (HL.nth l x j).map λp=>D.el p.1 p.2
 |[],_,j=>by simp[Dat.els,HL.nth]
 |t::l,x,0=>by simp[Dat.els,HL.nth]
 |t::l,x,j+1=>by simpa[Dat.els,HL.nth]using ylh l x.2 j
def zc4:∀(l:List DTy) (x:HL D.T l),(D.leaves l x).length=l.length
 |[],_=>rfl
 |t::l,x=>by simp[Dat.leaves,zc4 l x.2]
def zie:∀(l:List DTy) (x:HL D.T l) (j:Nat),(D.leaves l x)[j]? = (HL.nth l x j).map λp=>D.leaf p.1 p.2
 |[],_,j=>by simp[Dat.leaves,HL.nth]
 |t::l,x,0=>by simp[Dat.leaves,HL.nth]
 |t::l,x,j+1=>by simpa[Dat.leaves,HL.nth]using zie l x.2 j
inductive DR (D:Dat):(t:DTy)->t.S D.T->V->Prop where
 |bool (b:Bool):DR D .bool b (.bool b)
 |int (k:IntKind) (n:Int):DR D (.int k) n (.int k n)
 |str (s:B8):DR D .str s (.str s)
 |nat (n:Nat):DR D .nat n .any
 |nil (t:DTy):DR D (.sl t) ([]:List (t.S D.T)) .nils
 |sl (t:DTy) (xs:List (t.S D.T)) (ws:List V) (full:Bool) (hl:ws.length=xs.length) (h:∀(j:Nat) (x:t.S D.T) (w:V),xs[j]? = some x->ws[j]? = some w->DR D t x w):DR D (.sl t) xs (.sl (D.len t) ws full)
 |st (i:Nat) (x:D.T i) (vs:List V) (hl:vs.length=(D.fl i).length) (h:∀(j:Nat) (p:(t:DTy)×t.S D.T) (v:V),HL.nth (D.fl i) (D.get i x) j=some p->vs[j]? = some v->DR D p.1 p.2 v):DR D (.st i) x (.agg vs)
 |enc (i:Nat) (x:D.T i):DR D (.st i) x (D.enc i x)
variable {P:Program}(hD:D.Ok P)
include hD
theorem yoy(t:DTy)(x:t.S D.T):(D.el t x).cells.length=D.len t:=by
 cases t with
 |st i=>exact(congrArg (λv=>v.cells.length) (hD.enc i x)).trans (yb5 _ _)
 |_=>rfl
theorem DR.cells{t:DTy}{x:t.S D.T}{v:V}(h:DR D t x v):v.cells.length=D.len t:=by
 cases h with
 |enc i x=>exact yoy hD (.st i) x
 |st i x vs a h=>simpa[V.cells,Dat.len]using a
 |_=>rfl
omit hD in
theorem DR.elsl(t:DTy)(xs:List (t.S D.T))(h:∀x,DR D t x (D.el t x)):DR D (.sl t) xs (.sl (D.len t) (xs.map (D.el t)) false) :=
 .sl t xs _ false (by simp) λj x w b a=>by
   rw[Qan,b]at a;cases a;exact h x
omit hD in
theorem DR.el:∀(t:DTy) (x:t.S D.T),DR D t x (D.el t x)
 |.bool,b=>.bool b
 |.int k,n=>.int k n
 |.str,s=>.str s
 |.nat,n=>.nat n
 |.sl t,xs=>DR.elsl t xs (DR.el t)
 |.st i,x=>.enc i x
end
structure Slot where
 v:V
 k:Option Nat
 ws:List V
 fp:List Nat:=[]
def Slot.has(sl:Slot)(i:Nat):Prop:=sl.k=some i∨i∈sl.fp
def ya6{T:Nat->Type}:(t:DTy)->t.S T->PV
 |.bool,b=>.bool b
 |.int k,n=>.int k n
 |.str,s=>.str s
 |_,_=>.bool false
def z04b(D:Dat):∀{t:DTy},t.flat=true->∀x:t.S D.T,(ya6 t x).v=D.el t x
 |.bool,_,_=>rfl
 |.int _,_,_=>rfl
 |.str,_,_=>rfl
section
variable (D:Dat)(ρ:List Slot)(lv:Nat)
mutual
def VR:TV D.T->V->Prop
 |.any,_=>True
 |.bool b,v=>v = .bool b
 |.int k n,v=>v = .int k n
 |.str s,v=>v = .str s
 |.nilp,v=>v = .nilp
 |.nils,v=>v = .nils
 |.mapn,v=>v = .mapn
 |.nilf,v=>v = .nilf
 |.nili,v=>v = .nili
 |.sl t xs h,v=>DR D (.sl t) xs v∧(1<=h->∃ws,v = .sl (D.len t) ws true)∧(h=2->xs=[])
 |.own s,v=>∃sl,ρ[s]? = some sl∧v=sl.v∧v.leaf=true
 |.osl s g,v=>∃sl j e,ρ[s]? = some sl∧sl.k=some j∧sl.v = .hs lv j e 0 sl.ws.length false∧0<=g∧g.toNat<=sl.ws.length∧(v = .hs lv j e g.toNat (sl.ws.length-g.toNat) false∨(g.toNat=sl.ws.length∧∃sz,v = .sl sz [] false))
 |.ptr s d,v=>∃sl i,ρ[s]? = some sl∧sl.k=some i∧v = .ptr lv i d
 |.bp s d,v=>∃sl i,ρ[s]? = some sl∧sl.k=some i∧v = .ap lv i 0 0 d
 |.map s,v=>∃sl i,ρ[s]? = some sl∧sl.k=some i∧v = .map lv i
 |.mc t es,v=>t.flat=true∧v = .mapc (es.map λp=>(.str p.1,ya6 t p.2))
 |.ref cs d,v=>∃vs,v = .ref vs d∧VRL cs vs
 |.ap s t i x d,v=>∃sl w,ρ[s]? = some sl∧0<=i∧sl.ws[i.toNat]? = some w∧DR D t x w ∧
  (match sl.k with
  |none=>v = .ref w.cells d
  |some j=>∃e n,sl.v = .hs lv j e 0 n false∧v = .ap lv j e i.toNat d)
 |.fn f a b,v=>∃l bs,v = .fn f l bs∧VRL a l∧VRL b bs
 |.iface t x,v=>∃y,v = .iface t y∧VR x y
 |.agg cs,v=>∃vs,v = .agg vs∧VRL cs vs
 |.tup cs,v=>∃vs,v = .tup vs∧VRL cs vs
 |.dp s i d,v=>∃sl j e m,ρ[s]? = some sl∧sl.v = .hs lv j e 0 m false∧0<=i∧i.toNat<m∧v = .ap lv j e i.toNat d
 |.bsl q cs,v=>∃vs,v = .sl (D.len (.st q)) vs true∧VRL cs vs
def VRL:List (TV D.T)->List V->Prop
 |[],vs=>vs=[]
 |c::cs,vs=>∃v r,vs=v::r∧VR c v∧VRL cs r
end
end
section
variable {D:Dat}{ρ:List Slot}{lv:Nat}
def VRL.length:∀{cs:List (TV D.T)}{vs:List V},VRL D ρ lv cs vs->cs.length=vs.length
 |[],vs,h=>by simp only[VRL]at h;subst h;rfl
 |c::cs,vs,h=>by
  simp only[VRL]at h;obtain⟨v,r,rfl,_,a⟩:=h;simp[VRL.length a]
def VRL.get:∀{cs:List (TV D.T)}{vs:List V},VRL D ρ lv cs vs->∀(j:Nat) (c:TV D.T),cs[j]? = some c->∃v,vs[j]? = some v∧VR D ρ lv c v
 |[],vs,h,j,c,a=>by simp at a
 |c::cs,vs,h,0,d,a=>by
  simp only[VRL]at h;obtain⟨v,r,rfl,e,b⟩:=h;simp at a;subst a
  exact⟨v,rfl,e⟩
 |c::cs,vs,h,j+1,d,a=>by
  simp only[VRL]at h;obtain⟨v,r,rfl,e,b⟩:=h;have⟨u,g,i⟩:=VRL.get b j d (by simpa using a);exact⟨u,by simpa using g,i⟩
def VRL.of:∀{cs:List (TV D.T)}{vs:List V},cs.length=vs.length->(∀(j:Nat) (c:TV D.T) (v:V),cs[j]? = some c->vs[j]? = some v->VR D ρ lv c v)->VRL D ρ lv cs vs
 |[],[],_,_=>by simp[VRL]
 |[],v::vs,h,_=>by simp at h
 |c::cs,[],h,_=>by simp at h
 |c::cs,v::vs,h,k=>by
  simp only[VRL];exact⟨v,vs,rfl,k 0 c v rfl rfl,VRL.of (by simpa using h) λj e a d b=>k (j+1) e a (by simpa using d) (by simpa using b)⟩
def VRL.y3q{cs:List (TV D.T)}{vs:List V}(h:VRL D ρ lv cs vs){j:Nat}{c:TV D.T}{v:V}(e:cs[j]? = some c)(b:vs[j]? = some v):VR D ρ lv c v:=by
 have⟨u,a,d⟩:=h.get j c e
 rw[b]at a;cases a;exact d
def VRL.take{cs:List (TV D.T)}{vs:List V}(h:VRL D ρ lv cs vs)(n:Nat):VRL D ρ lv (cs.take n) (vs.take n) :=
 .of (by simp[h.length]) λj c v a b=>by
   rw[Qaw]at a b;split at a
   ·rw[Qbx ‹_›]at b;exact h.y3q a b
   ·cases a
def VRL.drop{cs:List (TV D.T)}{vs:List V}(h:VRL D ρ lv cs vs)(n:Nat):VRL D ρ lv (cs.drop n) (vs.drop n) :=
 .of (by simp[h.length]) λj c v b a=>by
   rw[Qbf]at b a;exact h.y3q b a
def VRL.append{a b:List (TV D.T)}{x y:List V}(h:VRL D ρ lv a x)(k:VRL D ρ lv b y):VRL D ρ lv (a++b) (x++y) :=
 .of (by simp[h.length,k.length]) λj c v e d=>by
   rw[Qbe]at e d;rw[<-h.length]at d;split at e
   ·rw[Qbx ‹_›]at d;exact h.y3q e d
   ·rw[Qby ‹_›]at d;exact k.y3q e d
def VRL.z02{a b:List (TV D.T)}{x y:List V}(h:VRL D ρ lv a x)(k:VRL D ρ lv b y)(d:Nat):VRL D ρ lv (zlc a d b) (z02 x d y):=by
 unfold zlc Go.Ab.z02;rw[k.length];exact((h.take d).append k).append (h.drop _)
def lookup_append{ρ e:List Slot}{s:Nat}{sl:Slot}(h:ρ[s]? = some sl):(ρ++e)[s]? = some sl:=by
 rw[Qal (Qaa.1 h).1];exact h
mutual
def VR.more(e:List Slot):∀{x:TV D.T}{v:V},VR D ρ lv x v->VR D (ρ++e) lv x v
 |.any,_,_=>by simp only[VR]
 |.bool b,_,h=>by simpa only[VR]using h
 |.int k n,_,h=>by simpa only[VR]using h
 |.str s,_,h=>by simpa only[VR]using h
 |.nilp,_,h=>by simpa only[VR]using h
 |.nils,_,h=>by simpa only[VR]using h
 |.mapn,_,h=>by simpa only[VR]using h
 |.nilf,_,h=>by simpa only[VR]using h
 |.nili,_,h=>by simpa only[VR]using h
 |.sl t xs z,_,h=>by simpa only[VR]using h
 |.own s,_,h=>by simp only[VR]at h ⊢;have⟨sl,g,d⟩:=h;exact⟨sl,lookup_append g,d⟩
 |.osl s u,_,h=>by simp only[VR]at h ⊢;have⟨sl,j,o,g,d⟩:=h;exact⟨sl,j,o,lookup_append g,d⟩
 |.ptr s l,_,h=>by simp only[VR]at h ⊢;have⟨sl,i,g,d⟩:=h;exact⟨sl,i,lookup_append g,d⟩
 |.bp s l,_,h=>by simp only[VR]at h ⊢;have⟨sl,i,g,d⟩:=h;exact⟨sl,i,lookup_append g,d⟩
 |.map s,_,h=>by simp only[VR]at h ⊢;have⟨sl,i,g,d⟩:=h;exact⟨sl,i,lookup_append g,d⟩
 |.mc t es,_,h=>by simpa only[VR]using h
 |.ref cs l,_,h=>by simp only[VR]at h ⊢;have⟨vs,g,d⟩:=h;exact⟨vs,g,VRL.more e d⟩
 |.ap s t i x l,_,h=>by simp only[VR]at h ⊢;have⟨sl,w,g,d⟩:=h;exact⟨sl,w,lookup_append g,d⟩
 |.fn f a b,_,h=>by simp only[VR]at h ⊢;have⟨r,bs,g,d,p⟩:=h;exact⟨r,bs,g,VRL.more e d,VRL.more e p⟩
 |.iface t x,_,h=>by simp only[VR]at h ⊢;have⟨y,g,d⟩:=h;exact⟨y,g,VR.more e d⟩
 |.agg cs,_,h=>by simp only[VR]at h ⊢;have⟨vs,g,d⟩:=h;exact⟨vs,g,VRL.more e d⟩
 |.tup cs,_,h=>by simp only[VR]at h ⊢;have⟨vs,g,d⟩:=h;exact⟨vs,g,VRL.more e d⟩
 |.dp s i l,_,h=>by simp only[VR]at h ⊢;have⟨sl,j,o,m,g,d⟩:=h;exact⟨sl,j,o,m,lookup_append g,d⟩
 |.bsl q cs,_,h=>by simp only[VR]at h ⊢;have⟨vs,g,d⟩:=h;exact⟨vs,g,VRL.more e d⟩
def VRL.more(e:List Slot):∀{cs:List (TV D.T)}{vs:List V},VRL D ρ lv cs vs->VRL D (ρ++e) lv cs vs
 |[],_,h=>by simpa only[VRL]using h
 |c::cs,_,h=>by simp only[VRL]at h ⊢;have⟨v,r,d,b,a⟩:=h;exact⟨v,r,d,VR.more e b,VRL.more e a⟩
end
def VR.cells{x:TV D.T}{v:V}(h:VR D ρ lv x v)(o:x.kzl=true):VRL D ρ lv x.cells v.cells:=by
 have one:∀{x:TV D.T}{v:V},VR D ρ lv x v->v.cells=[v]->x.cells=[x]->VRL D ρ lv x.cells v.cells:=λ{x v} h l k=>by
  rw[l,k];simp only[VRL];exact⟨v,[],rfl,h,rfl⟩
 cases x <;> simp only[TV.kzl,TV.leaf,Bool.false_eq_true]at o
 case agg cs=>simp only[VR]at h;obtain⟨vs,rfl,k⟩:=h;exact k
 case sl t xs z=>exact one h (by simp only[VR]at h;have⟨h,_⟩:=h;cases h <;> rfl) rfl
 case own s=>
  refine one h ?_ rfl;simp only[VR]at h;have⟨sl,_,_,h⟩:=h
  cases v <;> first|rfl|(simp[V.leaf]at h)
 case ap s t i x d=>
  refine one h ?_ rfl;simp only[VR]at h;have⟨sl,w,l,k,u,r,e⟩:=h;split at e
  ·subst e;rfl
  ·have⟨g,n,_,e⟩:=e;subst e;rfl
 case fn f a b=>refine one h ?_ rfl;simp only[VR]at h;obtain⟨A,bs,rfl,_⟩:=h;rfl
 case iface t x=>refine one h ?_ rfl;simp only[VR]at h;obtain⟨y,rfl,_⟩:=h;rfl
 case ref cs d=>refine one h ?_ rfl;simp only[VR]at h;obtain⟨y,rfl,_⟩:=h;rfl
 case osl s p=>refine one h ?_ rfl;simp only[VR]at h;have⟨y,i,g,_,_,_,_,_,h⟩:=h;rcases h with rfl|⟨_,sz,rfl⟩ <;> rfl
 case ptr s d=>refine one h ?_ rfl;simp only[VR]at h;obtain⟨y,i,_,_,rfl⟩:=h;rfl
 case map s=>refine one h ?_ rfl;simp only[VR]at h;obtain⟨y,i,_,_,rfl⟩:=h;rfl
 case mc t es=>refine one h ?_ rfl;simp only[VR]at h;obtain⟨_,rfl⟩:=h;rfl
 case bp s d=>refine one h ?_ rfl;simp only[VR]at h;obtain⟨y,i,_,_,rfl⟩:=h;rfl
 case dp s i d=>refine one h ?_ rfl;simp only[VR]at h;obtain⟨y,j,g,m,_,_,_,_,rfl⟩:=h;rfl
 case bsl q cs=>refine one h ?_ rfl;simp only[VR]at h;obtain⟨vs,rfl,_⟩:=h;rfl
 all_goals (refine one h ?_ rfl;simp only[VR]at h;subst h;rfl)
def VR.kzl{x:TV D.T}{v:V}(h:VR D ρ lv x v)(k:x.kzl=true):v.kzl=true:=by
 have one:∀{v:V},v.leaf=true->v.kzl=true:=λ{v} h=>by cases v <;> first|rfl|exact h
 cases x <;> simp only[TV.kzl,TV.leaf,Bool.false_eq_true]at k
 case agg cs=>simp only[VR]at h;obtain⟨vs,rfl,l⟩:=h;rfl
 case sl t xs z=>simp only[VR]at h;have⟨h,_⟩:=h;cases h <;> rfl
 case own s=>simp only[VR]at h;have⟨sl,_,_,h⟩:=h;exact one h
 case ap s t i x d=>
  simp only[VR]at h;have⟨sl,w,u,l,r,p,e⟩:=h;split at e
  ·subst e;rfl
  ·have⟨g,n,_,e⟩:=e;subst e;rfl
 case fn f a b=>simp only[VR]at h;obtain⟨A,bs,rfl,_⟩:=h;rfl
 case iface t x=>simp only[VR]at h;obtain⟨y,rfl,_⟩:=h;rfl
 case ref cs d=>simp only[VR]at h;obtain⟨y,rfl,_⟩:=h;rfl
 case osl s o=>simp only[VR]at h;have⟨y,i,g,_,_,_,_,_,h⟩:=h;rcases h with rfl|⟨_,sz,rfl⟩ <;> rfl
 case ptr s d=>simp only[VR]at h;obtain⟨y,i,_,_,rfl⟩:=h;rfl
 case map s=>simp only[VR]at h;obtain⟨y,i,_,_,rfl⟩:=h;rfl
 case mc t es=>simp only[VR]at h;obtain⟨_,rfl⟩:=h;rfl
 case bp s d=>simp only[VR]at h;obtain⟨y,i,_,_,rfl⟩:=h;rfl
 case dp s i d=>simp only[VR]at h;obtain⟨y,j,g,m,_,_,_,_,rfl⟩:=h;rfl
 case bsl q cs=>simp only[VR]at h;obtain⟨vs,rfl,_⟩:=h;rfl
 all_goals (simp only[VR]at h;subst h;rfl)
def VR.zd8(v:Value):VR D ρ lv (TV.zd8 v) (Go.Ab.zd8 v):=by
 unfold TV.zd8 Go.Ab.zd8;split <;> simp only[VR]
def VRL.map{α:Type}(f:α->TV D.T)(g:α->V)(h:∀x,VR D ρ lv (f x) (g x)):∀l:List α,VRL D ρ lv (l.map f) (l.map g)
 |[]=>by simp[VRL]
 |x::l=>by simp only[List.map_cons,VRL];exact⟨_,_,rfl,h x,VRL.map f g h l⟩
def VR.ofC(v:Value):VR D ρ lv (TV.ofC v) (ofConst v):=by
 cases v with
 |agg cs=>
  simp only[TV.ofC,ofConst];split
  ·simp only[VR];exact⟨_,rfl,VRL.map _ _ VR.zd8 _⟩
  ·simp only[VR]
 |tuple cs=>simp only[TV.ofC,ofConst,VR];exact⟨_,rfl,VRL.map _ _ VR.zd8 _⟩
 |iface t v=>simp only[TV.ofC,ofConst,VR];exact⟨_,rfl,VR.zd8 _⟩
 |_=>simp only[TV.ofC,ofConst];exact VR.zd8 _
def VR.leaf{t:DTy}{x:t.S D.T}{v:V}(h:DR D t x v):VR D ρ lv (D.leaf t x) v:=by
 cases t with
 |bool=>cases h;simp[Dat.leaf,VR]
 |int k=>cases h;simp[Dat.leaf,VR]
 |str=>cases h;simp[Dat.leaf,VR]
 |nat=>simp[Dat.leaf,VR]
 |st i=>simp[Dat.leaf,VR]
 |sl t=>simp only[Dat.leaf,VR];exact⟨h,by omega,by omega⟩
variable {P:Program}(hD:D.Ok P)
include hD
theorem DR.agg{i:Nat}{x:D.T i}{v:V}(h:DR D (.st i) x v):∃vs,v = .agg vs∧vs.length=(D.fl i).length∧∀(j:Nat) (p:(t:DTy)×t.S D.T) (u:V),HL.nth (D.fl i) (D.get i x) j=some p->vs[j]? = some u->DR D p.1 p.2 u:=by
 cases h with
 |st _ _ vs d h=>exact⟨vs,rfl,d,h⟩
 |enc=>exact⟨_,hD.enc i x,yb5 _ _,λj p u b a=>by
  rw[ylh,b]at a;cases a
  exact DR.el _ _⟩
theorem VR.tv{t:DTy}{x:t.S D.T}{v:V}(h:DR D t x v):VR D ρ lv (D.tv t x) v:=by
 cases t with
 |st i=>
  obtain⟨vs,rfl,g,e⟩:=DR.agg hD h;simp only[Dat.tv,VR];refine⟨vs,rfl,.of (by rw[zc4,g]) λj c u a b =>?_⟩;rw[zie,Qaf]at a;obtain⟨p,d,rfl⟩:=a
  exact .leaf (e j p u d b)
 |bool=>exact VR.leaf h
 |int k=>exact VR.leaf h
 |str=>exact VR.leaf h
 |nat=>exact VR.leaf h
 |sl t=>exact VR.leaf h
omit hD in
theorem y2a{T:Nat->Type}{a b:DTy}{x:List (B8×a.S T)}{y:List (B8×b.S T)}(h:zxq a b x=some y):∃e:a=b,y=e▸x:=by
 unfold zxq at h;split at h
 ·rename_i e;injection h with h;exact⟨e,h.symm⟩
 ·cases h
omit hD in
theorem y4g{α β:Type}:∀l:List (α×β),List.zip (l.map (·.1)) (l.map (·.2))=l
 |[]=>rfl
 |p::l=>by
  show(p.1,p.2)::List.zip (l.map (·.1)) (l.map (·.2))=p::l;rw[y4g l]
omit hD in
theorem z90{T:Nat->Type}{a b:DTy}{x:List (a.S T)}{y:List (b.S T)}(h:zf5 a b x=some y):∃e:a=b,y=e▸x:=by
 unfold zf5 at h;split at h
 ·rename_i e;injection h with h;exact⟨e,h.symm⟩
 ·cases h
omit hD in
theorem znc{t:DTy}{c:TV D.T}{x:t.S D.T}{v:V}(h:zl2 D t c = .ok x)(a:VR D ρ lv c v):DR D t x v:=by
 unfold zl2 at h;split at h
 ·cases h;simp only[VR]at a;subst a;exact .bool _
 ·split at h
  ·rename_i e;cases h;subst e;simp only[VR]at a;subst a;exact .int _ _
  ·cases h
 ·cases h;simp only[VR]at a;subst a;exact .str _
 ·rename_i t d xs g
  cases b:zf5 d t xs with
  |none=>rw[b]at h;cases h
  |some y=>
   rw[b]at h;cases h;obtain⟨rfl,rfl⟩:=z90 b;simp only[VR]at a;exact a.1
 ·cases h;simp only[VR]at a;subst a;exact .nil _
 ·cases h
 ·cases h
omit hD in
theorem zor:∀{l:List DTy}{cs:List (TV D.T)}{x:HL D.T l}{vs:List V},zbn D l cs = .ok x->VRL D ρ lv cs vs->vs.length=l.length∧∀(j:Nat) (p:(t:DTy)×t.S D.T) (u:V),HL.nth l x j=some p->vs[j]? = some u->DR D p.1 p.2 u
 |[],[],x,vs,h,a=>by simp only[VRL]at a;subst a;exact⟨rfl,λj p u _ b=>by simp at b⟩
 |[],c::cs,x,vs,h,a=>by simp[zbn]at h
 |t::l,[],x,vs,h,a=>by simp[zbn]at h
 |t::l,c::cs,x,vs,h,a=>by
  simp only[VRL]at a;obtain⟨v,r,rfl,n,m⟩:=a;simp only[zbn]at h;split at h
  ·rename_i y k;split at h
   ·rename_i o e;cases h;have⟨i,g⟩:=zor e m;refine⟨by simp[i],λj p u d b =>?_⟩
    cases j with
    |zero=>simp only[HL.nth,Qbu]at d;subst d;simp at b;subst b;exact znc k n
    |succ j=>exact g j p u d (by simpa using b)
   ·cases h
   ·cases h
  ·cases h
  ·cases h
theorem zkv{t:DTy}{c:TV D.T}{x:t.S D.T}{v:V}(h:asD D t c = .ok x)(a:VR D ρ lv c v):DR D t x v:=by
 unfold asD at h;split at h
 ·rename_i i cs;split at h
  ·rename_i y e;cases h;simp only[VR]at a;obtain⟨vs,rfl,a⟩:=a;have⟨d,b⟩:=zor e a;exact .st i _ vs d (by rw[hD.getMake];exact b)
  ·cases h
  ·cases h
 ·cases h
 ·exact znc h a
theorem y38{t:DTy}:∀{cs:List (TV D.T)}{xs:List (t.S D.T)}{vs:List V},yos D t cs = .ok xs->VRL D ρ lv cs vs->vs.length=xs.length∧∀(j:Nat) (x:t.S D.T) (w:V),xs[j]? = some x->vs[j]? = some w->DR D t x w
 |[],xs,vs,h,b=>by simp only[VRL]at b;subst b;simp only[yos]at h;cases h;exact⟨rfl,λj x w a=>by simp at a⟩
 |c::cs,xs,vs,h,b=>by
  simp only[VRL]at b;obtain⟨v,r,rfl,m,l⟩:=b;simp only[yos]at h;split at h
  ·rename_i y k;split at h
   ·rename_i n e;cases h;have⟨i,g⟩:=y38 e l;refine⟨by simp[i],λj x w a d =>?_⟩
    cases j with
    |zero=>simp at a d;subst a;subst d;exact zkv hD k m
    |succ j=>exact g j x w (by simpa using a) (by simpa using d)
   ·cases h
   ·cases h
  ·cases h
  ·cases h
end
end
end Go.Ab
namespace Go.Ab
open Go
structure Fr where
 lv:Nat
 E:Nat->Nat->Option yz5
 e0:Nat->Nat->Option yz5
 L0:List (Option yz5)
 out:Nat->Prop
 pin:List Slot
 gv:List V
def ys2{T S:Type}(g:T->S)(k:B8):∀ms:List (B8×T),z6b (ms.map λp=>(p.1,g p.2)) k=(z6b ms k).map g
 |[]=>rfl
 |p::ms=>by
  have a:=ys2 g k ms;unfold z6b at a ⊢;rw[List.map_cons,List.find?_cons,List.find?_cons];cases k==p.1
  ·exact a
  ·rfl
def yqr{T:Type}{k:B8}{x:T}:∀{ms:List (B8×T)},z6b ms k=some x->∃p∈ms,p.2=x
 |[],h=>by cases h
 |p::ms,h=>by
  unfold z6b at h;rw[List.find?_cons]at h;cases a:k==p.1 <;> rw[a]at h
  ·obtain⟨q,d,b⟩:=yqr (ms:=ms) (by unfold z6b;exact h);exact⟨q,Qai _ d,b⟩
  ·exact⟨p,Qak,by simpa using h⟩
def z00n{T S:Type}(g:T->S)(k:B8)(x:T)(ms:List (B8×T)):z99 (ms.map λp=>(p.1,g p.2)) k (g x)=(z99 ms k x).map λp=>(p.1,g p.2):=by
 unfold z99;rw[List.findIdx?_map];show(match ms.findIdx? (λp=>k==p.1)with|none=>_|some j=>_)=_
 cases ms.findIdx? (λp=>k==p.1)with
 |none=>simp
 |some j=>simp[List.map_set]
def z01w{T:Type}{k:B8}{x:T}{ms:List (B8×T)}{p:B8×T}(h:p∈z99 ms k x):p=(k,x)∨p∈ms:=by
 unfold z99 at h;split at h
 ·rcases Qbb.1 h with h|h
  ·exact .inr h
  ·exact .inl (Qbc.1 h)
 ·rcases List.mem_or_eq_of_mem_set h with h|h
  ·exact .inr h
  ·exact .inl h
inductive OM where
 |dat
 |own (ty:Nat)
 |el
def yxb:Option Nat->OM
 |none=>.dat
 |some ty=>.own ty
inductive DO (D:Dat) (lv:Nat) (L:List (Option yz5)):OM->(t:DTy)->t.S D.T->V->List Nat->Prop where
 |dat {t:DTy} {x:t.S D.T}{v:V}(h:DR D t x v):DO D lv L .dat t x v []
 |nil {ty:Nat} {t:DTy}{v:V}(h:DR D (.sl t) ([]:List (t.S D.T)) v) (hv:v = .nils∨v = .sl (D.len t) [] true):DO D lv L (.own ty) (.sl t) ([]:List (t.S D.T)) v []
 |own {ty:Nat} {t:DTy}{xs:List (t.S D.T)}{j ver:Nat}{cp:Option Nat}{ws:List V}{fps:List (List Nat)}(hL:L[j]? = some (some (.arr ver ty (D.len t) ws cp))) (hl:ws.length=xs.length) (hf:fps.length=xs.length)
  (he:∀(n:Nat) (x:t.S D.T) (w:V) (c:List Nat),xs[n]? = some x->ws[n]? = some w->fps[n]? = some c->DO D lv L .el t x w c):DO D lv L (.own ty) (.sl t) xs (.hs lv j ver 0 ws.length false) (j::fps.flatten)
 |el {i:Nat} {x:D.T i}{vs:List V}{cs:List (List Nat)}(hl:vs.length=(D.fl i).length) (hc:cs.length=(D.fl i).length)
  (h:∀(f:Nat) (p:(t:DTy)×t.S D.T) (u:V) (b:List Nat),HL.nth (D.fl i) (D.get i x) f=some p->vs[f]? = some u->cs[f]? = some b->DO D lv L (yxb (D.ow i f)) p.1 p.2 u b):DO D lv L .el (.st i) x (.agg vs) cs.flatten
 |elf {t:DTy} {x:t.S D.T}{v:V}(ht:∀i f,f<(D.fl i).length->t = .st i->D.ow i f=none) (h:DR D t x v):DO D lv L .el t x v []
section
variable (D:Dat)(ρ:List Slot)(lv:Nat)(L:List (Option yz5))
def z2a(h:Option (Int×Nat×Nat))(n f:Nat):Option Nat:=match h with
 |some (a,b,s)=>if a.toNat=n∧b=f then some s else none
 |none=>none
def EO(q:Nat)(h:Option (Int×Nat×Nat))(n:Nat)(x:D.T q)(w:V)(c:List Nat):Prop :=
 ∃(vs:List V) (cs:List (List Nat)),w = .agg vs∧vs.length=(D.fl q).length∧cs.length=(D.fl q).length∧c=cs.flatten ∧
  ∀(f:Nat) (p:(t:DTy)×t.S D.T) (u:V) (b:List Nat),HL.nth (D.fl q) (D.get q x) f=some p->vs[f]? = some u->cs[f]? = some b ->
   match z2a h n f with
   |some s=>b=[]∧(D.ow q f).isSome=true∧u.leaf=true∧∃sl',ρ[s]? = some sl'∧u=sl'.v
   |none=>DO D lv L (yxb (D.ow q f)) p.1 p.2 u b
def OR(sl:Slot):TO D.T->Prop
 |.cells cs=>∃i vs,sl.k=some i∧L[i]? = some (some (.cells vs))∧VRL D ρ lv cs vs
 |.acc ty t xs w=>sl.ws.length=xs.length∧(∀(j:Nat) (x:t.S D.T) (v:V),xs[j]? = some x->sl.ws[j]? = some v->DR D t x v) ∧
  (match sl.k with
  |none=>(sl.v = .nils∧sl.ws=[])∨((sl.v = .sl (D.len t) sl.ws true∧t ≠ .int .u8)∧(w=true->sl.ws=[]))
  |some i=>∃d m,sl.v = .hs lv i d 0 sl.ws.length false∧L[i]? = some (some (.arr d ty (D.len t) sl.ws m)))
 |.siter s o=>∃i,sl.k=some i∧L[i]? = some (some (.siter s o))
 |.mp ty t es=>∃(i:Nat) (ms:List (B8×(t.S D.T×V))),sl.k=some i∧es=ms.map (λp=>(p.1,p.2.1))∧(∀p∈ms,DR D t p.2.1 p.2.2)∧L[i]? = some (some (.map (ms.map λp=>(.str p.1,p.2.2))))
 |.mit t last es=>∃(i:Nat) (g:List (B8×t.S D.T)) (e:List Nat),sl.k=some i∧t.flat=true∧L[i]? = some (some (.mit (g.map λp=>(.str p.1,ya6 t p.2)) e))∧(∀q∈e,q<g.length)∧es.Perm (((List.range g.length).filter λq => !e.contains q).filterMap λq=>g[q]?)∧∀p,last=some p->∃(l:List Nat) (j:Nat),e=l++[j]∧g[j]? = some p
 |.bld ty b=>∃i a c,sl.k=some i∧L[i]? = some (some (.arr 0 ty 2 [.agg [a,c]] (some 1)))∧(a = .nilp∨a = .ap lv i 0 0 0)∧VR D ρ lv (yng b) c
 |.gone=>True
 |.deep ty q xs h=>sl.ws.length=xs.length∧(match sl.k with
  |none=>xs=[]∧(sl.v = .nils∨sl.v = .sl (D.len (.st q)) [] true)∧sl.fp=[]∧h=none
  |some j=>∃(d:Nat) (m:Option Nat) (fps:List (List Nat)),sl.v = .hs lv j d 0 sl.ws.length false∧L[j]? = some (some (.arr d ty (D.len (.st q)) sl.ws m))∧fps.length=xs.length∧sl.fp=fps.flatten∧sl.fp.Nodup ∧
   (∀(n:Nat) (x:D.T q) (w:V) (c:List Nat),xs[n]? = some x->sl.ws[n]? = some w->fps[n]? = some c->EO D ρ lv L q h n x w c) ∧
   ∀n f s,h=some (n,f,s)->0<=n∧n.toNat<xs.length)
end
def TO.live{T:Nat->Type}:TO T->Prop
 |.gone=>False
 |_=>True
def DfL(D:Dat)(ρ:List Slot)(lv:Nat):List (Nat×List (TV D.T))->List (Nat×List V)->Prop
 |[],a=>a=[]
 |p::r,a=>∃vs s,a=(p.1,vs)::s∧VRL D ρ lv p.2 vs∧DfL D ρ lv r s
def DfL.imp{D:Dat}{ρ ρ':List Slot}{lv:Nat}(f:List (TV D.T)->List (TV D.T))(b:∀xs vs,VRL D ρ lv xs vs->VRL D ρ' lv (f xs) vs):∀{l:List (Nat×List (TV D.T))}{a:List (Nat×List V)},DfL D ρ lv l a->DfL D ρ' lv (l.map λp=>(p.1,f p.2)) a
 |[],a,h=>h
 |p::r,a,h=>by
  have⟨vs,s,g,e,d⟩:=h;exact⟨vs,s,g,b _ _ e,DfL.imp f b d⟩
def DfL.more{D:Dat}{ρ:List Slot}{lv:Nat}(e:List Slot){l:List (Nat×List (TV D.T))}{a:List (Nat×List V)}(h:DfL D ρ lv l a):DfL D (ρ++e) lv l a:=by
 have:=h.imp (ρ':=ρ++e) (λxs=>xs) (λxs vs k=>k.more e);simpa using this
structure TRr(D:Dat)(F:Fr)(ρ:List Slot)(ts:TS D.T)(σ:St):Prop where
 nx:ρ.length=ts.nx
 nt:σ.t.length=ts.nt
 tm:∀(j:Nat) (x:TV D.T),fnd ts.t j=some x->∃v,σ.t[j]? = some v∧VR D ρ F.lv x v
 ob:∀(s:Nat) (o:TO D.T),fnd ts.o s=some o->∃sl,ρ[s]? = some sl∧OR D ρ F.lv σ.H.L sl o
 inj:∀(s s':Nat) (o o':TO D.T) (sl sl':Slot) (i:Nat),fnd ts.o s=some o->fnd ts.o s'=some o'->o.live->o'.live->ρ[s]? = some sl->ρ[s']? = some sl'->sl.has i->sl'.has i->s=s'
 mine:∀(s:Nat) (o:TO D.T) (sl:Slot) (i:Nat),fnd ts.o s=some o->o.live->ρ[s]? = some sl->sl.has i->¬F.out i
 lv:σ.H.lv=F.lv
 E:σ.H.E=F.E
 e0:σ.e0=F.e0
 d:DfL D ρ F.lv ts.d σ.d
 out:∀i,F.out i->i<σ.H.L.length∧σ.H.L[i]? = F.L0[i]?
 pin:∀(j:Nat) (sl:Slot),F.pin[j]? = some sl->ρ[j]? = some sl
 fpl:∀(s:Nat) (o:TO D.T) (sl:Slot) (i:Nat),fnd ts.o s=some o->o.live->ρ[s]? = some sl->i∈sl.fp->sl.k≠some i∧∃a,σ.H.L[i]? = some (some a)
 g:∀(i s:Nat) (v:V),ts.g[i]? = some (some s)->F.gv[i]? = some v->VR D ρ F.lv (.own s) v
section
variable {P:Program}{D:Dat}{F:Fr}{ρ:List Slot}{ts:TS D.T}{σ:St}{lv:Nat}
def zgp{t b:Nat}{cs:List (TV D.T)}{vs:List V}{x:TV D.T}(d:VRL D ρ lv cs vs)(h:tRd P t cs b=some x):∃v,rd P t vs b=some v∧VR D ρ lv x v:=by
 unfold tRd at h;unfold rd;split at h
 ·cases h
 ·rename_i a;rw[a];split at h
  ·rename_i e;cases h;refine⟨_,by simp only;rw[Qbx (by rw[<-d.length];exact e)],?_⟩;simp only[VR];exact⟨_,rfl,(d.drop _).take _⟩
  ·cases h
 ·rename_i a;rw[a];split at h
  ·rename_i e;cases h;refine⟨_,by simp only;rw[Qbx (by rw[<-d.length];exact e)],?_⟩;simp only[VR];exact⟨_,rfl,(d.drop _).take _⟩
  ·cases h
 ·rename_i l k a;have⟨v,j,i⟩:=d.get b x h;rw[a]
  cases g:‹TypeDesc› <;> first|exact(l _ g).elim|exact(k _ _ g).elim|exact⟨v,j,i⟩
def TRr.ev(a:TRr D F ρ ts σ){o:Operand}{x:TV D.T}(h:ts.ev o=some x):VR D ρ F.lv x (σ.ev o):=by
 cases o with
 |tmp t=>
  have⟨v,d,b⟩:=a.tm t x h;simp only[St.ev,Qba,d,Option.getD_some]
  exact b
 |const v=>simp only[TS.ev,Qbu]at h;subst h;exact .ofC v
 |func f=>simp only[TS.ev,Qbu]at h;subst h;simp only[St.ev,VR];exact⟨[],[],rfl,by simp[VRL],by simp[VRL]⟩
 |global g=>simp[TS.ev]at h
def TRr.evs(b:TRr D F ρ ts σ):∀{l:List Operand}{xs:List (TV D.T)},ts.evs l=some xs->VRL D ρ F.lv xs (l.map σ.ev)
 |[],xs,h=>by simp only[TS.evs,Qbu]at h;subst h;simp[VRL]
 |o::l,xs,h=>by
  simp only[TS.evs]at h;split at h
  ·rename_i v vs d a;cases h;simp only[List.map_cons,VRL];exact⟨_,_,rfl,b.ev d,b.evs a⟩
  ·cases h
def TRr.get(a:TRr D F ρ ts σ){i:Nat}{o:yz5}(h:σ.H.L[i]? = some (some o)):σ.H.get F.lv i=some o:=by
 unfold Heap.get;rw[Qbx a.lv.symm,h];rfl
variable (hD:D.Ok P)
include hD
theorem VR.yl3{t:DTy}{x:t.S D.T}{v:V}(h:DR D t x v):VRL D ρ lv (D.tv t x).cells v.cells:=by
 cases t with
 |nat=>cases h;simp only[Dat.tv,TV.cells,V.cells,VRL];exact⟨_,_,rfl,by simp only[VR],rfl⟩
 |st i=>exact(VR.tv hD h).cells rfl
 |bool=>exact(VR.tv hD h).cells rfl
 |int k=>exact(VR.tv hD h).cells rfl
 |str=>exact(VR.tv hD h).cells rfl
 |sl t=>exact(VR.tv hD h).cells rfl
theorem y85(m:TRr D F ρ ts σ){t:Nat}{a x:TV D.T}{I:V}(h:yvl P D ts t a=some x)(g:VR D ρ F.lv a I):∃v,ze4 P σ.H t I=some v∧VR D ρ F.lv x v:=by
 unfold yvl at h;split at h
 ·simp only[VR]at g;obtain⟨vs,rfl,G⟩:=g;exact zgp G h
 ·rename_i s z;split at h
  ·rename_i cs p;simp only[VR]at g;obtain⟨sl,i,r,B,rfl⟩:=g;have⟨sl',e,d⟩:=m.ob s _ p
   rw[r]at e;cases e
   simp only[OR]at d;have⟨X,vs,l,A,o⟩:=d
   rw[B]at l;cases l
   simp only[ywv,m.get A];exact zgp o h
  ·cases h
 ·rename_i s τ i y z;split at h
  ·rename_i ty t' xs w p;simp only[VR]at g;have⟨sl,u,r,B,Z,Y,q⟩:=g;have⟨sl',e,d⟩:=m.ob s _ p
   rw[r]at e;cases e
   simp only[OR]at d;have⟨l,A,o⟩:=d;have M:=VR.yl3 (ρ:=ρ) (lv:=F.lv) hD Y
   cases K:sl.k with
   |none=>
    rw[K]at q;simp only at q;subst q
    exact zgp M h
   |some j=>
    rw[K]at q o;obtain⟨h6,n,e1,rfl⟩:=q;have⟨N,cp,C,W⟩:=o
    rw[e1]at C;injection C with _ _ C;subst C
    simp only[ydw,y1a,m.get W,if_true,Z,Qbr,Option.bind_some];exact zgp M h
  ·cases h
 ·rename_i s z;split at h
  ·rename_i ty b p;simp only[VR]at g;obtain⟨sl,i,r,B,rfl⟩:=g;have⟨sl',e,d⟩:=m.ob s _ p
   rw[r]at e;cases e
   simp only[OR]at d;have⟨X,u,c,l,A,o,U⟩:=d
   rw[B]at l;cases l
   have G:VRL D ρ F.lv [.any,yng b] [u,c]:=by
    simp only[VRL];exact⟨u,[c],rfl,by simp only[VR],c,[],rfl,U,rfl⟩
   have⟨v,Q,O⟩:=zgp G h;refine⟨v,?_,O⟩;simp only[ydw,y1a,m.get A,if_true,Qcd,Qbr,Option.bind_some,V.cells];exact Q
  ·cases h
 ·cases h
omit hD in
theorem y6b{s f:Nat}{x y:TV D.T}{r:V}(h:y3e P s f x=some y)(a:VR D ρ lv x r):∃v,zbv P s f r=some v∧VR D ρ lv y v:=by
 unfold y3e at h;unfold zbv;split at h
 ·cases h
 ·rename_i o z;rw[z];split at h
  ·cases h;simp only[VR]at a ⊢;obtain⟨vs,rfl,u⟩:=a;exact⟨_,rfl,vs,rfl,u⟩
  ·cases h;simp only[VR]at a ⊢;obtain⟨sl,i,d,b,rfl⟩:=a;exact⟨_,rfl,sl,i,d,b,rfl⟩
  ·cases h;simp only[VR]at a ⊢;have⟨sl,w,d,b,q,p,g⟩:=a
   cases l:sl.k with
   |none=>rw[l]at g;simp only at g;subst g;exact⟨_,rfl,sl,w,d,b,q,p,by rw[l]⟩
   |some j=>rw[l]at g;obtain⟨e,n,A,rfl⟩:=g;exact⟨_,rfl,sl,w,d,b,q,p,by rw[l];exact⟨e,n,A,rfl⟩⟩
  ·cases h;simp only[VR]at a ⊢;obtain⟨sl,i,d,b,rfl⟩:=a;exact⟨_,rfl,sl,i,d,b,rfl⟩
  ·cases h;simp only[VR]at a ⊢;obtain⟨sl,j,e,m,d,b,q,p,rfl⟩:=a;exact⟨_,rfl,sl,j,e,m,d,b,q,p,rfl⟩
  ·cases h
omit hD in
theorem yod{s f:Nat}{x y:TV D.T}{a:V}(h:yuw P s f x=some y)(b:VR D ρ lv x a):∃v,yfk P s f a=some v∧VR D ρ lv y v:=by
 unfold yuw at h;unfold yfk;split at h
 ·rename_i i e;rw[e];simp only;split at h
  ·rename_i j g;rw[g];split at h
   ·simp only[VR]at b;obtain⟨vs,rfl,d⟩:=b;exact zgp d h
   ·cases h
  ·cases h
 ·cases h
omit hD in
theorem ybg{i:Nat}{x y:TV D.T}{a:V}(h:ybr i x=some y)(b:VR D ρ lv x a):∃v,y41 i a=some v∧VR D ρ lv y v:=by
 unfold ybr at h;split at h
 ·simp only[VR]at b;obtain⟨vs,rfl,d⟩:=b;exact d.get i y h
 ·cases h
omit hD in
theorem yu9{x y:TV D.T}{b:V}(h:tNil x=some y)(a:VR D ρ lv x b):∃v,y6u b=some v∧VR D ρ lv y v:=by
 unfold tNil at h;split at h
 ·cases h;refine⟨b,?_,a⟩;simp only[VR]at a;obtain⟨sl,i,g,e,rfl⟩:=a;rfl
 ·cases h;refine⟨b,?_,a⟩;simp only[VR]at a;obtain⟨vs,rfl,p⟩:=a;rfl
 ·cases h;refine⟨b,?_,a⟩;simp only[VR]at a;have⟨sl,w,g,e,o,l,d⟩:=a;split at d
  ·subst d;rfl
  ·obtain⟨k,n,q,rfl⟩:=d;rfl
 ·cases h;refine⟨b,?_,a⟩;simp only[VR]at a;obtain⟨sl,i,g,e,rfl⟩:=a;rfl
 ·cases h;refine⟨b,?_,a⟩;simp only[VR]at a;obtain⟨sl,j,k,m,g,e,o,l,rfl⟩:=a;rfl
 ·cases h;refine⟨b,?_,a⟩;simp only[VR]at a;obtain⟨r,bs,rfl,_⟩:=a;rfl
 ·cases h
omit hD in
theorem ywo{op:UnOp}{x y:TV D.T}{b:V}(h:tUn op x=some y)(a:VR D ρ lv x b):∃v,pUn op b=some v∧VR D ρ lv y v:=by
 unfold tUn at h;split at h
 ·cases h;simp only[VR]at a;subst a;exact⟨_,rfl,by simp only[VR]⟩
 ·cases h;simp only[VR]at a;subst a;exact⟨_,rfl,by simp only[VR]⟩
 ·cases h;simp only[VR]at a;subst a;exact⟨_,rfl,by simp only[VR]⟩
 ·cases h
omit hD in
theorem ybl{s d:Nat}{x y:TV D.T}{g:V}(h:yc5 P s d x=some y)(a:VR D ρ lv x g):∃v,zwp P s d g=some v∧VR D ρ lv y v:=by
 unfold yc5 at h;unfold zwp;split at h
 ·simp only[VR]at a;subst a;split at h
  ·rename_i e b;cases h;simp only[e,b];exact⟨_,rfl,by simp only[VR]⟩
  ·cases h
 ·simp only[VR]at a;subst a;split at h
  ·rename_i e b;cases h;simp only[e,b];exact⟨_,rfl,by simp only[VR]⟩
  ·cases h
 ·cases h
omit hD in
theorem y59{u:Nat}{ok:Bool}{x y:TV D.T}{b:V}(h:zyg P x u ok=some y)(e:VR D ρ lv x b):∃v,zlx P b u ok=some v∧VR D ρ lv y v:=by
 unfold zyg at h;unfold zlx;split at h
 ·cases h
 ·rename_i d t z a i;simp only[VR]at e;obtain⟨w,rfl,g⟩:=e;split at h
  ·rename_i j;cases h;rw[i]
   cases d <;> first
    |exact(a _ rfl).elim
    |(refine⟨_,by simp only;rw[Qbx j],?_⟩
      cases ok
      ·exact g
      ·simp only[if_true,VR,VRL];exact⟨_,rfl,_,_,rfl,g,_,_,rfl,rfl,rfl⟩)
  ·cases h
 ·cases h
omit hD in
theorem y0v{m:Bool}{xs:List (TV D.T)}{vs:List V}{y:TV D.T}(h:yay m xs=some y)(a:VRL D ρ lv xs vs):∃v,zv6 m vs=some v∧VR D ρ lv y v:=by
 unfold yay at h;split at h
 ·cases h;simp only[VRL,VR]at a;obtain⟨_,_,rfl,rfl,_,_,rfl,rfl,rfl⟩:=a;exact⟨_,rfl,by simp only[VR];cases m <;> rfl⟩
 ·cases h;simp only[VRL,VR]at a;obtain⟨_,_,rfl,rfl,_,_,rfl,rfl,_,_,rfl,rfl,rfl⟩:=a;exact⟨_,rfl,by simp only[VR];cases m <;> rfl⟩
 ·cases h
omit hD in
theorem TRr.parts(b:TRr D F ρ ts σ):∀{l:List (Nat×Operand)}{xs:List (Nat×TV D.T)},y3i ts l=some xs->xs.map (·.1)=(l.map λp=>(p.1,σ.ev p.2)).map (·.1)∧VRL D ρ F.lv (xs.map (·.2)) ((l.map λp=>(p.1,σ.ev p.2)).map (·.2))
 |[],xs,h=>by simp only[y3i,Qbu]at h;subst h;simp[VRL]
 |(i,o)::l,xs,h=>by
  simp only[y3i]at h;split at h
  ·rename_i v vs d a;cases h;have⟨g,e⟩:=b.parts a;simp only[List.map_cons,VRL];exact⟨by rw[g],_,_,rfl,b.ev d,e⟩
  ·cases h
omit hD in
theorem zx2{place:Nat->Option (Nat×Nat)}:∀{g:List (Nat×TV D.T)}{e:List (Nat×V)}{cs r:List (TV D.T)}{vs:List V},g.map (·.1)=e.map (·.1)->VRL D ρ lv (g.map (·.2)) (e.map (·.2))->VRL D ρ lv cs vs->yk8 place cs g=some r->∃o,zxd place vs e=some o∧VRL D ρ lv r o
 |[],[],cs,r,vs,_,_,k,h=>by simp only[yk8,Qbu]at h;subst h;exact⟨vs,rfl,k⟩
 |[],q::e,cs,r,vs,d,_,_,_=>by simp at d
 |p::g,[],cs,r,vs,d,_,_,_=>by simp at d
 |(i,x)::g,(A,v)::e,cs,r,vs,d,j,k,h=>by
  simp only[List.map_cons,List.cons.injEq]at d;obtain⟨rfl,d⟩:=d;simp only[List.map_cons,VRL]at j;have⟨u,z,w,j,y⟩:=j;injection w with n m;subst n;subst m;simp only[yk8]at h;simp only[zxd];split at h
  ·cases h
  ·rename_i l size s;split at h
   ·rename_i a;simp only[Qag,Qbm,Qar]at a;have b:=j.cells a.1.1;rw[s];simp only;rw[Qbx (by simp only[Qag,Qbm,Qar];exact⟨⟨j.kzl a.1.1,by rw[<-b.length];exact a.1.2⟩,by rw[<-k.length];exact a.2⟩)];exact zx2 d y (k.z02 b l) h
   ·cases h
omit hD in
theorem zlw{t:Nat}{x:TV D.T}(h:yk9 P t=some x):∃v,zeroV P t=some v∧VR D ρ lv x v:=by
 unfold yk9 at h;unfold zeroV;rw[Qaf]at h;obtain⟨z,a,rfl⟩:=h;exact⟨_,by rw[a];rfl,.ofC z⟩
omit hD in
theorem yku{t:Nat}{i:List (Nat×TV D.T)}{g:List (Nat×V)}{y:TV D.T}(o:i.map (·.1)=g.map (·.1))(m:VRL D ρ lv (i.map (·.2)) (g.map (·.2)))(h:yv7 P t i=some y):∃v,yde P t g=some v∧VR D ρ lv y v:=by
 unfold yv7 at h;unfold yde;split at h
 ·rename_i z p;have⟨v,q,d⟩:=zlw (ρ:=ρ) (lv:=lv) p;simp only[VR]at d;obtain⟨vs,rfl,d⟩:=d;rw[q];simp only;split at h
  ·rename_i w l;rw[l];simp only;split at h
   ·rename_i places s;rw[s];rw[Qaf]at h;obtain⟨r,a,rfl⟩:=h;have⟨b,k,j⟩:=zx2 o m d a;exact⟨.agg b,by simp only[k,Qbr],by simp only[VR];exact⟨b,rfl,j⟩⟩
   ·cases h
  ·rename_i n e l;rw[l];simp only;split at h
   ·rename_i u;rw[Qbx u];rw[Qaf]at h;obtain⟨r,a,rfl⟩:=h;have⟨b,k,j⟩:=zx2 o m d a;exact⟨.agg b,by simp only[k,Qbr],by simp only[VR];exact⟨b,rfl,j⟩⟩
   ·cases h
  ·cases h
 ·cases h
omit hD in
theorem yur(o:TRr D F ρ ts σ){t:Nat}{x y:TV D.T}{u:V}(h:tLen P D ts t x=some y)(b:VR D ρ F.lv x u):∃v,zrn P σ.H t u=some v∧VR D ρ F.lv y v:=by
 unfold tLen at h;split at h
 ·split at h
  ·rename_i a;cases h;simp only[VR]at b;subst b;exact⟨_,by rw[z00m,a],by simp only[VR]⟩
  ·cases h
 ·split at h
  ·rename_i a;cases h;simp only[VR]at b;subst b;exact⟨_,by rw[zyu,a],by simp only[VR]⟩
  ·cases h
 ·split at h
  ·rename_i a;cases h;simp only[VR]at b;have⟨b,_⟩:=b
   cases b with
   |nil=>exact⟨_,by rw[zyu,a],by simp only[VR];rfl⟩
   |sl _ _ ws full z I=>exact⟨_,by rw[ykz,a],by simp only[VR,z]⟩
  ·cases h
 ·split at h
  ·rename_i a p;cases h;simp only[VR]at b;obtain⟨sl,r,rfl,n⟩:=b;have⟨sl',m,l⟩:=o.ob _ _ p
   rw[r]at m;cases m
   simp only[OR]at l;have⟨g,w,d⟩:=l
   cases q:sl.k with
   |none=>
    rw[q]at d
    rcases d with ⟨e,e2⟩|⟨e,e2⟩
    ·rw[e,zyu,a];exact⟨_,rfl,by simp only[VR];rw[<-g,e2];rfl⟩
    ·rw[e.1,ykz,a]
     exact⟨_,rfl,by simp only[VR];rw[g]⟩
   |some j=>
    rw[q]at d;have⟨s,B,e,e2⟩:=d;rw[e];refine⟨.int .i64 sl.ws.length,?_,by simp only[VR];rw[g]⟩;simp only[zrn,a,o.get e2,if_true]
  ·rename_i a p;cases h;simp only[VR]at b;obtain⟨sl,r,rfl,n⟩:=b;have⟨sl',m,l⟩:=o.ob _ _ p
   rw[r]at m;cases m
   simp only[OR]at l;have⟨g,d⟩:=l
   cases q:sl.k with
   |none=>
    rw[q]at d;have⟨e,e2,_⟩:=d
    rcases e2 with e2|e2
    ·rw[e2,zyu,a];exact⟨_,rfl,by simp only[VR];rw[e];rfl⟩
    ·rw[e2,ykz,a]
     exact⟨_,rfl,by simp only[VR];rw[e];rfl⟩
   |some j=>
    rw[q]at d;have⟨s,B,fps,e,e2,_⟩:=d;rw[e];refine⟨.int .i64 sl.ws.length,?_,by simp only[VR];rw[g]⟩;simp only[zrn,a,o.get e2,if_true]
  ·cases h
 ·split at h
  ·rename_i a;cases h;simp only[VR]at b;obtain⟨vs,rfl,_⟩:=b;exact⟨_,by rw[z00h,a],by simp only[VR]⟩
  ·cases h
 ·split at h
  ·rename_i a p;cases h;simp only[VR]at b;obtain⟨sl,i,r,A,rfl⟩:=b;have⟨sl',m,l⟩:=o.ob _ _ p
   rw[r]at m;cases m
   simp only[OR]at l;have⟨G,ms,g,w,C,d⟩:=l
   rw[A]at g;cases g
   exact⟨_,by rw[z02f,a];simp only[o.get d];rfl,by simp only[VR];rw[w];simp⟩
  ·cases h
 ·cases h
omit hD in
theorem zs4:∀(a:List (Nat×V)) (k n:Nat),a.map (·.1)=List.range' k n->zqc k a=true
 |[],_,_,_=>rfl
 |(i,v)::r,k,n,h=>by
  cases n with
  |zero=>simp at h
  |succ n=>
   simp only[List.map_cons,List.range'_succ,List.cons.injEq]at h;simp only[zqc,h.1,beq_self_eq_true,Bool.true_and];exact zs4 r (k+1) n h.2
theorem zpz{t len:Nat}{i:List (Nat×TV D.T)}{a:List (Nat×V)}{y:TV D.T}(u:i.map (·.1)=a.map (·.1))(r:VRL D ρ lv (i.map (·.2)) (a.map (·.2)))(h:zly P D t len i = .ok y):∃v,zg9 P t len a=some v∧VR D ρ lv y v:=by
 unfold zly at h;unfold zg9;split at h
 ·rename_i e X;rw[X];simp only;split at h
  ·rename_i z τ U H;rw[U];simp only;split at h
   ·rename_i B;simp only[Qag,Qbm,Qar,Qat]at B;have⟨⟨⟨⟨⟨⟨⟨⟨O,N⟩,M⟩,K⟩,Y⟩,I⟩,G⟩,C⟩,w⟩:=B;have hlen:i.length=a.length:=by have:=congrArg List.length u;simpa using this
    split at h
    ·rename_i xs x;cases h;have⟨A,Q⟩:=y38 hD x r;have m:a.length=len:=by omega
     have g:∀p∈a,p.2.kzl=true∧p.2.cells.length=P.cellsOf e:=λp s=>by
      have⟨j,o⟩:=Qbp s;have d:j<i.length:=by rw[hlen];exact(Qaa.1 o).1
      have l:=G i[j] (Qad d);have n:VR D ρ lv i[j].2 p.2:=r.y3q (j:=j) (by simp[d]) (by simp[o]);exact⟨n.kzl l.1,by rw[<-(n.cells l.1).length];exact l.2⟩
     have b:(z.kzl&&z.cells.length==P.cellsOf e&&decide (0<P.cellsOf e)&&(P.info? e).isSome&&a.length==len&&zqc 0 a&&a.all (λp=>p.2.kzl&&p.2.cells.length==P.cellsOf e)&&decide (len * P.cellsOf e<=2 ^ 24))=true:=by
      simp only[Qag,Qbm,Qar,Qat];exact⟨⟨⟨⟨⟨⟨⟨O,N⟩,M⟩,K⟩,m⟩,zs4 a 0 len (by rw[<-u,I,List.range_eq_range'])⟩,g⟩,C⟩
     rw[Qbx b];refine⟨_,rfl,?_⟩;simp only[Qbd]at A;by_cases k:len=0
     ·rw[Qbx k,Qbx k,<-w];have:xs=[]:=Qao (by omega);subst this;simp only[VR];exact⟨.sl τ [] [] true rfl (by simp),λ_=>⟨[],rfl⟩,λ_=>trivial⟩
     ·rw[Qby k,Qby k,<-w];simp only[VR];exact⟨.sl τ xs _ true (by simpa using A) Q,λ_=>⟨_,rfl⟩,by simp⟩
    ·have m:a.length=len:=by omega
     have g:∀p∈a,p.2.kzl=true∧p.2.cells.length=P.cellsOf e:=λp s=>by
      have⟨j,o⟩:=Qbp s;have d:j<i.length:=by rw[hlen];exact(Qaa.1 o).1
      have l:=G i[j] (Qad d);have n:VR D ρ lv i[j].2 p.2:=r.y3q (j:=j) (by simp[d]) (by simp[o]);exact⟨n.kzl l.1,by rw[<-(n.cells l.1).length];exact l.2⟩
     have b:(z.kzl&&z.cells.length==P.cellsOf e&&decide (0<P.cellsOf e)&&(P.info? e).isSome&&a.length==len&&zqc 0 a&&a.all (λp=>p.2.kzl&&p.2.cells.length==P.cellsOf e)&&decide (len * P.cellsOf e<=2 ^ 24))=true:=by
      simp only[Qag,Qbm,Qar,Qat];exact⟨⟨⟨⟨⟨⟨⟨O,N⟩,M⟩,K⟩,m⟩,zs4 a 0 len (by rw[<-u,I,List.range_eq_range'])⟩,g⟩,C⟩
     rw[Qbx b];split at h
     ·rename_i Z _ _ q cells;split at h
      ·cases h;refine⟨_,rfl,?_⟩;simp only[List.length_cons,Qcc]at Y;rw[Qby (by omega),<-w];simp only[VR];exact⟨_,rfl,r⟩
      ·cases h
      ·cases h
     ·cases h
    ·cases h
   ·cases h
  ·cases h
 ·cases h
omit hD in
theorem FR.zqd{α:Type}{o:Option α}{a:α}(h:FR.of o = .ok a):o=some a:=by
 cases o with
 |none=>cases h
 |some b=>injection h with h;rw[h]
theorem ywe{t:Nat}{n c:Int}{o m:IntKind}{y:TV D.T}(h:tMk P D t n c = .ok y):∃v,zl0 P t (.int o n) (.int m c)=some v∧VR D ρ lv y v:=by
 unfold tMk at h;split at h
 case h_2=>cases h
 rename_i n c;split at h
 case h_2=>cases h
 rename_i e r;split at h
 case h_2=>cases h
 rename_i i z τ A p U;split at h
 case h_2=>cases h
 rename_i k;simp only[Qag]at k;have⟨⟨⟨⟨⟨⟨l,O⟩,N⟩,M⟩,K⟩,I⟩,G⟩:=k;split at h
 case h_2=>cases h
 case h_3=>cases h
 rename_i x q;cases h;have⟨v,Q,g⟩:=zlw (D:=D) (ρ:=ρ) (lv:=lv) p;have s:=(g.cells l).length;have B:=zkv hD q g;refine⟨.sl i.size (List.replicate n v) (Nat.beq n c),?_,?_⟩
 ·simp only[zl0,r,A,Q]
  have C:(v.kzl&&Nat.beq v.cells.length i.size&&Nat.blt 0 i.size&&Nat.ble n c&&Nat.ble c 1000000&&Nat.ble i.bytes 100000)=true:=by
   simp only[Qag];exact⟨⟨⟨⟨⟨g.kzl l,by rw[<-s];exact O⟩,N⟩,M⟩,K⟩,I⟩
  rw[C]
 ·rw[<-Qaj G];simp only[VR];refine⟨.sl _ _ _ _ (by simp) λj a w b d =>?_,λh=>by omega,λh=>by cases h⟩;rw[Qbo]at b d;split at b
  ·rename_i u;rw[Qbx u]at d;injection b with b;injection d with d;subst b;subst d;exact B
  ·cases b
theorem yju(b:TRr D F ρ ts σ){op:Op}{x:TV D.T}(h:tP1 P D ts op = .ok x):∃v,pv P σ.H σ.ev op=some v∧VR D ρ F.lv x v:=by
 unfold tP1 at h;unfold pv;split at h
 ·exact⟨_,rfl,b.ev (FR.zqd h)⟩
 ·exact⟨_,rfl,b.ev (FR.zqd h)⟩
 ·split at h
  ·rename_i a;exact y85 hD b (FR.zqd h) (b.ev a)
  ·cases h
 ·split at h
  ·rename_i a;exact yu9 (FR.zqd h) (b.ev a)
  ·cases h
 ·split at h
  ·rename_i a;exact ywo (FR.zqd h) (b.ev a)
  ·cases h
 ·split at h
  ·rename_i a;exact ybl (FR.zqd h) (b.ev a)
  ·cases h
 ·split at h
  ·rename_i a;split at h
   ·rename_i p;injection h with h;subst h;exact⟨_,by simp only[zjg];rw[Qbx p],by simp only[VR];exact⟨_,rfl,b.ev a⟩⟩
   ·cases h
  ·cases h
 ·split at h
  ·rename_i a i;injection h with h;subst h;exact⟨_,rfl,by simp only[VR];exact⟨_,_,rfl,b.evs a,b.evs i⟩⟩
  ·cases h
 ·split at h
  ·rename_i a;exact y6b (FR.zqd h) (b.ev a)
  ·cases h
 ·split at h
  ·rename_i a;exact yod (FR.zqd h) (b.ev a)
  ·cases h
 ·split at h
  ·rename_i a;exact y59 (FR.zqd h) (b.ev a)
  ·cases h
 ·split at h
  ·rename_i a;exact ybg (FR.zqd h) (b.ev a)
  ·cases h
 ·split at h
  ·rename_i a;obtain⟨k,j⟩:=b.parts a;exact yku k j (FR.zqd h)
  ·cases h
 ·split at h
  ·rename_i a;obtain⟨k,j⟩:=b.parts a;exact zpz hD k j (yv1 _ h)
  ·cases h
 ·split at h
  ·rename_i a i;have m:=b.ev a;have l:=b.ev i;simp only[VR]at m l;obtain⟨v,n,q⟩:=ywe (ρ:=ρ) (lv:=F.lv) hD h;exact⟨v,by rw[<-m,<-l]at n;exact n,q⟩
  ·cases h
 ·unfold zcx;split at h
  ·rename_i d;split at h
   ·rename_i o t e g;split at h
    ·rename_i a;simp only[d,e,g];exact yur b (FR.zqd h) (b.ev a)
    ·cases h
   ·cases h
  ·rename_i d;split at h
   ·rename_i a;simp only[d];exact y0v (FR.zqd h) (b.evs a)
   ·cases h
  ·rename_i d;split at h
   ·rename_i a;simp only[d];exact y0v (FR.zqd h) (b.evs a)
   ·cases h
  ·cases h
 ·cases h
end
def zvk(H:Heap):Heap:=⟨H.lv,[],λ_ _=>none⟩
def noGh(g:Gh):Gh:={g with dom:=λ_ _=>False}
def znt(H:Heap)(l i:Nat):(zvk H).get l i=none:=by
 unfold Heap.get zvk;split <;> simp
def yvn{g:Gh}{H:Heap}{b:Nat}:¬Own g (zvk H) b:=λ⟨l,i,o,a,_⟩=>by rw[znt]at a;cases a
def yxq{W:World}{g:Gh}{H:Heap}(h:Good W g H):Good W (noGh g) (zvk H) :=
 ⟨λl i o a=>(by rw[znt]at a;cases a),λl i o a=>(by rw[znt]at a;cases a),λl i o j k o' a=>(by rw[znt]at a;cases a),λl i d=>d.elim,λl i o a=>(by rw[znt]at a;cases a),h.y3r.y8r λb e=>(yvn e).elim⟩
def z02r{W:World}{g:Gh}{H:Heap}{v u:V}{c:Value}(e:Good W g H)(h:VS H (λ_ _=>False) v u)(d:Rel W g H v c):Rel W (noGh g) (zvk H) u c :=
 VS.rel e (λ_ _ h=>h.elim) (λ_ _ h=>h.elim) (λ_ _ h=>h.elim) (λ_ _ h=>h.elim) (λ_ _ h=>h.elim) (λb a=>(yvn a).elim) (λi o _ a=>yvn a) h d
inductive VFl:V->Prop where
 |bool (b:Bool):VFl (.bool b)
 |int (k:IntKind) (n:Int):VFl (.int k n)
 |str (s:B8):VFl (.str s)
 |tup (vs:List V) (h:∀(j:Nat) (v:V),vs[j]? = some v->VFl v):VFl (.tup vs)
def VFl.rel{v:V}(h:VFl v){W W':World}{g g':Gh}{H H':Heap}:∀{c:Value},Rel W g H v c->Rel W' g' H' v c:=by
 induction h with
 |bool b=>intro c a;cases a;exact .bool _
 |int k n=>intro c a;cases a;exact .int _ _
 |str s=>intro c a;cases a;exact .str _
 |tup vs h e=>
  intro c a
  cases a with
  |tup _ cs l i=>exact .tup vs cs l λj v d=>e j v d (i j v d)
def yn8{P:Program}{f:Nat}{vs k:List V}{r:V}{H:Heap}(q:zw3 P f k r)(h:VSL H (λ_ _=>False) vs k)(n:VFl r):y4b P f vs H r H:=λW g a i p=>by
 have hlen:=h.length
 have l:zlt W (noGh g) (zvk H) k a:=⟨p.1.trans hlen,λj u o=>by
  have y:=(Qaa.1 o).1;have m:vs[j]? = some (vs[j]'(by omega)):=Qab _
  exact z02r i (h.get j _ u m o) (p.2 j _ m)⟩
 have grow:∀{W':World}{g':Gh},Step W (noGh g) (zvk H) W' g' (zvk H)->Grow W W':=λst=>⟨st.os,st.tape,st.output,st.size,λb s=>st.block b s yvn⟩
 rcases q (zvk H) W (noGh g) a (yxq i) l with ⟨e,d⟩|⟨c,W',g',e,st,w,rl⟩
 ·exact .inl ⟨e,d.mono λe W' ⟨c,g',x,st,w,rl⟩=>⟨c,g,x,(grow st).step,i.grow (grow st),n.rel rl⟩⟩
 ·exact .inr ⟨c,W',g,e,(grow st).step,i.grow (grow st),n.rel rl⟩
section
variable {P:Program}{D:Dat}{F:Fr}{ρ:List Slot}{ts:TS D.T}{σ:St}{lv:Nat}{L:List (Option yz5)}{E:Nat → Nat → Option yz5}
def zlr{α:Type}{Q:Nat->α->Prop}:∀n:Nat,(∀j,j<n->∃a,Q j a)->∃l:List α,l.length=n∧∀j a,l[j]? = some a->Q j a
 |0,_=>⟨[],rfl,λj a h=>by simp at h⟩
 |n+1,h=>by
  have⟨l,i,m⟩:=zlr n λj g=>h j (by omega)
  have⟨a,k⟩:=h n (by omega);refine⟨l++[a],by simp[i],λj b d =>?_⟩;rw[Qbe]at d;split at d
  ·exact m j b d
  ·rename_i g;rw[i]at d g
   have:j-n=0:=by
    rcases Nat.eq_zero_or_pos (j-n)with q|q
    ·exact q
    ·rw[Qcf (by simp;omega)]at d;cases d
   have e:j=n:=by omega
   subst e;simp at d;subst d;exact k
def DR.kin(hD:D.Ok P){t:DTy}{x:t.S D.T}{v:V}(h:DR D t x v)(Dm:Nat->Nat->Prop):V.kin Dm v:=by
 induction h with
 |bool|int|str|nat|nil=>simp[V.kin]
 |sl t xs ws full k h b=>
  simp only[V.kin]
  exact zf2 λw d=>by
   have⟨j,a⟩:=Qbp d;have e:=(Qaa.1 a).1
   exact b j _ w (Qab (by omega)) a
 |st i x vs k h b=>
  simp only[V.kin]
  exact zf2 λw d=>by
   have⟨j,a⟩:=Qbp d;have e:=(Qaa.1 a).1;have⟨p,g,_⟩:=HL.zmb (D.fl i) (D.get i x) j (by omega)
   exact b j p w g a
 |enc i x=>exact hD.kin i x Dm
def Seen(H:Heap):OM->V->V->Prop
 |.el,v,u=>v.cells.length=u.cells.length∧∀(j:Nat) (a b:V),v.cells[j]? = some a->u.cells[j]? = some b->VS H (λ_ _=>False) a b
 |.dat,v,u=>VS H (λ_ _=>False) v u
 |.own _,v,u=>VS H (λ_ _=>False) v u
def DO.see(hD:D.Ok P){m:OM}{t:DTy}{x:t.S D.T}{v:V}{O:List Nat}(h:DO D lv L m t x v O) :
  ∃u,DR D t x u∧Seen ⟨lv,L,E⟩ m v u:=by
 induction h with
 |dat h=>exact⟨_,h,.keep _ (h.kin hD _)⟩
 |nil h Y=>exact⟨_,h,.keep _ (h.kin hD _)⟩
 | @own ty t xs j K U ws fps N M B H C=>
   have⟨k,I,s⟩:=zlr (Q:=λn u=>∀(x:t.S D.T) (w:V),xs[n]? = some x->ws[n]? = some w->DR D t x u∧w.cells.length=u.cells.length∧∀(j:Nat) (a b:V),w.cells[j]? = some a->u.cells[j]? = some b->VS ⟨lv,L,E⟩ (λ_ _=>False) a b) xs.length λn z=>by
    have⟨u,G,r⟩:=C n _ _ _ (Qab z) (Qab (show n<ws.length by omega)) (Qab (show n<fps.length by omega));refine⟨u,λx w y d =>?_⟩
    rw[Qab z]at y;cases y
    rw[Qab (show n<ws.length by omega)]at d;cases d
    exact⟨G,r⟩
   refine⟨.sl (D.len t) k false,.sl t xs k false I λn x u y o =>?_,?_⟩
   ·have z:=(Qaa.1 y).1;exact(s n u o x _ y (Qab (show n<ws.length by omega))).1
   ·refine .hs lv j K ty (D.len t) 0 ws.length false ws k U rfl ?_ (by omega) (λn w u d o =>?_) λn w u c a b d o e l =>?_
    ·show(if lv=lv then (L[j]?).join else _)=_;rw[Qbx rfl,N];rfl
    ·rw[Nat.zero_add]at d;have z:=(Qaa.1 d).1;exact(s n u o _ w (Qab (show n<xs.length by omega)) d).2.1
    ·rw[Nat.zero_add]at d;have z:=(Qaa.1 d).1
     exact(s n u o _ w (Qab (show n<xs.length by omega)) d).2.2 c a b e l
 | @el i x vs cs M W h C=>
   have⟨k,I,s⟩:=zlr (Q:=λf u=>∀(p:(t:DTy)×t.S D.T) (w:V),HL.nth (D.fl i) (D.get i x) f=some p->vs[f]? = some w->DR D p.1 p.2 u∧VS ⟨lv,L,E⟩ (λ_ _=>False) w u) (D.fl i).length λf B=>by
    have⟨p,q,_⟩:=HL.zmb (D.fl i) (D.get i x) f B;have⟨u,G,r⟩:=C f p _ _ q (Qab (show f<vs.length by omega)) (Qab (show f<cs.length by omega));refine⟨u,λX w g d =>?_⟩
    rw[q]at g;injection g with g;subst g
    rw[Qab (show f<vs.length by omega)]at d;cases d
    refine⟨G,?_⟩
    cases A:D.ow i f with
    |none=>rw[A]at r;exact r
    |some ty=>rw[A]at r;exact r
   refine⟨.agg k,.st i x k I λf p u q o =>?_,?_⟩
   ·have B:=(HL.zfq _ _ _ _ q).1;exact(s f u o p _ q (Qab (show f<vs.length by omega))).1
   ·refine⟨by show vs.length=k.length;omega,λf a b e l =>?_⟩;replace e:vs[f]? = some a:=e;replace l:k[f]? = some b:=l;have B:=(Qaa.1 e).1;have⟨p,q,_⟩:=HL.zmb (D.fl i) (D.get i x) f (by omega)
    exact(s f b l p a q e).2
 |elf Z h=>exact⟨_,h,rfl,λj a b e l=>by rw[e]at l;cases l;exact .keep _ (zbe (zt0 (h.kin hD _)) j a e)⟩
end
section
variable {P:Program}{D:Dat}{F:Fr}{ρ:List Slot}{ts:TS D.T}{σ:St}{lv:Nat}
mutual
def y2n:∀{d t:Nat}{x y:TV D.T}{j i:V}{b:Bool},yqy P d t x y=some b->VR D ρ lv x j->VR D ρ lv y i->eqv P d t j i=some b
 |0,t,x,y,j,i,b,h,e,a=>by simp[yqy]at h
 |d+1,t,x,y,j,i,b,h,e,a=>by
  simp only[yqy]at h;split at h
  ·simp only[VR]at e a;subst e;subst a;(simp only[eqv];split at h <;> first|(rename_i g;simp only[g];exact h)|cases h)
  ·simp only[VR]at e a;subst e;subst a;(simp only[eqv];split at h <;> first|(rename_i g;simp only[g];exact h)|cases h)
  ·simp only[VR]at e a;subst e;subst a;(simp only[eqv];split at h <;> first|(rename_i g;simp only[g];exact h)|cases h)
  ·simp only[VR]at e a;obtain⟨xs,rfl,e⟩:=e;obtain⟨l,rfl,a⟩:=a;simp only[eqv];split at h
   ·rename_i g;simp only[g];split at h
    ·cases h
    ·rename_i k;rw[Qby k];exact zy0 h e a
   ·cases h
  ·simp only[VR]at e a;subst e;subst a;(simp only[eqv];split at h <;> first|(rename_i g;simp only[g];exact h)|cases h)
  ·simp only[VR]at e a;subst e;obtain⟨_,_,_,_,rfl⟩:=a;(simp only[eqv];split at h <;> first|(rename_i g;simp only[g];exact h)|cases h)
  ·simp only[VR]at e a;subst e;obtain⟨_,rfl,_⟩:=a;(simp only[eqv];split at h <;> first|(rename_i g;simp only[g];exact h)|cases h)
  ·simp only[VR]at e a;subst a;obtain⟨_,_,_,_,rfl⟩:=e;(simp only[eqv];split at h <;> first|(rename_i g;simp only[g];exact h)|cases h)
  ·simp only[VR]at e a;subst a;obtain⟨_,rfl,_⟩:=e;(simp only[eqv];split at h <;> first|(rename_i g;simp only[g];exact h)|cases h)
  ·simp only[VR]at e a;subst e;subst a;(simp only[eqv];split at h <;> first|(rename_i g;simp only[g];exact h)|cases h)
  ·simp only[VR]at e a;subst e;subst a;(simp only[eqv];split at h <;> first|(rename_i g;simp only[g];exact h)|cases h)
  ·simp only[VR]at e a;subst e;obtain⟨_,_,rfl,_⟩:=a;(simp only[eqv];split at h <;> first|(rename_i g;simp only[g];exact h)|cases h)
  ·simp only[VR]at e a;subst a;obtain⟨_,_,rfl,_⟩:=e;(simp only[eqv];split at h <;> first|(rename_i g;simp only[g];exact h)|cases h)
  ·simp only[VR]at e a;subst e;obtain⟨_,rfl,_⟩:=a;(simp only[eqv];split at h <;> first|(rename_i g;simp only[g];exact h)|cases h)
  ·simp only[VR]at e a;subst a;obtain⟨_,rfl,_⟩:=e;(simp only[eqv];split at h <;> first|(rename_i g;simp only[g];exact h)|cases h)
  ·cases h
def zy0:∀{d:Nat}{l:List Field}{xs e:List (TV D.T)}{i g:List V}{b:Bool},ycf P d l xs e=some b->VRL D ρ lv xs i->VRL D ρ lv e g->ygw P d l i g=some b
 |0,l,xs,e,i,g,b,h,k,j=>by simp[ycf]at h
 |d+1,[],xs,e,i,g,b,h,k,j=>by simpa only[ygw,ycf]using h
 |d+1,f::l,xs,e,i,g,b,h,k,j=>by
  simp only[ycf]at h;simp only[ygw];split at h
  ·rename_i m;rw[Qbx m];exact zy0 h k j
  ·rename_i m;rw[Qby m];split at h
   ·rename_i a c y x;have⟨A,q,p⟩:=zgp k y;have⟨z,o,n⟩:=zgp j x;rw[q,o];split at h
    ·rename_i r s w u;simp only[y2n w p n,zy0 u k j];exact h
    ·cases h
   ·cases h
end
def ypp{t:Nat}{x y:TV D.T}{g i:V}{b:Bool}(h:yqy P 24 t x y=some b)(j:(x.odd&&y3z P t x y)=true)(e:VR D ρ lv x g)(d:VR D ρ lv y i) :
  (∀k l a c,g = .int k a->i = .int l c->False)∧(∀a c,g = .str a->i = .str c->False)∧(g.odd&&zmy P t g i)=true:=by
 simp only[yqy]at h;split at h <;> (try simp only[TV.odd,y3z,Qag,Bool.false_eq_true,false_and,true_and,Bool.and_true,Bool.and_false,Bool.true_and]at j) <;> (try simp only[VR]at e d)
 ·subst e;subst d;exact⟨by simp,by simp,rfl⟩
 ·obtain⟨xs,rfl,e⟩:=e;obtain⟨m,rfl,d⟩:=d;exact⟨by simp,by simp,by simpa[V.odd,zmy]using j⟩
 ·subst e;subst d;exact⟨by simp,by simp,rfl⟩
 ·subst e;obtain⟨_,_,_,_,rfl⟩:=d;exact⟨by simp,by simp,rfl⟩
 ·subst e;obtain⟨_,rfl,_⟩:=d;exact⟨by simp,by simp,rfl⟩
 ·subst d;obtain⟨_,_,_,_,rfl⟩:=e;exact⟨by simp,by simp,rfl⟩
 ·subst d;obtain⟨_,rfl,_⟩:=e;exact⟨by simp,by simp,rfl⟩
 ·subst e;subst d;exact⟨by simp,by simp,rfl⟩
 ·subst e;subst d;exact⟨by simp,by simp,rfl⟩
 ·subst e;obtain⟨_,_,rfl,_⟩:=d;exact⟨by simp,by simp,rfl⟩
 ·subst d;obtain⟨_,_,rfl,_⟩:=e;exact⟨by simp,by simp,rfl⟩
 ·subst e;obtain⟨_,rfl,_⟩:=d;exact⟨by simp,by simp,rfl⟩
 ·subst d;obtain⟨_,rfl,_⟩:=e;exact⟨by simp,by simp,rfl⟩
 ·cases h
def z3h{α:Type}{o:Option α}{β:Type}{f:α->Option β}{r:β}(h:z9s o f=some r):∃x,o=some x∧f x=some r:=zrf h
def yyy{t:Nat}{x y:V}{b:Bool}(i:∀k d a c,x = .int k a->y = .int d c->False)(h:∀a c,x = .str a->y = .str c->False)(g:(x.odd&&zmy P t x y)=true)(e:eqv P 24 t x y=some b):y64 P .eql t x y=some (.bool b):=by
 unfold y64;split
 ·exact(i _ _ _ _ rfl rfl).elim
 ·exact(h _ _ rfl rfl).elim
 ·simp only;rw[Qbx g,e];rfl
def z02z{t:Nat}{x y:V}{b:Bool}(i:∀k d a c,x = .int k a->y = .int d c->False)(h:∀a c,x = .str a->y = .str c->False)(g:(x.odd&&zmy P t x y)=true)(e:eqv P 24 t x y=some b):y64 P .neq t x y=some (.bool (!b)):=by
 unfold y64;split
 ·exact(i _ _ _ _ rfl rfl).elim
 ·exact(h _ _ rfl rfl).elim
 ·simp only;rw[Qbx g,e];rfl
def ytf{R:Type}{op:BinOp}{t:Nat}{x y:TV D.T}{u s:V}{k:TV D.T->Option R}{r:R}(h:tBin P op t x y k=some r)(m:VR D ρ lv x u)(l:VR D ρ lv y s) :
  ∃z v,y64 P op t u s=some v∧VR D ρ lv z v∧k z=some r:=by
 unfold tBin at h;split at h
 ·rename_i i a B b;simp only[VR]at m l;subst m;subst l;split at h
  ·have⟨z,d,e⟩:=z3h h;unfold shl at d;split at d
   ·cases d
   ·rename_i g;cases d;exact⟨_,_,by simp only[y64];rw[Qby g],by simp only[VR],e⟩
  ·have⟨z,d,e⟩:=z3h h;unfold shr at d;split at d
   ·cases d
   ·rename_i g;cases d;exact⟨_,_,by simp only[y64];rw[Qby g],by simp only[VR],e⟩
  ·rename_i q p;split at h
   ·rename_i A;subst A
    have n:∀v,yc9 op i a b=some v->y64 P op t (.int i a) (.int i b)=some v:=λv w=>by
     unfold y64
     cases op <;> first|exact(q rfl).elim|exact(p rfl).elim|(simp only[if_true];exact w)
    split at h
    all_goals first
     |(refine⟨_,_,n _ rfl,by simp only[VR],h⟩;done)
     |skip
    ·have⟨z,d,e⟩:=z3h h;obtain⟨j,rfl⟩:=z01h d;exact⟨_,_,n _ (by simp only[yc9];rw[Qby j]),by simp only[VR],e⟩
    ·have⟨z,d,e⟩:=z3h h;obtain⟨j,rfl⟩:=z03m d;exact⟨_,_,n _ (by simp only[yc9];rw[Qby j]),by simp only[VR],e⟩
    ·cases h
   ·cases h
 ·rename_i a b;simp only[VR]at m l;subst m;subst l;split at h
  ·have⟨z,d,e⟩:=z3h h;obtain⟨j,rfl⟩:=yyv d;exact⟨_,_,by simp only[y64,yu7];rw[Qbx j],by simp only[VR],e⟩
  ·exact⟨_,_,rfl,by simp only[VR],h⟩
  ·exact⟨_,_,rfl,by simp only[VR],h⟩
  ·exact⟨_,_,rfl,by simp only[VR],h⟩
  ·exact⟨_,_,rfl,by simp only[VR],h⟩
  ·exact⟨_,_,rfl,by simp only[VR],h⟩
  ·exact⟨_,_,rfl,by simp only[VR],h⟩
  ·cases h
 ·split at h
  ·split at h
   ·rename_i o;split at h
    ·rename_i b g;have⟨d,e,j⟩:=ypp g o m l;exact⟨_,_,yyy d e j (y2n g m l),by simp only[VR],h⟩
    ·cases h
   ·cases h
  ·split at h
   ·rename_i o;split at h
    ·rename_i b g;have⟨d,e,j⟩:=ypp g o m l;exact⟨_,_,z02z d e j (y2n g m l),by simp only[VR],h⟩
    ·cases h
   ·cases h
  ·cases h
variable (hD:D.Ok P)
include hD
omit hD in
theorem yui{t:DTy}{xs:List (t.S D.T)}{ws:List V}(e:ws.length=xs.length)(h:∀(j:Nat) (x:t.S D.T) (w:V),xs[j]? = some x->ws[j]? = some w->DR D t x w){n:Int}{y:t.S D.T}(d:ix xs n=some y):0<=n∧n.toNat<ws.length∧∃w,ws[n.toNat]? = some w∧DR D t y w:=by
 have⟨g,b⟩:=zld d;have a:n.toNat<ws.length:=by rw[e];exact(Qaa.1 b).1
 exact⟨g,a,ws[n.toNat],Qab a,h _ _ _ b (Qab a)⟩
omit hD in
theorem y18{R:Type}{r:R}:∀{len:Nat}{n:Int}{f:Nat->Option R},0<=n->n<(len:Int)->y5i len n f=some r->∃m,m<len∧n=Int.ofNat m∧f m=some r
 |0,_,_,_,_,h=>by cases h
 |1,n,f,b,g,h=>⟨0,by omega,by simp only[Int.ofNat_eq_natCast];omega,h⟩
 |len+2,n,f,b,g,h=>by
  simp only[y5i]at h;rw[yb4]at h;split at h
  ·rename_i a;exact⟨len+1,by omega,by simpa using a,h⟩
  ·rename_i a;have i:n≠((len+1:Nat):Int):=by simpa using a
   have⟨m,j,e,d⟩:=y18 b (by omega) h;exact⟨m,by omega,e,d⟩
omit hD in
theorem y1o{R:Type}{t len e:Nat}{G:IntKind}{H:Heap}{x:TV D.T}{A:V}{k:TV D.T->Option R}{r:R}{m:Nat}(p:P.underlying t=some (.array len e))(h:yb1 P len e x k m=some r)(g:VR D ρ lv x A) :
  ∃z v,kzs P H t A (.int G (Int.ofNat m))=some v∧VR D ρ lv z v∧k z=some r:=by
 unfold yb1 at h;split at h
 ·rename_i i;have b:(0:Int)<=Int.ofNat m:=Int.natCast_nonneg m;have d:Int.ofNat m<(len:Int):=Int.ofNat_lt.2 i.1;split at h
  ·rename_i cs a;simp only[VR]at g;obtain⟨vs,rfl,K⟩:=g;exact⟨_,.ref vs (a+m * P.cellsOf e),by unfold kzs;simp only;rw[Qbx b,p];simp only;rw[Qbx ⟨d,i.2⟩];rfl,by simp only[VR];exact⟨vs,rfl,K⟩,h⟩
  ·rename_i s a;simp only[VR]at g;obtain⟨sl,j,y,u,rfl⟩:=g;exact⟨_,.ptr lv j (a+m * P.cellsOf e),by unfold kzs;simp only;rw[Qbx b,p];simp only;rw[Qbx ⟨d,i.2⟩];rfl,by simp only[VR];exact⟨sl,j,y,u,rfl⟩,h⟩
  ·rename_i s τ I N a;simp only[VR]at g;have⟨sl,w,y,u,C,B,l⟩:=g
   cases q:sl.k with
   |none=>
    rw[q]at l;simp only at l;subst l
    exact⟨_,.ref w.cells (a+m * P.cellsOf e),by unfold kzs;simp only;rw[Qbx b,p];simp only;rw[Qbx ⟨d,i.2⟩];rfl,by simp only[VR];exact⟨sl,w,y,u,C,B,by rw[q]⟩,h⟩
   |some j=>
    rw[q]at l;obtain⟨o,n,M,rfl⟩:=l;exact⟨_,.ap lv j o I.toNat (a+m * P.cellsOf e),by unfold kzs;simp only;rw[Qbx b,p];simp only;rw[Qbx ⟨d,i.2⟩];rfl,by simp only[VR];exact⟨sl,w,y,u,C,B,by rw[q];exact⟨o,n,M,rfl⟩⟩,h⟩
  ·cases h
 ·cases h
theorem y7b{R:Type}(U:TRr D F ρ ts σ){t:Nat}{x i:TV D.T}{vx vi:V}{k:TV D.T->Option R}{r:R}(h:y2r P D ts t x i k=some r)(b:VR D ρ F.lv x vx)(hi:VR D ρ F.lv i vi) :
  ∃z v,kzs P σ.H t vx vi=some v∧VR D ρ F.lv z v∧k z=some r:=by
 unfold y2r at h;split at h
 ·rename_i ik n;simp only[VR]at hi;subst hi;split at h
  ·rename_i e p;split at h
   ·rename_i Q;split at h
    ·rename_i τ xs fl;split at h
     ·rename_i C;have⟨y,G,h⟩:=z3h h;simp only[VR]at b;have⟨b,_⟩:=b
      cases b with
      |nil=>have⟨_,X⟩:=zld G;simp at X
      |sl _ _ ws full hl hh=>
       have⟨l,X,w,h3,h4⟩:=yui hl hh G;refine⟨_,.ref w.cells 0,?_,?_,h⟩
       ·rw[y23,Qbx l,p];simp only;rw[Qbx ⟨C,Q⟩,h3];rfl
       ·simp only[VR];exact⟨_,rfl,VR.yl3 hD h4⟩
     ·cases h
    ·rename_i s;split at h
     ·rename_i ty τ xs w W;split at h
      ·rename_i C;have⟨y,G,h⟩:=z3h h;simp only[VR]at b;obtain⟨sl,l,rfl,B⟩:=b;have⟨sl',N,M⟩:=U.ob _ _ W
       rw[l]at N;cases N
       simp only[OR]at M;have⟨Y,q2,g⟩:=M;have⟨o,O,u,K,p4⟩:=yui Y q2 G
       cases A:sl.k with
       |none=>
        rw[A]at g
        rcases g with ⟨d,I⟩|⟨d,I⟩
        ·rw[I]at K;simp at K
        ·refine⟨_,.ref u.cells 0,?_,?_,h⟩
         ·rw[d.1,y23,Qbx o,p];simp only;rw[Qbx ⟨C,Q⟩,K];rfl
         ·simp only[VR];exact⟨sl,u,l,o,K,p4,by rw[A]⟩
       |some j=>
        rw[A]at g;have⟨a,cp,d,I⟩:=g;refine⟨_,.ap F.lv j a n.toNat 0,?_,?_,h⟩
        ·rw[d];unfold kzs;simp only;rw[Qbx o,p];simp only[U.get I];rw[Qbx ⟨trivial,C,Q,by omega⟩];simp
        ·simp only[VR];exact⟨sl,u,l,o,K,p4,by rw[A];exact⟨a,_,d,by simp⟩⟩
      ·cases h
     ·rename_i ty q xs hh W;split at h
      ·rename_i C;have⟨y,G,h⟩:=z3h h;simp only[VR]at b;obtain⟨sl,l,rfl,B⟩:=b;have⟨sl',N,M⟩:=U.ob _ _ W
       rw[l]at N;cases N
       simp only[OR]at M;have⟨Y,g⟩:=M;have⟨o,O⟩:=zld G;have h5:n.toNat<sl.ws.length:=by rw[Y];exact(Qaa.1 O).1
       cases A:sl.k with
       |none=>
        rw[A]at g;have⟨d,_⟩:=g
        rw[d]at O;simp at O
       |some j=>
        rw[A]at g;have⟨a,cp,fps,d,I,_⟩:=g;refine⟨_,.ap F.lv j a n.toNat 0,?_,?_,h⟩
        ·rw[d];unfold kzs;simp only;rw[Qbx o,p];simp only[U.get I];rw[Qbx ⟨trivial,C,Q,by omega⟩];simp
        ·simp only[VR];exact⟨sl,j,a,_,l,d,o,h5,by simp⟩
      ·cases h
     ·cases h
    ·cases h
   ·cases h
  ·rename_i len e p;split at h
   ·have⟨_,Z,h⟩:=z3h h;unfold inR at Z;split at Z
    ·rename_i hc;obtain⟨m,hm,rfl,X⟩:=y18 hc.1 hc.2 h;exact y1o p X b
    ·cases Z
   ·split at h
    ·exact y1o p h b
    ·cases h
  ·cases h
 ·cases h
omit hD in
theorem yqe{t:DTy}:∀{cs:List (TV D.T)}{xs:List (t.S D.T)},yos D t cs = .ok xs->xs.length=cs.length
 |[],xs,h=>by simp only[yos]at h;cases h;rfl
 |c::cs,xs,h=>by
  simp only[yos]at h;split at h
  ·split at h
   ·rename_i b a;cases h;simp[yqe a]
   ·cases h
   ·cases h
  ·cases h
  ·cases h
theorem yla{R:Type}{t:Nat}{x i:TV D.T}{m o:V}{k:TV D.T->Option R}{r:R}(h:ysi P D t x i k=some r)(a:VR D ρ lv x m)(q:VR D ρ lv i o) :
  ∃z v,y7f P t m o=some v∧VR D ρ lv z v∧k z=some r:=by
 unfold ysi at h;split at h
 ·rename_i H n;simp only[VR]at q;subst q;split at h
  ·rename_i s;simp only[VR]at a;subst a;split at h
   ·rename_i j;have⟨b,N,h⟩:=z3h h;have⟨Q,O⟩:=zld N;refine⟨_,.int .u8 b.toNat,?_,by simp only[VR],h⟩;unfold y7f;simp only;rw[Qbx Q,j];simp only[O];rfl
   ·cases h
  ·rename_i cs;simp only[VR]at a;obtain⟨vs,rfl,a⟩:=a;split at h
   ·rename_i len e j;split at h
    ·rename_i τ W;split at h
     ·rename_i M;have⟨Y,X,U,w⟩:=M;split at h
      ·split at h
       ·rename_i xs g;have⟨y,I,h⟩:=z3h h;have⟨p,G⟩:=y38 hD g a;have⟨C,Z,u,B,A⟩:=yui p G I;have hlen:vs.length=len:=by rw[p,yqe g,Y]
        refine⟨_,u,?_,VR.leaf A,h⟩;unfold y7f;simp only;rw[Qbx C,j];simp only;rw[Qbx ⟨by omega,U⟩,X,Nat.mul_one];unfold rd;rw[Option.any_eq_true]at w;have⟨d,K,l⟩:=w;rw[K]
        cases d <;> first|exact B|(simp[TypeDesc.isAgg]at l)
       ·cases h
      ·cases h
     ·cases h
    ·cases h
   ·cases h
  ·cases h
 ·cases h
omit hD in
theorem yyu{d n:Nat}{o:Option (TV D.T)}{l:Int}{a:Option V}(p:d<=n)(h:yol D (d:Int) o=some l)(e:∀x,o=some x->∃v,a=some v∧VR D ρ lv x v)(g:o=none->a=none)(j:0<=l)(i:l<=n):bnd n d a=some l.toNat:=by
 unfold yol at h;split at h
 ·cases h;rw[g rfl];simp[bnd]
 ·rename_i m x;cases h;have⟨v,k,b⟩:=e _ rfl;simp only[VR]at b;subst b;rw[k];simp only[bnd];rw[Qbx ⟨j,i⟩]
 ·cases h
omit hD in
theorem yok{R:Type}{t:Nat}{x:TV D.T}{Q I:Option (TV D.T)}{vx:V}{a b:Option V}{k:TV D.T->Option R}{kf:Nat->Option R}{r:R}(h:yum P D t x Q I k kf=some r)(i:VR D ρ lv x vx)
  (W:∀y,Q=some y->∃v,a=some v∧VR D ρ lv y v) (N:Q=none->a=none) (h4:∀y,I=some y->∃v,b=some v∧VR D ρ lv y v) (O:I=none->b=none) (H:Heap) :
  (∃z v,zjb P H t vx a b none=some v∧VR D ρ lv z v∧k z=some r)∨∃s,kf s=some r:=by
 unfold yum at h
 have bounds:∀{n:Nat}{l q:Int},yol D 0 Q=some l->yol D (n:Int) I=some q->0<=l->l<=q->q<=n->zhw n a b none=some (l.toNat,q.toNat,none):=λ{n l q} A m C K B=>by
  simp only[zhw];rw[yyu (Qbw n) m h4 O (by omega) B];simp only[Option.bind_some];rw[yyu (d:=0) (n:=q.toNat) (Qbv _) A W N C (by omega)];rfl
 split at h
 ·rename_i s;simp only[VR]at i;subst i;split at h
  ·rename_i U;split at h
   ·rename_i l q A m;have⟨y,X,h⟩:=z3h h;obtain⟨C,K,B,rfl,_⟩:=yr2 X;left;exact⟨_,.str ((s.take q.toNat).drop l.toNat),by simp only[zjb,U,bounds A m C K B,Qbr],by simp only[VR],h⟩
   ·cases h
  ·cases h
 ·rename_i τ xs fl;simp only[VR]at i;have⟨i,M,h6⟩:=i;split at h
  ·rename_i e U;split at h
   ·rename_i hz;split at h
    ·rename_i l q A m;have⟨y,X,h⟩:=z3h h;obtain⟨C,K,B,rfl,_⟩:=yr2 X;left
     cases i with
     |nil=>
      refine⟨_,.nils,?_,?_,h⟩
      ·have Y:zhw 0 a b none=some (l.toNat,q.toNat,none):=bounds A m C K B;simp only[zjb,U];rw[Qbx hz.2,Y];rfl
      ·simp only[VR];refine⟨by simp only[List.take_nil,List.drop_nil];exact .nil τ,λg =>?_,λg=>by simp⟩
       have:1<=fl:=by
        split at g
        ·omega
        ·omega
       have⟨ws,G⟩:=M this
       cases G
     |sl _ _ ws full u hh=>
      refine⟨_,.sl (D.len τ) ((ws.take q.toNat).drop l.toNat) (full&&q.toNat==ws.length),?_,?_,h⟩
      rotate_left
      ·simp only[VR];refine⟨.sl τ _ ((ws.take q.toNat).drop l.toNat) (full&&q.toNat==ws.length) (by simp[u]) λj x w i G =>?_,λg =>?_,λg =>?_⟩
       ·rw[Qbf,Qaw]at i G;split at i
        ·rw[Qbx ‹_›]at G;exact hh _ _ _ i G
        ·cases i
       ·have o:I=none∧1<=fl:=by
         split at g
         ·exact⟨by first|assumption|rfl,by omega⟩
         ·omega
        have⟨h5,p⟩:=M o.2;injection p with _ _ p;subst p
        have Z:q=xs.length:=by
         rw[o.1]at m;simp only[yol,Qbu]at m;exact m.symm
        refine⟨(ws.take q.toNat).drop l.toNat,?_⟩;have:(q.toNat==ws.length)=true:=by rw[Z,u];simp
        rw[this];rfl
       ·exfalso
        split at g
        ·omega
        ·omega
      ·have Y:zhw ws.length a b none=some (l.toNat,q.toNat,none):=by rw[u];exact bounds A m C K B
       simp only[zjb,U];rw[Qbx hz,Y];simp
    ·cases h
   ·cases h
  ·cases h
 ·exact .inr ⟨_,h⟩
 ·cases h
omit hD in
theorem TRr.oev(d:TRr D F ρ ts σ){o:Option Operand}{x:Option (TV D.T)}(h:oev D ts o=some x):(∀y,x=some y->∃v,o.map σ.ev=some v∧VR D ρ F.lv y v)∧(x=none->o.map σ.ev=none):=by
 cases o with
 |none=>simp only[Go.Ab.oev,Qbu]at h;subst h;exact⟨by simp,λ_=>rfl⟩
 |some o=>
  simp only[Go.Ab.oev,Qaf]at h;obtain⟨y,b,rfl⟩:=h;exact⟨λz a=>by cases a;exact⟨_,rfl,d.ev b⟩,by simp⟩
omit hD in
theorem DR.flat{t:DTy}(a:t.flat=true){x:t.S D.T}{v:V}(h:DR D t x v):v=D.el t x:=by
 cases h <;> first|rfl|cases a
theorem ygi{R:Type}(I:TRr D F ρ ts σ){t:Nat}{x a:TV D.T}{o u:V}{ok:Bool}{k:TV D.T->Option R}{r:R}(h:yl5 P D ts t x a ok k=some r)(B:VR D ρ F.lv x o)(G:VR D ρ F.lv a u) :
  ∃z v,zv2 P σ.H t o u ok=some v∧VR D ρ F.lv z v∧k z=some r:=by
 unfold yl5 at h;split at h
 ·rename_i kt e s Y;simp only[VR]at G;subst G;split at h
  ·rename_i z n X;have⟨d,j,g⟩:=zlw (ρ:=ρ) (lv:=F.lv) X;split at h
   ·rename_i q;split at h
    ·rename_i ty τ es W;simp only[VR]at B;obtain⟨sl,i,h1,h2,rfl⟩:=B;have⟨sl',A,y⟩:=I.ob _ _ W
     rw[h1]at A;cases A
     simp only[OR]at y;have⟨i',ms,w,O,M,N⟩:=y
     rw[h2]at w;cases w
     split at h
     ·rename_i b l;have h0:DR D τ b d:=zkv hD l g;have⟨U,Q⟩:=ysk (P:=P) (f:=λx:τ.S D.T×V=>x.2) (m:=ms) Y n j (I.get N) s (b,d) rfl;have K:z6b es s=(z6b ms s).map Prod.fst:=by rw[O];exact ys2 Prod.fst s ms
      have C:VR D ρ F.lv (D.tv τ ((z6b es s).getD b)) ((z6b ms s).getD (b,d)).2:=by
       rw[K]
       cases hm:z6b ms s with
       |none=>exact VR.tv hD h0
       |some p=>
        have⟨q,a1,a2⟩:=yqr hm;subst a2;exact VR.tv hD (M q a1)
      have Z:(z6b es s).isSome=(z6b ms s).isSome:=by rw[K];cases z6b ms s <;> rfl
      cases ok
      ·exact⟨_,_,U,C,h⟩
      ·exact⟨_,_,Q,by
        simp only[VR,VRL]
        exact⟨_,rfl,_,_,rfl,C,_,_,rfl,by rw[Z],rfl⟩,h⟩
     ·cases h
    ·cases h
   ·cases h
  ·cases h
 ·cases h
omit hD in
theorem DO.datE{L:List (Option yz5)}{t:DTy}{x:t.S D.T}{v:V}{c:List Nat}(h:DO D lv L .dat t x v c):DR D t x v:=by
 cases h with
 |dat h=>exact h
omit hD in
theorem y09(q:Nat):∀(l:List DTy) (x:HL D.T l) (f j:Nat),(y25 D q l x f)[j]? = (HL.nth l x j).map λp=>match D.ow q (f+j)with|none=>D.leaf p.1 p.2|some _=>.any
 |[],_,_,j=>by simp[y25,HL.nth]
 |t::l,x,f,0=>by simp only[y25,HL.nth,Qcd,Qbr,Nat.add_zero];rfl
 |t::l,x,f,j+1=>by
  have:=y09 q l x.2 (f+1) j;simp only[y25,HL.nth,List.getElem?_cons_succ,this];rw[show f+1+j=f+(j+1) by omega]
omit hD in
theorem yr1{k ρ':List Slot}{L:List (Option yz5)}{q n:Nat}{h:Option (Int×Nat×Nat)}{x:D.T q}{w:V}{c:List Nat}(l:EO D k lv L q h n x w c):VRL D ρ' lv (y25 D q (D.fl q) (D.get q x) 0) w.cells:=by
 obtain⟨vs,cs,rfl,o,u,s,m⟩:=l;refine .of ?_ λj y v g d =>?_
 ·show(y25 D q (D.fl q) (D.get q x) 0).length=vs.length;rw[o];apply Nat.le_antisymm
  ·apply Nat.le_of_not_lt;intro a;have:=y09 (D:=D) q (D.fl q) (D.get q x) 0 (D.fl q).length;rw[Qab a]at this
   cases i:HL.nth (D.fl q) (D.get q x) (D.fl q).length with
   |none=>rw[i]at this;cases this
   |some p=>have:=(HL.zfq _ _ _ _ i).1;omega
  ·apply Nat.le_of_not_lt;intro a;have⟨p,b,_⟩:=HL.zmb (D.fl q) (D.get q x) _ a;have:=y09 (D:=D) q (D.fl q) (D.get q x) 0 (y25 D q (D.fl q) (D.get q x) 0).length;rw[b,Qcf (Qbw _)]at this;cases this
 ·rw[y09,Qaf]at g;obtain⟨p,b,rfl⟩:=g;replace d:vs[j]? = some v:=d;have r:=(HL.zfq _ _ _ _ b).1;rw[Nat.zero_add]
  cases e:D.ow q j with
  |some ty=>simp only[VR]
  |none=>
   have:=m j p v _ b d (Qab (show j<cs.length by omega));rw[e]at this;split at this
   ·have:=this.2.1;cases this
   ·exact VR.leaf this.datE
omit hD in
theorem zgw{R:Type}(I:TRr D F ρ ts σ){ρ':List Slot}{t s b:Nat}{i:Int}{set:Option (Nat×TV D.T)}{k:TV D.T->Option R}{r:R}{A:V}(d:∀f v sl w u,set=some (f,v)->ρ[s]? = some sl->sl.ws[i.toNat]? = some w->w.cells[f]? = some u->VR D ρ' F.lv v u)
  (h:zyk P D ts t s i b set k=some r) (G:VR D ρ F.lv (.dp s i b) A):∃x v,ze4 P σ.H t A=some v∧VR D ρ' F.lv x v∧k x=some r:=by
 unfold zyk at h;split at h
 ·rename_i ty q xs hh W;have⟨y,X,h⟩:=z3h h;split at h
  ·rename_i x Y;simp only[VR]at G;obtain⟨sl,j,h1,m,N,a2,a3,a4,rfl⟩:=G;have⟨sl',M,K⟩:=I.ob s _ W
   rw[N]at M;cases M
   simp only[OR]at K;have⟨c1,g⟩:=K;have⟨p1,l⟩:=zld X
   cases C:sl.k with
   |none=>rw[C]at g;rw[g.1]at l;simp at l
   |some j'=>
    rw[C]at g;have⟨O,cp,fps,d1,d2,d3,d4,d5,d6,d7⟩:=g
    rw[a2]at d1;injection d1 with _ e1 e2 _ e3 _
    subst e1;subst e2;subst e3;have o:sl.ws[i.toNat]? = some (sl.ws[i.toNat]'a4):=Qab a4;have hE:=d6 i.toNat y _ _ l o (Qab (show i.toNat<fps.length by omega));have z:=yr1 (ρ':=ρ') hE
    have Z:VRL D ρ' F.lv (setO (y25 D q (D.fl q) (D.get q y) 0) set) (sl.ws[i.toNat]'a4).cells:=by
     cases set with
     |none=>exact z
     |some p=>
      have⟨f,v⟩:=p;refine .of (by simp[setO,z.length]) λn c u a B =>?_
      simp only[setO]at a;rw[Qbi]at a;split at a
      ·rename_i e;subst e;split at a
       ·cases a;exact d _ _ sl _ u rfl N o B
       ·cases a
      ·exact z.y3q a B
    have⟨v,U,Q⟩:=zgp Z Y;refine⟨x,v,?_,Q,h⟩;simp only[ydw,y1a,I.get d2,if_true,o,Qbr,Option.bind_some];exact U
  ·cases h
 ·cases h
omit hD in
theorem yn9{R:Type}(j:TRr D F ρ ts σ){t s b:Nat}{i:Int}{k:TV D.T->Option R}{r:R}{B:V}
  (h:ysw P D ts t s i b k=some r) (o:VR D ρ F.lv (.dp s i b) B):∃x v,ze4 P σ.H t B=some v∧VR D ρ F.lv x v∧k x=some r:=by
 unfold ysw at h;split at h
 ·rename_i ty q xs p Q;have⟨n,a,c⟩:=p;split at h
  ·rename_i d;have d:a=b:=Qaj d;subst d;have⟨_,m,h⟩:=z3h h
   have z:n=i:=by
    unfold yjp at m;split at m
    ·rename_i e;exact e
    ·cases m
   subst z;refine zgw j (ρ':=ρ) (λf2 v sl w C e y N g =>?_) h o;cases e;have⟨sl',K,I⟩:=j.ob s _ Q
   rw[y]at K;cases K
   simp only[OR]at I;have⟨c1,l⟩:=I
   cases G:sl.k with
   |none=>rw[G]at l;cases l.2.2.2
   |some j'=>
    rw[G]at l;have⟨M,h2,fps,d1,d2,d3,d4,d5,d6,d7⟩:=l;have A:=(d7 _ _ _ rfl).2;have⟨vs,cs,X,g2,g3,g4,U⟩:=d6 n.toNat _ w _ (Qab A) N (Qab (show n.toNat<fps.length by omega));subst X;replace g:vs[a]? = some C:=g;have h1:=(Qaa.1 g).1;have⟨p,O,_⟩:=HL.zmb (D.fl q) (D.get q xs[n.toNat]) a (by omega)
    have:=U a p C _ O g (Qab (show a<cs.length by omega));rw[show z2a (some (n,a,c)) n.toNat a=some c by simp[z2a]]at this;have⟨_,_,W,u,Z,Y⟩:=this;simp only[VR];exact⟨u,Z,Y,W⟩
  ·exact zgw j (ρ':=ρ) (λf v _ _ _ e=>by cases e) h o
 ·exact zgw j (ρ':=ρ) (λf v _ _ _ e=>by cases e) h o
theorem yc6{R:Type}(d:TRr D F ρ ts σ){op:Op}{k:TV D.T->Option R}{q:Nat->Option R}{r:R}(h:tP P D ts op k q=some r) :
  (∃x v,pv P σ.H σ.ev op=some v∧VR D ρ F.lv x v∧k x=some r)∨∃s,q s=some r:=by
 unfold tP at h;split at h
 ·rename_i c a b;split at h
  ·rename_i t x y w g j;have e:=d.ev w;simp only[VR]at e;left;rw[yb4]at h;split at h
   ·rename_i n;exact⟨x,_,by simp only[pv,e];rw[Qbx n],d.ev g,h⟩
   ·rename_i n;exact⟨y,_,by simp only[pv,e];rw[Qby n],d.ev j,h⟩
  ·cases h
 ·split at h
  ·rename_i g j;left;have⟨z,v,e,i,l⟩:=ytf h (d.ev g) (d.ev j);exact⟨z,v,e,i,l⟩
  ·cases h
 ·split at h
  ·rename_i g j;left;have⟨z,v,e,i,l⟩:=y7b hD d h (d.ev g) (d.ev j);exact⟨z,v,e,i,l⟩
  ·cases h
 ·split at h
  ·rename_i g j;left;have⟨z,v,e,i,l⟩:=yla hD h (d.ev g) (d.ev j);exact⟨z,v,e,i,l⟩
  ·cases h
 ·split at h
  ·rename_i g j;left;have⟨z,v,e,i,l⟩:=ygi hD d h (d.ev g) (d.ev j);exact⟨z,v,e,i,l⟩
  ·cases h
 ·split at h
  ·rename_i g o p;have⟨G,C⟩:=d.oev o;have⟨B,A⟩:=d.oev p;exact yok h (d.ev g) G C B A σ.H
  ·cases h
 ·split at h
  ·rename_i g;left;exact yn9 d h (d.ev g)
  ·split at h
   ·rename_i v m;have⟨u,e,i⟩:=yju hD d m;exact .inl ⟨v,u,e,i,h⟩
   ·exact .inr ⟨_,h⟩
   ·cases h
 ·split at h
  ·rename_i v m;have⟨u,e,i⟩:=yju hD d m;exact .inl ⟨v,u,e,i,h⟩
  ·exact .inr ⟨_,h⟩
  ·cases h
end
end Go.Ab
