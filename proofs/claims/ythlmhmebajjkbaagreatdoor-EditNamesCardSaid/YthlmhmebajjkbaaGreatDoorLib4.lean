/-
  THE TYPED MACHINE: calls, labels, code. Definitions.
-/
import Derived.Test.YthlmhmebajjkbaaGreatDoorLib3
namespace Go.Ab
open Go
set_option linter.unusedVariables false
def mks {α β:Type} (es:List (α×β)):List α:=es.map Prod.fst
def mvs {α β:Type} (es:List (α×β)):List β:=es.map Prod.snd
inductive Src (T:Nat->Type) where
 |slot (s:Nat)
 |nil
abbrev z1p (T:Nat->Type):=List (Nat×Src T)
section
variable {T : Nat → Type}
def Src.ygi (s:Nat):Src T->Bool
 | .slot s'=>s'==s
 |_=>false
def zc4 (n k s:Nat) (M:z1p T):Option (z1p T) :=
 match fnd M k with
 |some (.slot s')=>if s'=s then some M else none
 |some _=>none
 |none=>if k<n∧M.all (λp => !p.2.ygi s) then some ((k,.slot s)::M) else none
def y9r (n k:Nat) (M:z1p T):Option (z1p T) :=
 match fnd M k with
 |some .nil=>some M
 |some _=>none
 |none=>if k<n then some ((k,.nil)::M) else none
def frU (o:Option (z1p T)):FR (z1p T×Unit) :=
 match o with
 |some M=>.ok (M,())
 |none=>.bad
end
def OSh.tys:OSh->List DTy
 | .cells cs=>Sh.z1a cs
 | .st i=>[.st i]
 | .acc _ t _=>[.sl t]
 | .siter=>[.str,.nat]
 | .mp _ t=>[.sl .str,.sl t]
 | .mit t=>[.sl .str,.sl t]
 | .bld _ _=>[]
 | .deep _ i=>[.sl (.st i)]
 | .deeph _ i _ _=>[.sl (.st i),.int .i64]
def z09:List OSh->List DTy
 |[]=>[]
 |o::l=>o.tys++z09 l
def ydx:List (Nat×Sh)->List DTy
 |[]=>[]
 |p::l=>p.2.tys++ydx l
section
variable (D : Dat)
mutual
def zv6 (n:Nat):(sh:Sh)->TV D.T->z1p D.T->FR (z1p D.T×HL D.T sh.tys)
 | .any,_,M=>.ok (M,())
 | .d t,v,M=>match asD D t v with
   | .ok x=>.ok (M,(x,()))
   | .frz s=>.frz s
   | .bad=>.bad
 | .own k,.own s,M=>frU (zc4 n k s M)
 | .own k,.nils,M=>frU (y9r n k M)
 | .ptr k off,.ptr s off',M=>if off=off' then frU (zc4 n k s M) else .bad
 | .bp k,.bp s 0,M=>frU (zc4 n k s M)
 | .map k,.map s,M=>frU (zc4 n k s M)
 | .mc t,.mc t' es,M=>match zmj t' t es with
   |some es=>.ok (M,(mks es,(mvs es,())))
   |none=>.bad
 | .mc _,.map s,_=>.frz s
 | .nilp,.nilp,M=>.ok (M,())
 | .nilf,.nilf,M=>.ok (M,())
 | .nili,.nili,M=>.ok (M,())
 | .nils,.nils,M=>.ok (M,())
 | .fn f a b,.fn f' a' b',M=>if f=f' then (match zou n a a' M with
   | .ok (M,x)=>match zou n b b' M with
     | .ok (M,y)=>.ok (M,HL.app x y)
     | .frz s=>.frz s
     | .bad=>.bad
   | .frz s=>.frz s
   | .bad=>.bad) else .bad
 | .iface t s,.iface t' v,M=>if t=t' then zv6 n s v M else .bad
 | .agg cs,.agg vs,M=>zou n cs vs M
 | .tup cs,.tup vs,M=>zou n cs vs M
 | .ref cs off,.ref vs off',M=>if off=off' then zou n cs vs M else .bad
 | .dp k off,.dp s i off',M=>if off=off' then (match zc4 n k s M with
   |some M=>.ok (M,(i,()))
   |none=>.bad) else .bad
 | .ap k t off,.ap s t' i x off',M=>if off=off' then (match zr4 t' t x with
   |some x=>(match zc4 n k s M with
    |some M=>.ok (M,(i,(x,())))
    |none=>.bad)
   |none=>.bad) else .bad
 |_,_,_=>.bad
def zou (n:Nat):(l:List Sh)->List (TV D.T)->z1p D.T->FR (z1p D.T×HL D.T (Sh.z1a l))
 |[],[],M=>.ok (M,())
 |sh::l,v::vs,M=>match zv6 n sh v M with
  | .ok (M,x)=>match zou n l vs M with
    | .ok (M,y)=>.ok (M,HL.app x y)
    | .frz s=>.frz s
    | .bad=>.bad
  | .frz s=>.frz s
  | .bad=>.bad
 |_,_,_=>.bad
end
mutual
def zi8 (m:Nat->Nat):(sh:Sh)->HL D.T sh.tys->TV D.T
 | .any,_=>.any
 | .d t,x=>D.tv t x.1
 | .own k,_=>.own (m k)
 | .ptr k off,_=>.ptr (m k) off
 | .bp k,_=>.bp (m k) 0
 | .map k,_=>.map (m k)
 | .mc t,x=>.mc t (List.zip x.1 x.2.1)
 | .nilp,_=>.nilp
 | .nilf,_=>.nilf
 | .nili,_=>.nili
 | .nils,_=>.nils
 | .fn f a b,x=>.fn f (z15 m a (HL.fst _ x)) (z15 m b (HL.snd _ x))
 | .iface t s,x=>.iface t (zi8 m s x)
 | .agg cs,x=>.agg (z15 m cs x)
 | .tup cs,x=>.tup (z15 m cs x)
 | .ref cs off,x=>.ref (z15 m cs x) off
 | .dp k off,x=>.dp (m k) x.1 off
 | .ap k t off,x=>.ap (m k) t x.1 x.2.1 off
def z15 (m:Nat->Nat):(l:List Sh)->HL D.T (Sh.z1a l)->List (TV D.T)
 |[],_=>[]
 |sh::l,x=>zi8 m sh (HL.fst _ x)::z15 m l (HL.snd _ x)
end
def zvp (n:Nat) (ts:TS D.T):(o:OSh)->Src D.T->z1p D.T->FR (z1p D.T×HL D.T o.tys)
 | .cells cs,.slot s,M=>match fnd ts.o s with
   |some (.cells vs)=>zou D n cs vs M
   |_=>.bad
 | .st i,.slot s,M=>match fnd ts.o s with
   |some (.cells vs)=>match z4z D (D.fl i) vs with
    | .ok x=>.ok (M,(D.make i x,()))
    | .frz s=>.frz s
    | .bad=>.bad
   |_=>.bad
 | .acc ty t w,.slot s,M=>match fnd ts.o s with
   |some (.acc ty' t' xs w')=>if ty=ty'∧(w=true->w'=true) then (match z89 t' t xs with|some xs=>.ok (M,(xs,()))|none=>.bad) else .bad
   |_=>.bad
 | .acc _ _ _,.nil,M=>.ok (M,([],()))
 | .siter,.slot s,M=>match fnd ts.o s with
   |some (.siter l pos)=>.ok (M,(l,(pos,())))
   |_=>.bad
 | .mp ty t,.slot s,M=>match fnd ts.o s with
   |some (.mp ty' t' es)=>if ty=ty' then (match zmj t' t es with|some es=>.ok (M,(mks es,(mvs es,())))|none=>.bad) else .bad
   |_=>.bad
 | .mit t,.slot s,M=>match fnd ts.o s with
   |some (.mit t' _ es)=>(match zmj t' t es with|some es=>.ok (M,(mks es,(mvs es,())))|none=>.bad)
   |_=>.bad
 | .bld ty k,.slot s,M=>match fnd ts.o s with
   |some (.bld ty' b)=>if ty=ty' then (match b with
    |some q=>frU (zc4 n k q M)
    |none=>frU (y9r n k M)) else .bad
   |_=>.bad
 | .deep ty q,.slot s,M=>match fnd ts.o s with
   |some (.deep ty' q' xs h)=>if ty=ty' then (match h with
    |none=>(match z89 (.st q') (.st q) xs with
     |some xs=>.ok (M,(xs,()))
     |none=>.bad)
    |some _=>.frz s) else .bad
   |_=>.bad
 | .deep _ _,.nil,M=>.ok (M,([],()))
 | .deeph ty q f k,.slot s,M=>match fnd ts.o s with
   |some (.deep ty' q' xs h)=>if ty=ty' then (match h with
    |some p=>if f=p.2.1 then (match z89 (.st q') (.st q) xs with
     |some xs=>(match zc4 n k p.2.2 M with
      |some M=>.ok (M,(xs,(p.1,())))
      |none=>.bad)
     |none=>.bad) else .bad
    |none=>.bad) else .bad
   |_=>.bad
 |_,_,_=>.bad
def zw5 (n:Nat) (ts:TS D.T):(os:List OSh)->Nat->z1p D.T->FR (z1p D.T×HL D.T (z09 os))
 |[],_,M=>.ok (M,())
 |o::os,k,M=>match fnd M k with
  |some src=>match zvp D n ts o src M with
   | .ok (M,x)=>match zw5 n ts os (k+1) M with
     | .ok (M,y)=>.ok (M,HL.app x y)
     | .frz s=>.frz s
     | .bad=>.bad
   | .frz s=>.frz s
   | .bad=>.bad
  |none=>.bad
def yae (n:Nat) (ts:TS D.T):(l:List (Nat×Sh))->z1p D.T->FR (z1p D.T×HL D.T (ydx l))
 |[],M=>.ok (M,())
 |p::l,M=>match fnd ts.t p.1 with
  |some v=>match zv6 D n p.2 v M with
   | .ok (M,x)=>match yae n ts l M with
     | .ok (M,y)=>.ok (M,HL.app x y)
     | .frz s=>.frz s
     | .bad=>.bad
   | .frz s=>.frz s
   | .bad=>.bad
  |none=>.bad
def zie (m:Nat->Nat):(o:OSh)->HL D.T o.tys->TO D.T
 | .cells cs,x=>.cells (z15 D m cs x)
 | .st i,x=>.cells (D.leaves (D.fl i) (D.get i x.1))
 | .acc ty t w,x=>.acc ty t x.1 w
 | .siter,x=>.siter x.1 x.2.1
 | .mp ty t,x=>.mp ty t (List.zip x.1 x.2.1)
 | .mit t,x=>.mit t none (List.zip x.1 x.2.1)
 | .bld ty k,_=>.bld ty (some (m k))
 | .deep ty q,x=>.deep ty q x.1 none
 | .deeph ty q f k,x=>.deep ty q x.1 (some (x.2.1,f,m k))
def z2m (m:Nat->Nat):(os:List OSh)->Nat->HL D.T (z09 os)->List (Nat×TO D.T)
 |[],_,_=>[]
 |o::os,k,x=>(m k,zie D m o (HL.fst _ x))::z2m m os (k+1) (HL.snd _ x)
def y8h (m:Nat->Nat):(l:List (Nat×Sh))->HL D.T (ydx l)->List (Nat×TV D.T)
 |[],_=>[]
 |p::l,x=>(p.1,zi8 D m p.2 (HL.fst _ x))::y8h m l (HL.snd _ x)
end
structure LSh where
 ts:List (Nat×Sh)
 os:List OSh
 pin:Nat
 nt:Nat
 gs:List Nat:=[]
def LSh.tys (l:LSh):List DTy:=ydx l.ts++z09 l.os
section
variable (D : Dat)
def LSh.bld (l:LSh) (x:HL D.T l.tys):TS D.T :=
 ⟨y8h D (λk=>k) l.ts (HL.fst _ x),z2m D (λk=>k) l.os 0 (HL.snd _ x),l.os.length,l.nt,[],l.gs.map some⟩
def pins {T:Nat->Type}:Nat->z1p T
 |0=>[]
 |n+1=>(n,.slot n)::pins n
def ybm {T:Nat->Type} (n:Nat):List Nat->List (Option Nat)->z1p T->Option (z1p T)
 |[],[],M=>some M
 |k::ks,some s::ss,M=>match zc4 n k s M with
  |some M=>ybm n ks ss M
  |none=>none
 |_,_,_=>none
def LSh.fit (l:LSh) (ts:TS D.T):FR (HL D.T l.tys) :=
 if ts.nt=l.nt∧ts.d.isEmpty=true then (match yae D l.os.length ts l.ts (pins l.pin) with
  | .ok (M,x)=>match ybm l.os.length l.gs ts.g M with
    |some M=>(match zw5 D l.os.length ts l.os 0 M with
     | .ok (_,y)=>.ok (HL.app x y)
     | .frz s=>.frz s
     | .bad=>.bad)
    |none=>.bad
  | .frz s=>.frz s
  | .bad=>.bad) else .bad
def LSh.enter {R:Type} (l:LSh) (k:HL D.T l.tys->Option R):Nat->TS D.T->Option R
 |0,_=>none
 |f+1,ts=>match l.fit D ts with
  | .ok x=>k x
  | .frz s=>match isHole ts s with
    |true=>ts.fold D (zw0 9 ts s) λts'=>LSh.enter l k f ts'
    |false=>match ts.freeze D s with
     |some ts'=>LSh.enter l k f ts'
     |none=>none
  | .bad=>none
structure Ent where
 f:Nat
 p:Nat
 args:List Sh
 aos:List OSh
 outs:List Sh
 ros:List OSh
 pan:Sh
 pos:List OSh
 pure:Bool
 go:{R:Type}->HL D.T (Sh.z1a args++z09 aos)->(HL D.T (Sh.z1a outs++z09 ros)->Option R)->(HL D.T (pan.tys++z09 pos)->Option R)->Option R
 ren:List (Nat×Nat):=[]
def Ent.fit (e:Ent D) (vs:List (TV D.T)) (ts:TS D.T):FR (z1p D.T×HL D.T (Sh.z1a e.args++z09 e.aos)) :=
 match zou D e.aos.length e.args vs [] with
 | .ok (M,x)=>match zw5 D e.aos.length ts e.aos 0 M with
   | .ok (M,y)=>.ok (M,HL.app x y)
   | .frz s=>.frz s
   | .bad=>.bad
 | .frz s=>.frz s
 | .bad=>.bad
def z5l (M:z1p D.T) (p nx k:Nat):Nat :=
 if k<p then (match fnd M k with|some (.slot s)=>s|_=>0) else nx+(k-p)
def zgy:z1p D.T->List (Nat×TO D.T)
 |[]=>[]
 |(_,.slot s)::l=>(s,.gone)::zgy l
 |(_,.nil)::l=>zgy l
def z7n (M:z1p D.T) (p:Nat) (ts:TS D.T) (os:List OSh) (y:HL D.T (z09 os)):TS D.T :=
 {ts with o:=z2m D (z5l D M p ts.nx) os 0 y++(zgy D M++ts.o),nx:=ts.nx+(os.length-p)}
def zab (M:z1p D.T) (p nx:Nat):List (Nat×Nat)->TS D.T->TS D.T
 |[],ts=>ts
 |q::l,ts=>match fnd M q.1 with
  |some (.slot s)=>zab M p nx l (ts.z7g D (TV.ren D s (z5l D M p nx q.2)))
  |_=>zab M p nx l ts
def zyh:List (TV D.T)->TV D.T
 |[v]=>v
 |vs=>.tup vs
def yj7 {R:Type} (f:Nat) (vs:List (TV D.T)) (ts:TS D.T) (k kp:TV D.T->TS D.T->Option R) (kf:Nat->Option R):Option R:=none
def zlx {R:Type} (f:Nat) (vs:List (TV D.T)) (ts:TS D.T) (k kp:TV D.T->TS D.T->Option R) (kf:Nat->Option R):List (Ent D)->Option R
 |[]=>yj7 D f vs ts k kp kf
 |e::r=>match Nat.beq e.f f with
  |false=>zlx f vs ts k kp kf r
  |true=>match e.fit D vs ts with
   | .bad=>zlx f vs ts k kp kf r
   | .frz s=>kf s
   | .ok (M,x)=>if e.p<=e.aos.length∧e.p<=e.ros.length∧e.p<=e.pos.length∧(List.range e.p).all (λk=>match fnd M k with|some (.slot _)=>true|_=>false) then
       e.go x (λy=>k (zyh D (z15 D (z5l D M e.p ts.nx) e.outs (HL.fst _ y))) (zab D M e.p ts.nx e.ren (z7n D M e.p ts e.ros (HL.snd _ y))))
        (λy=>kp (zi8 D (z5l D M e.p ts.nx) e.pan (HL.fst _ y)) (z7n D M e.p ts e.pos (HL.snd _ y)))
       else none
end
def Sh.yho:Sh->Bool
 | .d t=>t.flat
 |_=>false
def pBor {R:Type} (D:Dat) (f:Nat) (vs:List (TV D.T)) (ts:TS D.T) (k:TV D.T->TS D.T->Option R) (kf:Option R):Option R:=kf
def ydr {R:Type} (D:Dat) (f:Nat) (vs:List (TV D.T)) (ts:TS D.T) (k:TV D.T->TS D.T->Option R) (kf:Option R):List (Ent D)->Option R
 |[]=>pBor D f vs ts k kf
 |e::r=>match Nat.beq e.f f&&e.pure&&e.outs.all Sh.yho with
  |true=>(match e.fit D (TV.yey D ts vs) ts with
   | .ok mx=>e.go mx.2 (λy=>k (zyh D (z15 D (λk=>k) e.outs (HL.fst _ y))) ts) (λ_=>none)
   |_=>ydr D f vs ts k kf r)
  |false=>ydr D f vs ts k kf r
section
variable (P : Program) (D : Dat) (tbl : List (Ent D))
noncomputable def zwq {R:Type} (op:Op) (k kp:TV D.T->TS D.T->Option R):Nat->TS D.T->Option R
 |0,_=>none
 |fuel+1,ts=>
  let kf:=λs=>match isHole ts s with
   |true=>ts.fold D (zw0 9 ts s) λts'=>zwq op k kp fuel ts'
   |false=>(match ts.freeze D s with
    |some ts'=>zwq op k kp fuel ts'
    |none=>none)
  match op with
  | .load t a=>(match ts.ev a with
    |some (.dp s i off)=>ybe D P ts t s i off k kf
    |_=>tOp P D ts op k kf)
  | .call c=>match c.callee with
    | .value x=>match ts.ev x,ts.evs c.args.toList with
      |some (.fn f a b),some vs=>(match (TV.zy6 (a++vs++b)).find? (yfg ts) with
       |some _=>(match (TV.zy6 (a++vs++b)).find? (isHole ts) with
        |some s=>kf s
        |none=>ydr D f (a++vs++b) ts k (zlx D f (a++vs++b) ts k kp kf tbl) tbl)
       |none=>zlx D f (a++vs++b) ts k kp kf tbl)
      |_,_=>none
    |_=>tOp P D ts op k kf
  | .panic x=>match ts.ev x with
    |some (.iface t v)=>kp (.iface t v) ts
    |_=>none
  | .defer c=>match c.callee with
    | .value x=>match ts.ev x,ts.evs c.args.toList with
      |some (.fn f a b),some vs=>k .any {ts with d:=(f,a++vs++b)::ts.d}
      |_,_=>none
    |_=>none
  | .binOp o t x y _=>match ts.ev x,ts.ev y with
    |some .nili,some .nili=>(match isC x||isC y,P.underlying t with
     |true,some (.interface _)=>(match o with
      | .eql=>k (.bool true) ts
      | .neq=>k (.bool false) ts
      |_=>none)
     |_,_=>none)
    |_,_=>tOp P D ts op k kf
  | .alloc t=>match zeroV P t,P.info? t with
    |some (.agg [.nilp,.nils]),some i=>(match yjb P t&&Nat.beq i.size 2 with
     |true=>k (.bp ts.nx 0) (ts.new D (.bld t none))
     |false=>tOp P D ts op k kf)
    |_,_=>tOp P D ts op k kf
  | .convert s d x=>match ts.ev x with
    |some (.sl (.int .u8) xs _)=>(match P.underlying s,P.underlying d with
     |some (.slice e),some .string=>(match P.underlying e with
      |some (.int .u8)=>z3f (yco xs) λy=>k (.str y) ts
      |_=>none)
     |_,_=>none)
    |_=>tOp P D ts op k kf
  | .range t x=>match ts.ev x with
    |some (.map q)=>kf q
    |some (.mc τ es)=>(match P.underlying t with
     |some (.map _ _)=>k (.ptr ts.nx 0) (ts.new D (.mit τ none es))
     |_=>none)
    |_=>tOp P D ts op k kf
  | .next x false=>match ts.ev x with
    |some (.ptr s 0)=>(match fnd ts.o s with
     |some (.mit τ _ es)=>y9e es (λa y r=>k (.tup [.bool true,.str a,D.leaf τ y]) (ts.set D s (.mit τ (some (a,y)) r))) (k (.tup [.bool false]) ts)
     |_=>none)
    |_=>none
  | .entry x=>match ts.ev x with
    |some (.ptr s 0)=>(match fnd ts.o s with
     |some (.mit τ (some p) _)=>k (.tup [.str p.1,D.leaf τ p.2]) ts
     |_=>none)
    |_=>none
  |_=>tOp P D ts op k kf
def zxf {R:Type} (all:List Oper) (o:Oper) (ts:TS D.T) (go skip:TS D.T->Option R):Option R :=
 match o.guard with
 |none=>go ts
 |some (j,want)=>match (all[j]?).bind (·.dst) with
  |none=>none
  |some d=>match fnd ts.t d with
   |some (.bool b)=>pIf b (if want then go {ts with t:=(d,.bool true)::ts.t} else skip {ts with t:=(d,.bool true)::ts.t})
     (if want then skip {ts with t:=(d,.bool false)::ts.t} else go {ts with t:=(d,.bool false)::ts.t})
   |some (.tup _)=>skip ts
   |_=>none
def cpB (all:List Oper) (o:Oper):Option (Nat×Operand×Operand):=match o.op,o.dst with
 | .slice t x (some lo) none none,some d=>if all.any (λq=>match q.op with
   | .call c=>(match c.callee with
     | .builtin .copy=>c.args.toList.any λa=>(match a with
       | .tmp i=>Nat.beq i d
       |_=>false)
     |_=>false)
   |_=>false) then some (t,x,lo) else none
 |_,_=>none
def tPC {R:Type} (all:List Oper) (o:Oper) (k:TV D.T->Option R) (ts:TS D.T):Option R:=match cpB all o with
 |some (t,x,lo)=>(match ts.ev x,ts.ev lo with
  |some x,some lo=>tCut P D ts t x lo k (tP P D ts o.op k λ_=>none)
  |_,_=>none)
 |none=>tP P D ts o.op k λ_=>none
def litB (all:List Oper) (o:Oper):Bool:=match o.op,o.dst with
 | .buildSlice _ _ _,some d=>all.any λq=>(match q.op with
   | .assign (.tmp i)=>Nat.beq i d
   |_=>false)
 |_,_=>false
def tLit {R:Type} (ts:TS D.T) (op:Op) (k:TV D.T->TS D.T->Option R) (kf:Option R):Option R:=match op with
 | .buildSlice t len ps=>(match P.underlying t,zpw ts ps.toList with
   |some (.slice e),some qs=>(match zh8 P D t len qs with
    | .ok (.sl τ xs 1)=>k (.own ts.nx) (ts.new D (.acc e τ xs true))
    |_=>kf)
   |_,_=>kf)
 |_=>kf
noncomputable def yfc {R:Type} (all:List Oper) (o:Oper) (k kp:TV D.T->TS D.T->Option R) (ts:TS D.T):Option R:=match cpB all o with
 |some (t,x,lo)=>(match ts.ev x,ts.ev lo with
  |some x,some lo=>tCut P D ts t x lo (λv=>k v ts) (zwq P D tbl o.op k kp 9 ts)
  |_,_=>none)
 |none=>match litB all o with
  |true=>tLit P D ts o.op k (zwq P D tbl o.op k kp 9 ts)
  |false=>zwq P D tbl o.op k kp 9 ts
noncomputable def zph {R:Type} (all:List Oper) (kn:TS D.T->Option R) (kp:TV D.T->TS D.T->Option R):List Oper->TS D.T->Option R
 |[],ts=>kn ts
 |o::rest,ts=>pOp o<|zxf D all o ts
  (λts=>yfc P D tbl all o (λv ts=>match ts.put D o.dst v with|some ts=>zph all kn kp rest ts|none=>none) kp ts)
  (λts=>match ts.put D o.dst (.tup []) with|some ts=>zph all kn kp rest ts|none=>none)
def yh4 (f:Nat):Bool:=tbl.any λe=>Nat.beq e.f f&&e.pure
def yjg (op:Op):Bool :=
 match op with
 | .alloc _| .box _ _| .store _ _ _| .makeMap _ _| .mapUpdate _ _ _ _| .insert _ _ _ _| .range _ _| .next _ _| .panic _=>false
 | .call c=>match c.callee with
   | .builtin .len| .builtin .min| .builtin .max=>true
   | .value (.func f)=>yh4 D tbl f
   |_=>false
 |_=>true
def zdl {R:Type} (all:List Oper) (kn:TS D.T->Option R):List Oper->TS D.T->Option R
 |[],ts=>kn ts
 |o::rest,ts=>pOp o<|zxf D all o ts
  (λts=>match o.op with
   | .call c=>match c.callee with
     | .value x=>match ts.ev x,ts.evs c.args.toList with
       |some (.fn f a b),some vs=>(match (TV.zy6 (a++vs++b)).find? (yfg ts) with
        |some _=>ydr D f (a++vs++b) ts (λv _=>match ts.put D o.dst v with|some ts=>zdl all kn rest ts|none=>none) (zlx D f (a++vs++b) ts (λv _=>match ts.put D o.dst v with|some ts=>zdl all kn rest ts|none=>none) (λ_ _=>none) (λ_=>none) (tbl.filter (·.pure))) tbl
        |none=>zlx D f (a++vs++b) ts (λv _=>match ts.put D o.dst v with|some ts=>zdl all kn rest ts|none=>none) (λ_ _=>none) (λ_=>none) (tbl.filter (·.pure)))
       |_,_=>none
     |_=>tP P D ts o.op (λv=>match ts.put D o.dst v with|some ts=>zdl all kn rest ts|none=>none) (λ_=>none)
   |_=>tPC P D all o (λv=>match ts.put D o.dst v with|some ts=>zdl all kn rest ts|none=>none) ts)
  (λts=>match ts.put D o.dst (.tup []) with|some ts=>zdl all kn rest ts|none=>none)
def ydk:List Oper->Nat
 |[]=>0
 |o::r=>if yjg D tbl o.op then ydk r+1 else 0
def TV.ycc {T:Nat->Type}:TV T->Bool
 | .any| .own _| .osl _ _| .map _| .bp _ _=>false
 |_=>true
def TV.isOwn {T:Nat->Type}:TV T->Bool
 | .own _=>true
 |_=>false
def z1r {T:Nat->Type} (ts:TS T) (s:Nat):Bool:=match fnd ts.o s with
 |some .gone=>false
 |some _=>true
 |none=>false
def plainO {T:Nat->Type} (ts:TS T) (x:Operand):Option (List Nat):=match ts.ev x with
 |some v=>(match v.ycc with
  |true=>some []
  |false=>none)
 |none=>none
def ownO {T:Nat->Type} (ts:TS T) (x:Operand):Option (List Nat):=match ts.ev x with
 |some (.own s)=>(match fnd ts.o s with
  |some (.acc _ _ _ _)=>some [s]
  |some (.deep _ _ _ _)=>some [s]
  |_=>none)
 |_=>plainO ts x
def rdK {T:Nat->Type} (ts:TS T) (op:Op):Option (List Nat):=match op with
 | .load _ a=>(match ts.ev a with
   |some (.ptr s _)=>some [s]
   |some (.ap s _ _ _ _)=>some [s]
   |some (.ref _ _)=>some []
   |_=>none)
 | .indexAddr _ x _=>ownO ts x
 | .slice _ x _ _ _=>plainO ts x
 | .call c=>(match c.callee,c.args.toList with
   | .builtin .len,[x]=>ownO ts x
   | .builtin .min,_=>some []
   | .builtin .max,_=>some []
   |_,_=>none)
 | .makeSlice _ _ _| .move _| .assign _| .pick _ _ _| .nilCheck _| .binOp _ _ _ _ _| .unOp _ _ _| .convert _ _ _| .makeInterface _ _| .makeFunc _ _ _| .fieldAddr _ _ _| .field _ _ _| .index _ _ _| .typeAssert _ _ _ _| .extract _ _| .build _ _| .buildSlice _ _ _=>some []
 |_=>none
def appW {T:Nat->Type} (nx:Nat):Option (TV T)->Option (TV T)->Option Nat
 |_,some (.bsl _ _)=>none
 |some (.sl _ _ _),_=>some nx
 |some .nils,_=>some nx
 |_,_=>none
def wrK {T:Nat->Type} (ts:TS T) (op:Op):Option Nat:=match op with
 | .alloc _=>some ts.nx
 | .box _ _=>some ts.nx
 | .store _ a _=>(match ts.ev a with
   |some (.ptr s _)=>some s
   |_=>none)
 | .call c=>(match c.callee,c.args.toList with
   | .builtin .append,[s,x]=>appW ts.nx (ts.ev s) (ts.ev x)
   |_,_=>none)
 |_=>none
abbrev Rds:=List (Nat×Option (List Nat))
abbrev Wrs:=List (Nat×Option Nat)
def yj8 (all:List Oper) (i:Nat) (w:Option Nat) (rds:Rds):Bool:=rds.all λp=>y6r all p.1 i||(match p.2,w with
 |some [],_=>true
 |some R,some s=>R.all λq => !Nat.beq q s
 |_,_=>false)
def y4a (all:List Oper) (i:Nat) (wrs:Wrs):Bool:=wrs.all λp=>y6r all p.1 i
def rdOk (all:List Oper) (i:Nat) (R:List Nat) (wrs:Wrs):Bool:=wrs.all λp=>y6r all p.1 i||(match R,p.2 with
 |[],_=>true
 |R,some s=>R.all λq => !Nat.beq q s
 |_,_=>false)
def y3i (w:Option Nat) (rds:Rds):Rds:=match w with
 |some _=>rds
 |none=>rds.map λp=>(p.1,match p.2 with|some []=>some []|_=>none)
def y3u (w:Option Nat) (wrs:Wrs):Wrs:=match w with
 |some _=>wrs
 |none=>wrs.map λp=>(p.1,none)
def yio (all:List Oper) (i:Nat) (rest:List Nat):Bool:=rest.all λj=>y6r all i j
def ygm (all:List Oper) (done:List Nat) (j:Nat):Bool := !done.any (Nat.beq j)&&(match all[j]? with
 |some o=>o.after.toList.all λe => !Region.binds .any e||done.any (Nat.beq e.on)
 |none=>false)
def sched (all:List Oper) (quiet:Op->Bool):Nat->List Nat->List Nat
 |0,_=>[]
 |n+1,done=>match (List.range all.length).find? λj=>ygm all done j&&(match all[j]? with|some o=>quiet o.op|none=>false) with
  |some j=>j::sched all quiet n (j::done)
  |none=>match (List.range all.length).find? λj=>ygm all done j with
   |some j=>j::sched all quiet n (j::done)
   |none=>[]
def yia {T:Nat->Type} (all:List Oper) (i:Nat) (rds:Rds) (M:z1p T):Bool:=rds.all λp=>y6r all p.1 i||(match p.2 with
 |some R=>R.all λq=>M.all λm=>match m.2 with
  | .slot s => !Nat.beq q s
  | .nil=>true
 |none=>false)
def yg1 {R:Type} (f:Nat) (vs:List (TV D.T)) (ts:TS D.T) (chk:z1p D.T->Bool) (k kp:TV D.T->TS D.T->Option R):Option R:=none
def zt3 {R:Type} (f:Nat) (vs:List (TV D.T)) (ts:TS D.T) (chk:z1p D.T->Bool) (k kp:TV D.T->TS D.T->Option R):List (Ent D)->Option R
 |[]=>yg1 D f vs ts chk k kp
 |e::r=>match Nat.beq e.f f with
  |false=>zt3 f vs ts chk k kp r
  |true=>match e.fit D vs ts with
   | .ok (M,x)=>if chk M=true∧e.p<=e.aos.length∧e.p<=e.ros.length∧e.p<=e.pos.length∧(List.range e.p).all (λk=>match fnd M k with|some (.slot _)=>true|_=>false) then
       e.go x (λy=>k (zyh D (z15 D (z5l D M e.p ts.nx) e.outs (HL.fst _ y))) (zab D M e.p ts.nx e.ren (z7n D M e.p ts e.ros (HL.snd _ y))))
        (λy=>kp (zi8 D (z5l D M e.p ts.nx) e.pan (HL.fst _ y)) (z7n D M e.p ts e.pos (HL.snd _ y)))
       else none
   |_=>zt3 f vs ts chk k kp r
def yja (τ:DTy):TV D.T->Option (List (τ.S D.T))
 | .nils=>some []
 | .sl t xs _=>z89 t τ xs
 |_=>none
def fl12 (n:Nat):Bool:=match n with
 |1=>true
 |2=>true
 |_=>false
def yhj {R:Type} (t u:Nat) (s x:TV D.T) (k:TV D.T->Option R):Option R :=
 match s with
 | .sl t' xs fl=>(match fl12 fl with
   |true=>(match P.underlying t,P.underlying u with
    |some (.slice e),some du=>(match P.info? e,D.ty e with
     |some i,some τ=>(match i.zero with
      |some z=>(match zml du&&decide (0<i.size)&&decide (i.bytes<=524288)&&z.cells.size==i.size&&Nat.beq (D.len τ) i.size with
       |true=>(match z89 t' τ xs,yja D τ x with
        |some xs,some ys=>z3f (ext xs ys) λzs=>k (.sl τ zs 0)
        |_,_=>none)
       |false=>none)
      |none=>none)
     |_,_=>none)
    |_,_=>none)
   |false=>none)
 |_=>none
def appB (op:Op):Bool:=match op with
 | .call c=>(match c.callee with
   | .builtin .append=>true
   |_=>false)
 |_=>false
def yjp (all:List Oper) (i:Nat):Bool:=(List.range all.length).any λj => !Nat.beq i j&&(match all[j]? with|some o=>yc7 o.op|none=>false) && !y6r all i j && !y6r all j i
def zb8 {R:Type} (all:List Oper) (kn:TS D.T->Option R) (kp:TV D.T->TS D.T->Option R):List Nat->Rds->Wrs->TS D.T->Option R
 |[],_,_,ts=>kn ts
 |i::rest,rds,wrs,ts=>match all[i]? with
 |none=>none
 |some o=>pOp o<|zxf D all o ts
  (λts=>match yc7 o.op with
   |true=>(match appB o.op&&yjp all i with
    |true=>(match o.op with
     | .call c=>(match c.callee,c.args.toList,c.argTypes.toList with
       | .builtin .append,[s,x],[t,u]=>(match ts.ev s,ts.ev x with
         |some s,some x=>yhj P D t u s x (λv=>match ts.put D o.dst v with
          |some ts2=>zb8 all kn kp rest ((i,some [])::rds) wrs ts2
          |none=>none)
         |_,_=>none)
       |_,_,_=>none)
     |_=>none)
    |false=>(match yj8 all i (wrK ts o.op) rds&&y4a all i wrs with
    |true=>tOp P D ts o.op (λv ts'=>match ts'.put D o.dst v with
     |some ts2=>zb8 all kn kp rest (y3i (wrK ts o.op) rds) ((i,wrK ts o.op)::y3u (wrK ts o.op) wrs) ts2
     |none=>none) (λ_=>none)
    |false=>none))
   |false=>(match rdK ts o.op with
    |some R=>(match rdOk all i R wrs&&R.all (z1r ts) with
     |true=>tP P D ts o.op (λv=>match ts.put D o.dst v with
      |some ts2=>zb8 all kn kp rest ((i,some R)::rds) wrs ts2
      |none=>none) (λ_=>none)
     |false=>none)
    |none=>(match o.op with
     | .call c=>(match c.callee with
       | .value x=>(match ts.ev x,ts.evs c.args.toList with
         |some (.fn f a b),some vs=>(match yh4 D tbl f && !vs.any TV.isOwn with
          |true=>zlx D f (a++vs++b) ts (λv _=>match ts.put D o.dst v with
           |some ts2=>zb8 all kn kp rest ((i,some [])::rds) wrs ts2
           |none=>none) (λ_ _=>none) (λ_=>none) (tbl.filter (·.pure))
          |false=>(match yio all i rest&&y4a all i wrs with
           |true=>zt3 D f (a++vs++b) ts (yia all i rds) (λv ts'=>match ts'.put D o.dst v with
            |some ts2=>zb8 all kn kp rest (y3i none rds) ((i,none)::y3u none wrs) ts2
            |none=>none) (λz ts'=>kp z {ts' with t:=[]}) (tbl.filter λe => !e.pure)
           |false=>none))
         |_,_=>none)
       |_=>none)
     |_=>none)))
  (λts=>match ts.put D o.dst (.tup []) with
   |some ts2=>zb8 all kn kp rest ((i,some [])::rds) wrs ts2
   |none=>none)
noncomputable def zsr {R:Type} (ops:Array Oper) (draw:Bool) (ts:TS D.T) (kn:TS D.T->Option R) (kp:TV D.T->TS D.T->Option R):Option R :=
 if draw then
  let n:=ydk D tbl ops.toList
  if P.follows .mixedOrders then
   (if n=ops.size then (if Region.lexB .any ops then zdl P D tbl ops.toList kn ops.toList ts else none)
   else (if Region.lexTailB .any ops n then zdl P D tbl ops.toList (λts=>zph P D tbl ops.toList kn kp (ops.toList.drop n) ts) (ops.toList.take n) ts
   else (let l:=sched ops.toList (λop => !yc7 op&&(match op with| .call c=>(match c.callee with| .value (.func f)=>yh4 D tbl f| .value _=>false|_=>true)|_=>true)) ops.size []
    if zta .any ops l (Array.replicate ops.size false)&&Nat.beq l.length ops.size&&(List.range ops.size).all (λj=>l.any (Nat.beq j)) then zb8 P D tbl ops.toList kn kp l [] [] ts else none)))
  else none
 else zph P D tbl ops.toList kn kp ops.toList ts
end
inductive AC where
 |skip
 |region (id:Nat) (ops:Array Oper) (draw:Bool)
 |seq (a b:AC)
 |cond (c:Operand) (a b:AC)
 |block (id:Nat) (a:AC)
 |loop (a:AC)
 |exit (id:Nat)
 |ret
 |lab (l:Nat) (a:AC)
 |other (c:Code)
def AC.erase:AC->Code
 | .skip=>.skip
 | .region id ops d=>.region id ops d
 | .seq a b=>.seq a.erase b.erase
 | .cond c a b=>.cond c a.erase b.erase
 | .block id a=>.block id a.erase
 | .loop a=>.loop a.erase
 | .exit id=>.exit id
 | .ret=>.ret
 | .lab _ a=>a.erase
 | .other c=>c
def zuj (f:List (Nat×Nat)) (i:Nat) (a:AC):AC :=
 match fnd f i with
 |some l=>.lab l a
 |none=>a
def ann (f:List (Nat×Nat)):Code->Nat->AC×Nat
 | .skip,i=>(zuj f i .skip,i+1)
 | .region id ops d,i=>(zuj f i (.region id ops d),i+1)
 | .seq a b,i=>
   let x:=ann f a (i+1)
   let y:=ann f b x.2
   (zuj f i (.seq x.1 y.1),y.2)
 | .cond c a b,i=>
   let x:=ann f a (i+1)
   let y:=ann f b x.2
   (zuj f i (.cond c x.1 y.1),y.2)
 | .block id a,i=>
   let x:=ann f a (i+1)
   (zuj f i (.block id x.1),x.2)
 | .loop a,i=>
   let x:=ann f a (i+1)
   (zuj f i (.loop x.1),x.2)
 | .exit id,i=>(zuj f i (.exit id),i+1)
 | .ret,i=>(zuj f i .ret,i+1)
 |c,i=>(.other c,i+1)
structure Lb (D:Dat) (R:Type) where
 sh:LSh
 go:HL D.T sh.tys->Option R
def jump (D:Dat) {R:Type} (z5h:List (Nat×Lb D R)) (l:Nat) (ts:TS D.T):Option R :=
 match fnd z5h l with
 |some lb=>lb.sh.enter D lb.go 9 ts
 |none=>none
structure Ks (T:Nat->Type) (R:Type) where
 kn:TS T->Option R
 kx:List (Nat×(TS T->Option R))
 kr:TS T->Option R
 kp:TV T->TS T->Option R
section
variable (P : Program) (D : Dat) (tbl : List (Ent D)) {R : Type} (J : Nat → TS D.T → Option R)
def preS:List Oper->TS D.T->Option Nat
 |[],_=>none
 |o::r,ts=>match o.op with
  | .slice _ x _ _ _=>(match ts.ev x with
    |some (.own k)=>(match fnd ts.o k with
     |some (.deep _ _ _ _)=>some k
     |_=>none)
    |_=>none)
  | .buildSlice _ _ _=>preS r ts
  | .fieldAddr _ _ _| .load _ _| .move _=>(match tP1 P D ts o.op with
    | .ok v=>(match yb3 D ts (match v with| .agg cells=>cells|_=>[]) with
      |some k=>some k
      |none=>(match ts.put D o.dst v with
       |some ts=>preS r ts
       |none=>none))
    |_=>none)
  | .call _=>preS r ts
  |_=>none
def pre (ops:Array Oper) (d:Bool) (ts:TS D.T):TS D.T:=match d with
 |true=>(match preS P D ops.toList ts with
  |some s=>(match ts.freeze D s with
   |some ts'=>ts'
   |none=>ts)
  |none=>ts)
 |false=>ts
noncomputable def run:AC->TS D.T->Ks D.T R->Option R
 | .skip,ts,K=>K.kn ts
 | .region _ ops d,ts,K=>zsr P D tbl ops d (pre P D ops d ts) K.kn K.kp
 | .seq a b,ts,K=>run a ts {K with kn:=λts=>run b ts K}
 | .cond c a b,ts,K=>match ts.ev c with
   |some (.bool v)=>(match c with
    | .tmp t=>pIf v (run a {ts with t:=(t,.bool true)::ts.t} K) (run b {ts with t:=(t,.bool false)::ts.t} K)
    |_=>pIf v (run a ts K) (run b ts K))
   |_=>none
 | .block id a,ts,K=>run a ts {K with kx:=(id,K.kn)::K.kx}
 | .loop _,_,_=>none
 | .exit id,ts,K=>match fnd K.kx id with
   |some k=>k ts
   |none=>none
 | .ret,ts,K=>K.kr ts
 | .lab l _,ts,_=>J l ts
 | .other _,_,_=>none
noncomputable def ygs (l:Nat) (a:AC) (K:Ks D.T R):TS D.T->Option R:=λts=>
 match a with
 | .loop b=>run P D tbl J b ts {K with kn:=J l}
 |a=>run P D tbl J a ts K
noncomputable def AC.at (l:Nat):AC->Ks D.T R->(TS D.T->Option R)->Option (TS D.T->Option R)
 | .seq a b,K,_=>match AC.at l a {K with kn:=λts=>run P D tbl J b ts K} (λ_=>none) with
   |some x=>some x
   |none=>AC.at l b K (λ_=>none)
 | .cond _ a b,K,_=>match AC.at l a K (λ_=>none) with
   |some x=>some x
   |none=>AC.at l b K (λ_=>none)
 | .block id a,K,_=>AC.at l a {K with kx:=(id,K.kn)::K.kx} (λ_=>none)
 | .loop a,K,kl=>AC.at l a {K with kn:=kl} (λ_=>none)
 | .lab l' a,K,_=>match Nat.beq l' l with
   |true=>some (ygs P D tbl J l' a K)
   |false=>AC.at l a K (J l')
 |_,_,_=>none
end
def yeb {α:Type}:List α->Nat->List (Nat×α)
 |[],_=>[]
 |a::l,k=>(k,a)::yeb l (k+1)
def entry (D:Dat) (args:List Sh) (aos:List OSh) (nt:Nat) (gs:List Nat) (x:HL D.T (Sh.z1a args++z09 aos)):TS D.T :=
 ⟨yeb (z15 D (λk=>k) args (HL.fst _ x)) 0,z2m D (λk=>k) aos 0 (HL.snd _ x),aos.length,nt,[],gs.map some⟩
def zwa (P:Program) (D:Dat) (ts:TS D.T):List ResultVar->Option (List (TV D.T))
 |[]=>some []
 | .tmp t::rs=>match fnd ts.t t,zwa P D ts rs with
   |some v,some vs=>some (v::vs)
   |_,_=>none
 | .cell a t::rs=>match fnd ts.t a with
   |some p=>match ydd P D ts t p,zwa P D ts rs with
    |some v,some vs=>some (v::vs)
    |_,_=>none
   |none=>none
def y9z {R:Type} (D:Dat) (l:LSh) (pack:HL D.T l.tys->R):Ks D.T R :=
 ⟨l.enter D (λx=>some (pack x)) 9,[],l.enter D (λx=>some (pack x)) 9,λ_ _=>none⟩
section
variable (D : Dat)
def ycb (pan:Sh) (pos:List OSh) (p:Nat) (z:TV D.T) (ts:TS D.T):Option (HL D.T (pan.tys++z09 pos)) :=
 match ts.d with
 |[]=>match zv6 D pos.length pan z (pins p) with
  | .ok (M,x)=>match zw5 D pos.length ts pos 0 M with
    | .ok (_,y)=>some (HL.app x y)
    |_=>none
  |_=>none
 |_=>none
def zvu:Option Sh->List DTy
 |none=>[]
 |some s=>s.tys
structure zq2 where
 f:Nat
 args:List Sh
 aos:List OSh
 m:Option Sh
 ros:List OSh
 go:HL D.T (Sh.z1a args++z09 aos)->HL D.T (zvu m)->Option (HL D.T (z09 ros))
def zq2.ent (de:zq2 D):Ent D:={f:=de.f,p:=de.aos.length,args:=de.args,aos:=de.aos,outs:=[],ros:=de.ros,pan:=.nilp,pos:=[],pure:=false,go:=λ_ _ _=>none}
def y5b:(m:Option Sh)->Option (TV D.T)->Option (HL D.T (zvu m))
 |none,none=>some ()
 |some s,some z=>match zv6 D 0 s z [] with
  | .ok (_,x)=>some x
  |_=>none
 |_,_=>none
def zsm {R:Type} (f:Nat) (vs:List (TV D.T)) (m:Option (TV D.T)) (ts:TS D.T) (k:TS D.T->Option R):List (zq2 D)->Option R
 |[]=>none
 |de::r=>match Nat.beq de.f f with
  |false=>zsm f vs m ts k r
  |true=>match y5b D de.m m with
   |none=>zsm f vs m ts k r
   |some mx=>match de.ent.fit D vs ts with
    | .ok (M,x)=>if de.aos.length<=de.ros.length∧(List.range de.aos.length).all (λk=>match fnd M k with|some (.slot _)=>true|_=>false) then
        z3f (de.go x mx) λy=>k (z7n D M de.aos.length ts de.ros y) else none
    |_=>zsm f vs m ts k r
def zi4 {R:Type} (des:List (zq2 D)) (k:TS D.T->Option R) (kp:TV D.T->TS D.T->Option R):List (Nat×List (TV D.T))->Option (TV D.T)->TS D.T->Option R
 |[],none,ts=>k ts
 |[],some z,ts=>kp z ts
 |(f,vs)::r,m,ts=>zsm D f vs m ts (λts'=>zi4 des k kp r none {ts' with d:=r}) des
def ygh {X R:Type} (pan:Sh) (pos:List OSh) (p:Nat) (packp:HL D.T (pan.tys++z09 pos)->X) (z:TV D.T) (ts:TS D.T):Option (Res X R):=match ycb D pan pos p z ts with
 |some y=>some (.pan (packp y))
 |none=>none
def yd8 {X R:Type} (des:List (zq2 D)) (l:LSh) (pack:HL D.T l.tys->R) (pan:Sh) (pos:List OSh) (p:Nat) (packp:HL D.T (pan.tys++z09 pos)->X):Ks D.T (Res X R) :=
 ⟨λts=>zi4 D des (l.enter D (λx=>some (.ok (pack x))) 9) (ygh D pan pos p packp) ts.d none ts,[],
  λts=>zi4 D des (l.enter D (λx=>some (.ok (pack x))) 9) (ygh D pan pos p packp) ts.d none ts,
  λz ts=>zi4 D des (l.enter D (λx=>some (.ok (pack x))) 9) (ygh D pan pos p packp) ts.d (some z) ts⟩
end
set_option linter.unusedSimpArgs false
theorem zz7 {α:Type} (i:Nat) (a:α) (r:List (Nat×α)) (j:Nat):fnd ((i,a)::r) j=if i=j then some a else fnd r j:=by
 simp only [fnd]
 cases h:Nat.beq i j with
 |true=>rw [Qbp (Qah h)]
 |false=>rw [Qbq (λe=>by rw [e,Nat.beq_refl] at h;cases h)]
theorem zif {α:Type} (f:α->α):∀(l:List (Nat×α)) (j:Nat),fnd (l.map λp=>(p.1,f p.2)) j=(fnd l j).map f
 |[],j=>rfl
 |(i,a)::r,j=>by
  rw [List.map_cons,zz7,zz7];split
  · rfl
  · exact zif f r j
def HL.nth {T:Nat->Type}:(l:List DTy)->HL T l->Nat->Option ((t:DTy)×t.S T)
 |[],_,_=>none
 |t::_,x,0=>some ⟨t,x.1⟩
 |_::l,x,j+1=>HL.nth l x.2 j
theorem HL.zi0 {T:Nat->Type}:∀(l:List DTy) (x:HL T l) (j:Nat),j<l.length->∃p,HL.nth l x j=some p∧l[j]? = some p.1
 |[],_,j,h=>by simp at h
 |t::_,x,0,_=>⟨⟨t,x.1⟩,rfl,rfl⟩
 |_::l,x,j+1,h=>by
  obtain ⟨p,h1,h2⟩:=HL.zi0 l x.2 j (by simpa using h);exact ⟨p,h1,by simpa using h2⟩
theorem HL.z9v {T:Nat->Type}:∀(l:List DTy) (x:HL T l) (j:Nat) (p:(t:DTy)×t.S T),HL.nth l x j=some p->j<l.length∧l[j]? = some p.1
 |[],_,j,p,h=>by simp [HL.nth] at h
 |t::_,x,0,p,h=>by simp [HL.nth] at h;subst h;simp
 |_::l,x,j+1,p,h=>by
  obtain ⟨h1,h2⟩:=HL.z9v l x.2 j p h;exact ⟨by simpa using h1,by simpa using h2⟩
structure Dat.Ok (P:Program) (D:Dat):Prop where
 enc:∀i x,D.enc i x = .agg (D.els (D.fl i) (D.get i x))
 getMake:∀i x,D.get i (D.make i x)=x
 flat:∀i t,t∈D.fl i->(match t with| .st _=>False| .nat=>False|_=>True)
 ty:∀e t,D.ty e=some t->t ≠ .nat
 kin:∀i x (Dm:Nat->Nat->Prop),V.kin Dm (D.enc i x)
section
variable {D : Dat}
theorem zvw:∀(l:List DTy) (x:HL D.T l),(D.els l x).length=l.length
 |[],_=>rfl
 |t::l,x=>by simp [Dat.els,zvw l x.2]
theorem y50:∀(l:List DTy) (x:HL D.T l) (j:Nat),(D.els l x)[j]? = (HL.nth l x j).map λp=>D.el p.1 p.2
 |[],_,j=>by simp [Dat.els,HL.nth]
 |t::l,x,0=>by simp [Dat.els,HL.nth]
 |t::l,x,j+1=>by simpa [Dat.els,HL.nth] using y50 l x.2 j
theorem z5f:∀(l:List DTy) (x:HL D.T l),(D.leaves l x).length=l.length
 |[],_=>rfl
 |t::l,x=>by simp [Dat.leaves,z5f l x.2]
theorem ze6:∀(l:List DTy) (x:HL D.T l) (j:Nat),(D.leaves l x)[j]? = (HL.nth l x j).map λp=>D.leaf p.1 p.2
 |[],_,j=>by simp [Dat.leaves,HL.nth]
 |t::l,x,0=>by simp [Dat.leaves,HL.nth]
 |t::l,x,j+1=>by simpa [Dat.leaves,HL.nth] using ze6 l x.2 j
inductive DR (D:Dat):(t:DTy)->t.S D.T->V->Prop where
 |bool (b:Bool):DR D .bool b (.bool b)
 |int (k:IntKind) (n:Int):DR D (.int k) n (.int k n)
 |str (s:List UInt8):DR D .str s (.str s)
 |nat (n:Nat):DR D .nat n .any
 |nil (t:DTy):DR D (.sl t) ([]:List (t.S D.T)) .nils
 |sl (t:DTy) (xs:List (t.S D.T)) (ws:List V) (full:Bool) (hl:ws.length=xs.length) (h:∀(j:Nat) (x:t.S D.T) (w:V),xs[j]? = some x->ws[j]? = some w->DR D t x w):DR D (.sl t) xs (.sl (D.len t) ws full)
 |st (i:Nat) (x:D.T i) (vs:List V) (hl:vs.length=(D.fl i).length) (h:∀(j:Nat) (p:(t:DTy)×t.S D.T) (v:V),HL.nth (D.fl i) (D.get i x) j=some p->vs[j]? = some v->DR D p.1 p.2 v):DR D (.st i) x (.agg vs)
 |enc (i:Nat) (x:D.T i):DR D (.st i) x (D.enc i x)
variable {P : Program} (hD : D.Ok P)
include hD
theorem y9f (t:DTy) (x:t.S D.T):(D.el t x).cells.length=D.len t:=by
 cases t with
 |st i=>exact (congrArg (λv=>v.cells.length) (hD.enc i x)).trans (zvw _ _)
 |_=>rfl
theorem DR.cells {t:DTy} {x:t.S D.T} {v:V} (h:DR D t x v):v.cells.length=D.len t:=by
 cases h with
 |enc i x=>exact y9f hD (.st i) x
 |st i x vs hl h=>simpa [V.cells,Dat.len] using hl
 |_=>rfl
omit hD in
theorem DR.elsl (t:DTy) (xs:List (t.S D.T)) (h:∀x,DR D t x (D.el t x)):DR D (.sl t) xs (.sl (D.len t) (xs.map (D.el t)) false) :=
 .sl t xs _ false (by simp) λj x w hx hw=>by
   rw [Qal,hx] at hw;injection hw with hw;subst hw;exact h x
omit hD in
theorem DR.el:∀(t:DTy) (x:t.S D.T),DR D t x (D.el t x)
 | .bool,b=>.bool b
 | .int k,n=>.int k n
 | .str,s=>.str s
 | .nat,n=>.nat n
 | .sl t,xs=>DR.elsl t xs (DR.el t)
 | .st i,x=>.enc i x
end
structure Slot where
 v:V
 k:Option Nat
 ws:List V
 fp:List Nat:=[]
def Slot.has (sl:Slot) (i:Nat):Prop:=sl.k=some i∨i∈sl.fp
def zus {T:Nat->Type}:(t:DTy)->t.S T->PV
 | .bool,b=>.bool b
 | .int k,n=>.int k n
 | .str,s=>.str s
 |_,_=>.bool false
theorem yj1 (D:Dat):∀{t:DTy},t.flat=true->∀x:t.S D.T,(zus t x).v=D.el t x
 | .bool,_,_=>rfl
 | .int _,_,_=>rfl
 | .str,_,_=>rfl
section
variable (D : Dat) (ρ : List Slot) (lv : Nat)
mutual
def VR:TV D.T->V->Prop
 | .any,_=>True
 | .bool b,v=>v = .bool b
 | .int k n,v=>v = .int k n
 | .str s,v=>v = .str s
 | .nilp,v=>v = .nilp
 | .nils,v=>v = .nils
 | .mapn,v=>v = .mapn
 | .nilf,v=>v = .nilf
 | .nili,v=>v = .nili
 | .sl t xs fl,v=>DR D (.sl t) xs v∧(1<=fl->∃ws,v = .sl (D.len t) ws true)∧(fl=2->xs=[])
 | .own s,v=>∃sl,ρ[s]? = some sl∧v=sl.v∧v.leaf=true
 | .osl s lo,v=>∃sl j ver,ρ[s]? = some sl∧sl.k=some j∧sl.v = .hs lv j ver 0 sl.ws.length false∧0<=lo∧lo.toNat<=sl.ws.length∧(v = .hs lv j ver lo.toNat (sl.ws.length-lo.toNat) false∨(lo.toNat=sl.ws.length∧∃sz,v = .sl sz [] false))
 | .ptr s off,v=>∃sl i,ρ[s]? = some sl∧sl.k=some i∧v = .ptr lv i off
 | .bp s off,v=>∃sl i,ρ[s]? = some sl∧sl.k=some i∧v = .ap lv i 0 0 off
 | .map s,v=>∃sl i,ρ[s]? = some sl∧sl.k=some i∧v = .map lv i
 | .mc t es,v=>t.flat=true∧v = .mapc (es.map λp=>(.str p.1,zus t p.2))
 | .ref cs off,v=>∃vs,v = .ref vs off∧VRL cs vs
 | .ap s t i x off,v=>∃sl w,ρ[s]? = some sl∧0<=i∧sl.ws[i.toNat]? = some w∧DR D t x w ∧
   (match sl.k with
   |none=>v = .ref w.cells off
   |some j=>∃ver n,sl.v = .hs lv j ver 0 n false∧v = .ap lv j ver i.toNat off)
 | .fn f a b,v=>∃as bs,v = .fn f as bs∧VRL a as∧VRL b bs
 | .iface t x,v=>∃y,v = .iface t y∧VR x y
 | .agg cs,v=>∃vs,v = .agg vs∧VRL cs vs
 | .tup cs,v=>∃vs,v = .tup vs∧VRL cs vs
 | .dp s i off,v=>∃sl j ver m,ρ[s]? = some sl∧sl.v = .hs lv j ver 0 m false∧0<=i∧i.toNat<m∧v = .ap lv j ver i.toNat off
 | .bsl q cs,v=>∃vs,v = .sl (D.len (.st q)) vs true∧VRL cs vs
def VRL:List (TV D.T)->List V->Prop
 |[],vs=>vs=[]
 |c::cs,vs=>∃v r,vs=v::r∧VR c v∧VRL cs r
end
end
section
variable {D : Dat} {ρ : List Slot} {lv : Nat}
theorem VRL.length:∀{cs:List (TV D.T)} {vs:List V},VRL D ρ lv cs vs->cs.length=vs.length
 |[],vs,h=>by simp only [VRL] at h;subst h;rfl
 |c::cs,vs,h=>by
  simp only [VRL] at h;obtain ⟨v,r,rfl,_,h2⟩:=h;simp [VRL.length h2]
theorem VRL.get:∀{cs:List (TV D.T)} {vs:List V},VRL D ρ lv cs vs->∀(j:Nat) (c:TV D.T),cs[j]? = some c->∃v,vs[j]? = some v∧VR D ρ lv c v
 |[],vs,h,j,c,hj=>by simp at hj
 |c::cs,vs,h,0,d,hj=>by
  simp only [VRL] at h;obtain ⟨v,r,rfl,h1,h2⟩:=h;simp at hj;subst hj
  exact ⟨v,rfl,h1⟩
 |c::cs,vs,h,j+1,d,hj=>by
  simp only [VRL] at h;obtain ⟨v,r,rfl,h1,h2⟩:=h;obtain ⟨u,hu,hr⟩:=VRL.get h2 j d (by simpa using hj);exact ⟨u,by simpa using hu,hr⟩
theorem VRL.of:∀{cs:List (TV D.T)} {vs:List V},cs.length=vs.length->(∀(j:Nat) (c:TV D.T) (v:V),cs[j]? = some c->vs[j]? = some v->VR D ρ lv c v)->VRL D ρ lv cs vs
 |[],[],_,_=>by simp [VRL]
 |[],v::vs,h,_=>by simp at h
 |c::cs,[],h,_=>by simp at h
 |c::cs,v::vs,h,k=>by
  simp only [VRL];exact ⟨v,vs,rfl,k 0 c v rfl rfl,VRL.of (by simpa using h) λj c' v' hc hv=>k (j+1) c' v' (by simpa using hc) (by simpa using hv)⟩
theorem VRL.zqa {cs:List (TV D.T)} {vs:List V} (h:VRL D ρ lv cs vs) {j:Nat} {c:TV D.T} {v:V} (hc:cs[j]? = some c) (hv:vs[j]? = some v):VR D ρ lv c v:=by
 obtain ⟨u,hu,hr⟩:=h.get j c hc
 rw [hv] at hu;injection hu with hu;subst hu;exact hr
theorem VRL.take {cs:List (TV D.T)} {vs:List V} (h:VRL D ρ lv cs vs) (n:Nat):VRL D ρ lv (cs.take n) (vs.take n) :=
 .of (by simp [h.length]) λj c v hc hv=>by
   rw [Qau] at hc hv;split at hc
   ·rw [Qbp ‹_›] at hv;exact h.zqa hc hv
   ·cases hc
theorem VRL.drop {cs:List (TV D.T)} {vs:List V} (h:VRL D ρ lv cs vs) (n:Nat):VRL D ρ lv (cs.drop n) (vs.drop n) :=
 .of (by simp [h.length]) λj c v hc hv=>by
   rw [Qbb] at hc hv;exact h.zqa hc hv
theorem VRL.append {a b:List (TV D.T)} {x y:List V} (h:VRL D ρ lv a x) (k:VRL D ρ lv b y):VRL D ρ lv (a++b) (x++y) :=
 .of (by simp [h.length,k.length]) λj c v hc hv=>by
   rw [Qba] at hc hv;rw [<-h.length] at hv;split at hc
   ·rw [Qbp ‹_›] at hv;exact h.zqa hc hv
   ·rw [Qbq ‹_›] at hv;exact k.zqa hc hv
theorem VRL.kzs {a b:List (TV D.T)} {x y:List V} (h:VRL D ρ lv a x) (k:VRL D ρ lv b y) (off:Nat):VRL D ρ lv (zgz a off b) (kzs x off y):=by
 unfold zgz Go.Ab.kzs;rw [k.length];exact ((h.take off).append k).append (h.drop _)
theorem lookup_append {ρ e:List Slot} {s:Nat} {sl:Slot} (h:ρ[s]? = some sl):(ρ++e)[s]? = some sl:=by
 rw [Qaj (Qaa.1 h).1];exact h
mutual
theorem VR.more (e:List Slot):∀{x:TV D.T} {v:V},VR D ρ lv x v->VR D (ρ++e) lv x v
 | .any,_,_=>by simp only [VR]
 | .bool b,_,h=>by simpa only [VR] using h
 | .int k n,_,h=>by simpa only [VR] using h
 | .str s,_,h=>by simpa only [VR] using h
 | .nilp,_,h=>by simpa only [VR] using h
 | .nils,_,h=>by simpa only [VR] using h
 | .mapn,_,h=>by simpa only [VR] using h
 | .nilf,_,h=>by simpa only [VR] using h
 | .nili,_,h=>by simpa only [VR] using h
 | .sl t xs fl,_,h=>by simpa only [VR] using h
 | .own s,_,h=>by simp only [VR] at h ⊢;obtain ⟨sl,h1,h2⟩:=h;exact ⟨sl,lookup_append h1,h2⟩
 | .osl s lo,_,h=>by simp only [VR] at h ⊢;obtain ⟨sl,j,ver,h1,h2⟩:=h;exact ⟨sl,j,ver,lookup_append h1,h2⟩
 | .ptr s off,_,h=>by simp only [VR] at h ⊢;obtain ⟨sl,i,h1,h2⟩:=h;exact ⟨sl,i,lookup_append h1,h2⟩
 | .bp s off,_,h=>by simp only [VR] at h ⊢;obtain ⟨sl,i,h1,h2⟩:=h;exact ⟨sl,i,lookup_append h1,h2⟩
 | .map s,_,h=>by simp only [VR] at h ⊢;obtain ⟨sl,i,h1,h2⟩:=h;exact ⟨sl,i,lookup_append h1,h2⟩
 | .mc t es,_,h=>by simpa only [VR] using h
 | .ref cs off,_,h=>by simp only [VR] at h ⊢;obtain ⟨vs,h1,h2⟩:=h;exact ⟨vs,h1,VRL.more e h2⟩
 | .ap s t i x off,_,h=>by simp only [VR] at h ⊢;obtain ⟨sl,w,h1,h2⟩:=h;exact ⟨sl,w,lookup_append h1,h2⟩
 | .fn f a b,_,h=>by simp only [VR] at h ⊢;obtain ⟨as,bs,h1,h2,h3⟩:=h;exact ⟨as,bs,h1,VRL.more e h2,VRL.more e h3⟩
 | .iface t x,_,h=>by simp only [VR] at h ⊢;obtain ⟨y,h1,h2⟩:=h;exact ⟨y,h1,VR.more e h2⟩
 | .agg cs,_,h=>by simp only [VR] at h ⊢;obtain ⟨vs,h1,h2⟩:=h;exact ⟨vs,h1,VRL.more e h2⟩
 | .tup cs,_,h=>by simp only [VR] at h ⊢;obtain ⟨vs,h1,h2⟩:=h;exact ⟨vs,h1,VRL.more e h2⟩
 | .dp s i off,_,h=>by simp only [VR] at h ⊢;obtain ⟨sl,j,ver,m,h1,h2⟩:=h;exact ⟨sl,j,ver,m,lookup_append h1,h2⟩
 | .bsl q cs,_,h=>by simp only [VR] at h ⊢;obtain ⟨vs,h1,h2⟩:=h;exact ⟨vs,h1,VRL.more e h2⟩
theorem VRL.more (e:List Slot):∀{cs:List (TV D.T)} {vs:List V},VRL D ρ lv cs vs->VRL D (ρ++e) lv cs vs
 |[],_,h=>by simpa only [VRL] using h
 |c::cs,_,h=>by simp only [VRL] at h ⊢;obtain ⟨v,r,h1,h2,h3⟩:=h;exact ⟨v,r,h1,VR.more e h2,VRL.more e h3⟩
end
theorem VR.cells {x:TV D.T} {v:V} (h:VR D ρ lv x v) (hs:x.zze=true):VRL D ρ lv x.cells v.cells:=by
 have one:∀{x:TV D.T} {v:V},VR D ρ lv x v->v.cells=[v]->x.cells=[x]->VRL D ρ lv x.cells v.cells:=λ{x v} h h1 h2=>by
  rw [h1,h2];simp only [VRL];exact ⟨v,[],rfl,h,rfl⟩
 cases x <;> simp only [TV.zze,TV.leaf,Bool.false_eq_true] at hs
 case agg cs=>simp only [VR] at h;obtain ⟨vs,rfl,h2⟩:=h;exact h2
 case sl t xs fl=>exact one h (by simp only [VR] at h;obtain ⟨h,_⟩:=h;cases h <;> rfl) rfl
 case own s=>
  refine one h ?_ rfl;simp only [VR] at h;obtain ⟨sl,_,_,h⟩:=h
  cases v <;> first|rfl|(simp [V.leaf] at h)
 case ap s t i x off=>
  refine one h ?_ rfl;simp only [VR] at h;obtain ⟨sl,w,h1,h2,h3,h4,h5⟩:=h;split at h5
  ·subst h5;rfl
  ·obtain ⟨ver,n,_,h5⟩:=h5;subst h5;rfl
 case fn f a b=>refine one h ?_ rfl;simp only [VR] at h;obtain ⟨as,bs,rfl,_⟩:=h;rfl
 case iface t x=>refine one h ?_ rfl;simp only [VR] at h;obtain ⟨y,rfl,_⟩:=h;rfl
 case ref cs off=>refine one h ?_ rfl;simp only [VR] at h;obtain ⟨y,rfl,_⟩:=h;rfl
 case osl s lo=>refine one h ?_ rfl;simp only [VR] at h;obtain ⟨y,i,ver,_,_,_,_,_,h⟩:=h;rcases h with rfl|⟨_,sz,rfl⟩ <;> rfl
 case ptr s off=>refine one h ?_ rfl;simp only [VR] at h;obtain ⟨y,i,_,_,rfl⟩:=h;rfl
 case map s=>refine one h ?_ rfl;simp only [VR] at h;obtain ⟨y,i,_,_,rfl⟩:=h;rfl
 case mc t es=>refine one h ?_ rfl;simp only [VR] at h;obtain ⟨_,rfl⟩:=h;rfl
 case bp s off=>refine one h ?_ rfl;simp only [VR] at h;obtain ⟨y,i,_,_,rfl⟩:=h;rfl
 case dp s i off=>refine one h ?_ rfl;simp only [VR] at h;obtain ⟨y,j,ver,m,_,_,_,_,rfl⟩:=h;rfl
 case bsl q cs=>refine one h ?_ rfl;simp only [VR] at h;obtain ⟨vs,rfl,_⟩:=h;rfl
 all_goals (refine one h ?_ rfl;simp only [VR] at h;subst h;rfl)
theorem VR.zze {x:TV D.T} {v:V} (h:VR D ρ lv x v) (hs:x.zze=true):v.zze=true:=by
 have one:∀{v:V},v.leaf=true->v.zze=true:=λ{v} h=>by cases v <;> first|rfl|exact h
 cases x <;> simp only [TV.zze,TV.leaf,Bool.false_eq_true] at hs
 case agg cs=>simp only [VR] at h;obtain ⟨vs,rfl,h2⟩:=h;rfl
 case sl t xs fl=>simp only [VR] at h;obtain ⟨h,_⟩:=h;cases h <;> rfl
 case own s=>simp only [VR] at h;obtain ⟨sl,_,_,h⟩:=h;exact one h
 case ap s t i x off=>
  simp only [VR] at h;obtain ⟨sl,w,h1,h2,h3,h4,h5⟩:=h;split at h5
  ·subst h5;rfl
  ·obtain ⟨ver,n,_,h5⟩:=h5;subst h5;rfl
 case fn f a b=>simp only [VR] at h;obtain ⟨as,bs,rfl,_⟩:=h;rfl
 case iface t x=>simp only [VR] at h;obtain ⟨y,rfl,_⟩:=h;rfl
 case ref cs off=>simp only [VR] at h;obtain ⟨y,rfl,_⟩:=h;rfl
 case osl s lo=>simp only [VR] at h;obtain ⟨y,i,ver,_,_,_,_,_,h⟩:=h;rcases h with rfl|⟨_,sz,rfl⟩ <;> rfl
 case ptr s off=>simp only [VR] at h;obtain ⟨y,i,_,_,rfl⟩:=h;rfl
 case map s=>simp only [VR] at h;obtain ⟨y,i,_,_,rfl⟩:=h;rfl
 case mc t es=>simp only [VR] at h;obtain ⟨_,rfl⟩:=h;rfl
 case bp s off=>simp only [VR] at h;obtain ⟨y,i,_,_,rfl⟩:=h;rfl
 case dp s i off=>simp only [VR] at h;obtain ⟨y,j,ver,m,_,_,_,_,rfl⟩:=h;rfl
 case bsl q cs=>simp only [VR] at h;obtain ⟨vs,rfl,_⟩:=h;rfl
 all_goals (simp only [VR] at h;subst h;rfl)
theorem VR.z60 (v:Value):VR D ρ lv (TV.z60 v) (Go.Ab.z60 v):=by
 unfold TV.z60 Go.Ab.z60;split <;> simp only [VR]
theorem VRL.map {α:Type} (f:α->TV D.T) (g:α->V) (h:∀x,VR D ρ lv (f x) (g x)):∀l:List α,VRL D ρ lv (l.map f) (l.map g)
 |[]=>by simp [VRL]
 |x::l=>by simp only [List.map_cons,VRL];exact ⟨_,_,rfl,h x,VRL.map f g h l⟩
theorem VR.ofC (v:Value):VR D ρ lv (TV.ofC v) (ofConst v):=by
 cases v with
 |agg cs=>
  simp only [TV.ofC,ofConst];split
  · simp only [VR];exact ⟨_,rfl,VRL.map _ _ VR.z60 _⟩
  · simp only [VR]
 |tuple cs=>simp only [TV.ofC,ofConst,VR];exact ⟨_,rfl,VRL.map _ _ VR.z60 _⟩
 |iface t v=>simp only [TV.ofC,ofConst,VR];exact ⟨_,rfl,VR.z60 _⟩
 |_=>simp only [TV.ofC,ofConst];exact VR.z60 _
theorem VR.leaf {t:DTy} {x:t.S D.T} {v:V} (h:DR D t x v):VR D ρ lv (D.leaf t x) v:=by
 cases t with
 |bool=>cases h;simp [Dat.leaf,VR]
 |int k=>cases h;simp [Dat.leaf,VR]
 |str=>cases h;simp [Dat.leaf,VR]
 |nat=>simp [Dat.leaf,VR]
 |st i=>simp [Dat.leaf,VR]
 |sl t=>simp only [Dat.leaf,VR];exact ⟨h,by omega,by omega⟩
variable {P : Program} (hD : D.Ok P)
include hD
theorem DR.agg {i:Nat} {x:D.T i} {v:V} (h:DR D (.st i) x v):∃vs,v = .agg vs∧vs.length=(D.fl i).length∧∀(j:Nat) (p:(t:DTy)×t.S D.T) (u:V),HL.nth (D.fl i) (D.get i x) j=some p->vs[j]? = some u->DR D p.1 p.2 u:=by
 cases h with
 |st _ _ vs hl h=>exact ⟨vs,rfl,hl,h⟩
 |enc=>exact ⟨_,hD.enc i x,zvw _ _,λj p u hp hu=>by
  rw [y50,hp] at hu;injection hu with hu;subst hu
  exact DR.el _ _⟩
theorem VR.tv {t:DTy} {x:t.S D.T} {v:V} (h:DR D t x v):VR D ρ lv (D.tv t x) v:=by
 cases t with
 |st i=>
  obtain ⟨vs,rfl,h1,h2⟩:=DR.agg hD h;simp only [Dat.tv,VR];refine ⟨vs,rfl,.of (by rw [z5f,h1]) λj c u hc hu => ?_⟩;rw [ze6,Qae] at hc;obtain ⟨p,hp,rfl⟩:=hc
  exact .leaf (h2 j p u hp hu)
 |bool=>exact VR.leaf h
 |int k=>exact VR.leaf h
 |str=>exact VR.leaf h
 |nat=>exact VR.leaf h
 |sl t=>exact VR.leaf h
omit hD in
theorem zpq {T:Nat->Type} {a b:DTy} {x:List (List UInt8×a.S T)} {y:List (List UInt8×b.S T)} (h:zmj a b x=some y):∃e:a=b,y=e▸x:=by
 unfold zmj at h;split at h
 ·rename_i e;injection h with h;exact ⟨e,h.symm⟩
 ·cases h
omit hD in
theorem zse {α β:Type}:∀l:List (α×β),List.zip (l.map (·.1)) (l.map (·.2))=l
 |[]=>rfl
 |p::l=>by
  show (p.1,p.2)::List.zip (l.map (·.1)) (l.map (·.2))=p::l;rw [zse l]
omit hD in
theorem z3b {T:Nat->Type} {a b:DTy} {x:List (a.S T)} {y:List (b.S T)} (h:z89 a b x=some y):∃e:a=b,y=e▸x:=by
 unfold z89 at h;split at h
 ·rename_i e;injection h with h;exact ⟨e,h.symm⟩
 ·cases h
omit hD in
theorem zio {t:DTy} {c:TV D.T} {x:t.S D.T} {v:V} (h:zgm D t c = .ok x) (hv:VR D ρ lv c v):DR D t x v:=by
 unfold zgm at h;split at h
 ·injection h with h;subst h;simp only [VR] at hv;subst hv;exact .bool _
 ·split at h
  ·rename_i hk;injection h with h;subst h;subst hk;simp only [VR] at hv;subst hv;exact .int _ _
  ·cases h
 ·injection h with h;subst h;simp only [VR] at hv;subst hv;exact .str _
 ·rename_i t t' xs fl
  cases hl:z89 t' t xs with
  |none=>rw [hl] at h;cases h
  |some y=>
   rw [hl] at h;injection h with h;subst h;obtain ⟨rfl,rfl⟩:=z3b hl;simp only [VR] at hv;exact hv.1
 ·injection h with h;subst h;simp only [VR] at hv;subst hv;exact .nil _
 ·cases h
 ·cases h
omit hD in
theorem zjp:∀{l:List DTy} {cs:List (TV D.T)} {x:HL D.T l} {vs:List V},z4z D l cs = .ok x->VRL D ρ lv cs vs->vs.length=l.length∧∀(j:Nat) (p:(t:DTy)×t.S D.T) (u:V),HL.nth l x j=some p->vs[j]? = some u->DR D p.1 p.2 u
 |[],[],x,vs,h,hv=>by simp only [VRL] at hv;subst hv;exact ⟨rfl,λj p u _ hu=>by simp at hu⟩
 |[],c::cs,x,vs,h,hv=>by simp [z4z] at h
 |t::l,[],x,vs,h,hv=>by simp [z4z] at h
 |t::l,c::cs,x,vs,h,hv=>by
  simp only [VRL] at hv;obtain ⟨v,r,rfl,h1,h2⟩:=hv;simp only [z4z] at h;split at h
  · rename_i y hy;split at h
    · rename_i ys hys;injection h with h;subst h;obtain ⟨k1,k2⟩:=zjp hys h2;refine ⟨by simp [k1],λj p u hp hu => ?_⟩
      cases j with
      |zero=>simp only [HL.nth,Qbm] at hp;subst hp;simp at hu;subst hu;exact zio hy h1
      |succ j=>exact k2 j p u hp (by simpa using hu)
    · cases h
    · cases h
  · cases h
  · cases h
theorem zgi {t:DTy} {c:TV D.T} {x:t.S D.T} {v:V} (h:asD D t c = .ok x) (hv:VR D ρ lv c v):DR D t x v:=by
 unfold asD at h;split at h
 ·rename_i i cs;split at h
  ·rename_i y hy;injection h with h;subst h;simp only [VR] at hv;obtain ⟨vs,rfl,hv⟩:=hv;obtain ⟨k1,k2⟩:=zjp hy hv;exact .st i _ vs k1 (by rw [hD.getMake];exact k2)
  ·cases h
  ·cases h
 ·cases h
 ·exact zio h hv
theorem zq1 {t:DTy}:∀{cs:List (TV D.T)} {xs:List (t.S D.T)} {vs:List V},y42 D t cs = .ok xs->VRL D ρ lv cs vs->vs.length=xs.length∧∀(j:Nat) (x:t.S D.T) (w:V),xs[j]? = some x->vs[j]? = some w->DR D t x w
 |[],xs,vs,h,hv=>by simp only [VRL] at hv;subst hv;simp only [y42] at h;injection h with h;subst h;exact ⟨rfl,λj x w hx=>by simp at hx⟩
 |c::cs,xs,vs,h,hv=>by
  simp only [VRL] at hv;obtain ⟨v,r,rfl,h1,h2⟩:=hv;simp only [y42] at h;split at h
  · rename_i y hy;split at h
    · rename_i ys hys;injection h with h;subst h;obtain ⟨k1,k2⟩:=zq1 hys h2;refine ⟨by simp [k1],λj x w hx hw => ?_⟩
      cases j with
      |zero=>simp at hx hw;subst hx;subst hw;exact zgi hD hy h1
      |succ j=>exact k2 j x w (by simpa using hx) (by simpa using hw)
    · cases h
    · cases h
  · cases h
  · cases h
end
end Go.Ab
namespace Go.Ab
open Go
set_option linter.unusedVariables false
set_option linter.unusedSimpArgs false
structure Fr where
 lv:Nat
 E:Nat->Nat->Option kz2
 e0:Nat->Nat->Option kz2
 L0:List (Option kz2)
 out:Nat->Prop
 pin:List Slot
 gv:List V
theorem yb0 {T S:Type} (g:T->S) (k:List UInt8):∀ms:List (List UInt8×T),z6u (ms.map λp=>(p.1,g p.2)) k=(z6u ms k).map g
 |[]=>rfl
 |p::ms=>by
  have ih:=yb0 g k ms;unfold z6u at ih ⊢;rw [List.map_cons,List.find?_cons,List.find?_cons];cases k==p.1
  · exact ih
  · rfl
theorem y87 {T:Type} {k:List UInt8} {x:T}:∀{ms:List (List UInt8×T)},z6u ms k=some x->∃p∈ms,p.2=x
 |[],h=>by cases h
 |p::ms,h=>by
  unfold z6u at h;rw [List.find?_cons] at h;cases hk:k==p.1 <;> rw [hk] at h
  · obtain ⟨q,h1,h2⟩:=y87 (ms:=ms) (by unfold z6u;exact h);exact ⟨q,Qag _ h1,h2⟩
  · exact ⟨p,Qai,by simpa using h⟩
theorem yhz {T S:Type} (g:T->S) (k:List UInt8) (x:T) (ms:List (List UInt8×T)):z61 (ms.map λp=>(p.1,g p.2)) k (g x)=(z61 ms k x).map λp=>(p.1,g p.2):=by
 unfold z61;rw [List.findIdx?_map];show (match ms.findIdx? (λp=>k==p.1) with|none=>_|some j=>_)=_
 cases ms.findIdx? (λp=>k==p.1) with
 |none=>simp
 |some j=>simp [List.map_set]
theorem yhx {T:Type} {k:List UInt8} {x:T} {ms:List (List UInt8×T)} {p:List UInt8×T} (h:p∈z61 ms k x):p=(k,x)∨p∈ms:=by
 unfold z61 at h;split at h
 ·rcases List.mem_append.1 h with h|h
  ·exact .inr h
  ·exact .inl (List.mem_singleton.1 h)
 ·rcases List.mem_or_eq_of_mem_set h with h|h
  ·exact .inr h
  ·exact .inl h
inductive OM where
 |dat
 |own (ty:Nat)
 |el
def ydz:Option Nat->OM
 |none=>.dat
 |some ty=>.own ty
inductive DO (D:Dat) (lv:Nat) (L:List (Option kz2)):OM->(t:DTy)->t.S D.T->V->List Nat->Prop where
 |dat {t:DTy} {x:t.S D.T} {v:V} (h:DR D t x v):DO D lv L .dat t x v []
 |nil {ty:Nat} {t:DTy} {v:V} (h:DR D (.sl t) ([]:List (t.S D.T)) v) (hv:v = .nils∨v = .sl (D.len t) [] true):DO D lv L (.own ty) (.sl t) ([]:List (t.S D.T)) v []
 |own {ty:Nat} {t:DTy} {xs:List (t.S D.T)} {j ver:Nat} {cp:Option Nat} {ws:List V} {fps:List (List Nat)} (hL:L[j]? = some (some (.arr ver ty (D.len t) ws cp))) (hl:ws.length=xs.length) (hf:fps.length=xs.length)
  (he:∀(n:Nat) (x:t.S D.T) (w:V) (c:List Nat),xs[n]? = some x->ws[n]? = some w->fps[n]? = some c->DO D lv L .el t x w c):DO D lv L (.own ty) (.sl t) xs (.hs lv j ver 0 ws.length false) (j::fps.flatten)
 |el {i:Nat} {x:D.T i} {vs:List V} {cs:List (List Nat)} (hl:vs.length=(D.fl i).length) (hc:cs.length=(D.fl i).length)
  (h:∀(f:Nat) (p:(t:DTy)×t.S D.T) (u:V) (b:List Nat),HL.nth (D.fl i) (D.get i x) f=some p->vs[f]? = some u->cs[f]? = some b->DO D lv L (ydz (D.ow i f)) p.1 p.2 u b):DO D lv L .el (.st i) x (.agg vs) cs.flatten
 |elf {t:DTy} {x:t.S D.T} {v:V} (ht:∀i f,f<(D.fl i).length->t = .st i->D.ow i f=none) (h:DR D t x v):DO D lv L .el t x v []
section
variable (D : Dat) (ρ : List Slot) (lv : Nat) (L : List (Option kz2))
def z0b (h:Option (Int×Nat×Nat)) (n f:Nat):Option Nat:=match h with
 |some (n',f',s)=>if n'.toNat=n∧f'=f then some s else none
 |none=>none
def EO (q:Nat) (h:Option (Int×Nat×Nat)) (n:Nat) (x:D.T q) (w:V) (c:List Nat):Prop :=
 ∃(vs:List V) (cs:List (List Nat)),w = .agg vs∧vs.length=(D.fl q).length∧cs.length=(D.fl q).length∧c=cs.flatten ∧
  ∀(f:Nat) (p:(t:DTy)×t.S D.T) (u:V) (b:List Nat),HL.nth (D.fl q) (D.get q x) f=some p->vs[f]? = some u->cs[f]? = some b ->
   match z0b h n f with
   |some s=>b=[]∧(D.ow q f).isSome=true∧u.leaf=true∧∃sl',ρ[s]? = some sl'∧u=sl'.v
   |none=>DO D lv L (ydz (D.ow q f)) p.1 p.2 u b
def OR (sl:Slot):TO D.T->Prop
 | .cells cs=>∃i vs,sl.k=some i∧L[i]? = some (some (.cells vs))∧VRL D ρ lv cs vs
 | .acc ty t xs w=>sl.ws.length=xs.length∧(∀(j:Nat) (x:t.S D.T) (v:V),xs[j]? = some x->sl.ws[j]? = some v->DR D t x v) ∧
   (match sl.k with
   |none=>(sl.v = .nils∧sl.ws=[])∨((sl.v = .sl (D.len t) sl.ws true∧t ≠ .int .u8)∧(w=true->sl.ws=[]))
   |some i=>∃ver cp,sl.v = .hs lv i ver 0 sl.ws.length false∧L[i]? = some (some (.arr ver ty (D.len t) sl.ws cp)))
 | .siter s pos=>∃i,sl.k=some i∧L[i]? = some (some (.siter s pos))
 | .mp ty t es=>∃(i:Nat) (ms:List (List UInt8×(t.S D.T×V))),sl.k=some i∧es=ms.map (λp=>(p.1,p.2.1))∧(∀p∈ms,DR D t p.2.1 p.2.2)∧L[i]? = some (some (.map (ms.map λp=>(.str p.1,p.2.2))))
 | .mit t last es=>∃(i:Nat) (fs:List (List UInt8×t.S D.T)) (vis:List Nat),sl.k=some i∧t.flat=true∧L[i]? = some (some (.mit (fs.map λp=>(.str p.1,zus t p.2)) vis))∧(∀q∈vis,q<fs.length)∧es.Perm (((List.range fs.length).filter λq => !vis.contains q).filterMap λq=>fs[q]?)∧∀p,last=some p->∃(vis':List Nat) (j:Nat),vis=vis'++[j]∧fs[j]? = some p
 | .bld ty b=>∃i a c,sl.k=some i∧L[i]? = some (some (.arr 0 ty 2 [.agg [a,c]] (some 1)))∧(a = .nilp∨a = .ap lv i 0 0 0)∧VR D ρ lv (y6d b) c
 | .gone=>True
 | .deep ty q xs h=>sl.ws.length=xs.length∧(match sl.k with
   |none=>xs=[]∧(sl.v = .nils∨sl.v = .sl (D.len (.st q)) [] true)∧sl.fp=[]∧h=none
   |some j=>∃(ver:Nat) (cp:Option Nat) (fps:List (List Nat)),sl.v = .hs lv j ver 0 sl.ws.length false∧L[j]? = some (some (.arr ver ty (D.len (.st q)) sl.ws cp))∧fps.length=xs.length∧sl.fp=fps.flatten∧sl.fp.Nodup ∧
    (∀(n:Nat) (x:D.T q) (w:V) (c:List Nat),xs[n]? = some x->sl.ws[n]? = some w->fps[n]? = some c->EO D ρ lv L q h n x w c) ∧
    ∀n f s,h=some (n,f,s)->0<=n∧n.toNat<xs.length)
end
def TO.live {T:Nat->Type}:TO T->Prop
 | .gone=>False
 |_=>True
def DfL (D:Dat) (ρ:List Slot) (lv:Nat):List (Nat×List (TV D.T))->List (Nat×List V)->Prop
 |[],ds=>ds=[]
 |p::r,ds=>∃vs s,ds=(p.1,vs)::s∧VRL D ρ lv p.2 vs∧DfL D ρ lv r s
theorem DfL.imp {D:Dat} {ρ ρ':List Slot} {lv:Nat} (f:List (TV D.T)->List (TV D.T)) (hf:∀xs vs,VRL D ρ lv xs vs->VRL D ρ' lv (f xs) vs):∀{l:List (Nat×List (TV D.T))} {ds:List (Nat×List V)},DfL D ρ lv l ds->DfL D ρ' lv (l.map λp=>(p.1,f p.2)) ds
 |[],ds,h=>h
 |p::r,ds,h=>by
  obtain ⟨vs,s,h1,h2,h3⟩:=h;exact ⟨vs,s,h1,hf _ _ h2,DfL.imp f hf h3⟩
theorem DfL.more {D:Dat} {ρ:List Slot} {lv:Nat} (e:List Slot) {l:List (Nat×List (TV D.T))} {ds:List (Nat×List V)} (h:DfL D ρ lv l ds):DfL D (ρ++e) lv l ds:=by
 have:=h.imp (ρ':=ρ++e) (λxs=>xs) (λxs vs k=>k.more e);simpa using this
structure TRr (D:Dat) (F:Fr) (ρ:List Slot) (ts:TS D.T) (σ:St):Prop where
 nx:ρ.length=ts.nx
 nt:σ.t.length=ts.nt
 tm:∀(j:Nat) (x:TV D.T),fnd ts.t j=some x->∃v,σ.t[j]? = some v∧VR D ρ F.lv x v
 ob:∀(s:Nat) (o:TO D.T),fnd ts.o s=some o->∃sl,ρ[s]? = some sl∧OR D ρ F.lv σ.H.L sl o
 inj:∀(s s':Nat) (o o':TO D.T) (sl sl':Slot) (i:Nat),fnd ts.o s=some o->fnd ts.o s'=some o'->o.live->o'.live->ρ[s]? = some sl->ρ[s']? = some sl'->sl.has i->sl'.has i->s=s'
 mine:∀(s:Nat) (o:TO D.T) (sl:Slot) (i:Nat),fnd ts.o s=some o->o.live->ρ[s]? = some sl->sl.has i->¬F.out i
 lv:σ.H.lv=F.lv
 E:σ.H.E=F.E
 e0:σ.e0=F.e0
 d:DfL D ρ F.lv ts.d σ.d
 out:∀i,F.out i->i<σ.H.L.length∧σ.H.L[i]? = F.L0[i]?
 pin:∀(j:Nat) (sl:Slot),F.pin[j]? = some sl->ρ[j]? = some sl
 fpl:∀(s:Nat) (o:TO D.T) (sl:Slot) (i:Nat),fnd ts.o s=some o->o.live->ρ[s]? = some sl->i∈sl.fp->sl.k≠some i∧∃a,σ.H.L[i]? = some (some a)
 g:∀(i s:Nat) (v:V),ts.g[i]? = some (some s)->F.gv[i]? = some v->VR D ρ F.lv (.own s) v
section
variable {P : Program} {D : Dat} {F : Fr} {ρ : List Slot} {ts : TS D.T} {σ : St} {lv : Nat}
theorem zb9 {t off:Nat} {cs:List (TV D.T)} {vs:List V} {x:TV D.T} (hv:VRL D ρ lv cs vs) (h:tRd P t cs off=some x):∃v,rd P t vs off=some v∧VR D ρ lv x v:=by
 unfold tRd at h;unfold rd;split at h
 ·cases h
 ·rename_i heq;rw [heq];split at h
  ·rename_i hl;injection h with h;subst h;refine ⟨_,by simp only;rw [Qbp (by rw [<-hv.length];exact hl)],?_⟩;simp only [VR];exact ⟨_,rfl,(hv.drop _).take _⟩
  ·cases h
 ·rename_i heq;rw [heq];split at h
  ·rename_i hl;injection h with h;subst h;refine ⟨_,by simp only;rw [Qbp (by rw [<-hv.length];exact hl)],?_⟩;simp only [VR];exact ⟨_,rfl,(hv.drop _).take _⟩
  ·cases h
 ·rename_i h1 h2 heq;obtain ⟨v,k1,k2⟩:=hv.get off x h;rw [heq]
  cases hd:‹TypeDesc› <;> first|exact (h1 _ hd).elim|exact (h2 _ _ hd).elim|exact ⟨v,k1,k2⟩
theorem TRr.ev (hR:TRr D F ρ ts σ) {o:Operand} {x:TV D.T} (h:ts.ev o=some x):VR D ρ F.lv x (σ.ev o):=by
 cases o with
 |tmp t=>
  obtain ⟨v,h1,h2⟩:=hR.tm t x h;simp only [St.ev,Qay,h1,Option.getD_some]
  exact h2
 |const v=>simp only [TS.ev,Qbm] at h;subst h;exact .ofC v
 |func f=>simp only [TS.ev,Qbm] at h;subst h;simp only [St.ev,VR];exact ⟨[],[],rfl,by simp [VRL],by simp [VRL]⟩
 |global g=>simp [TS.ev] at h
theorem TRr.evs (hR:TRr D F ρ ts σ):∀{l:List Operand} {xs:List (TV D.T)},ts.evs l=some xs->VRL D ρ F.lv xs (l.map σ.ev)
 |[],xs,h=>by simp only [TS.evs,Qbm] at h;subst h;simp [VRL]
 |o::l,xs,h=>by
  simp only [TS.evs] at h;split at h
  · rename_i v vs hv hvs;injection h with h;subst h;simp only [List.map_cons,VRL];exact ⟨_,_,rfl,hR.ev hv,hR.evs hvs⟩
  · cases h
theorem TRr.get (hR:TRr D F ρ ts σ) {i:Nat} {o:kz2} (h:σ.H.L[i]? = some (some o)):σ.H.get F.lv i=some o:=by
 unfold Heap.get;rw [Qbp hR.lv.symm,h];rfl
variable (hD : D.Ok P)
include hD
theorem VR.y6u {t:DTy} {x:t.S D.T} {v:V} (h:DR D t x v):VRL D ρ lv (D.tv t x).cells v.cells:=by
 cases t with
 |nat=>cases h;simp only [Dat.tv,TV.cells,V.cells,VRL];exact ⟨_,_,rfl,by simp only [VR],rfl⟩
 |st i=>exact (VR.tv hD h).cells rfl
 |bool=>exact (VR.tv hD h).cells rfl
 |int k=>exact (VR.tv hD h).cells rfl
 |str=>exact (VR.tv hD h).cells rfl
 |sl t=>exact (VR.tv hD h).cells rfl
theorem zua (hR:TRr D F ρ ts σ) {t:Nat} {a x:TV D.T} {va:V} (h:ydd P D ts t a=some x) (ha:VR D ρ F.lv a va):∃v,z7b P σ.H t va=some v∧VR D ρ F.lv x v:=by
 unfold ydd at h;split at h
 ·simp only [VR] at ha;obtain ⟨vs,rfl,hv⟩:=ha;exact zb9 hv h
 ·rename_i s off;split at h
  ·rename_i cs ho;simp only [VR] at ha;obtain ⟨sl,i,h1,h2,rfl⟩:=ha;obtain ⟨sl',k1,k2⟩:=hR.ob s _ ho
   rw [h1] at k1;injection k1 with k1;subst k1
   simp only [OR] at k2;obtain ⟨i',vs,q1,q2,q3⟩:=k2
   rw [h2] at q1;injection q1 with q1;subst q1
   simp only [yef,hR.get q2];exact zb9 q3 h
  ·cases h
 ·rename_i s τ i y off;split at h
  ·rename_i ty t' xs w ho;simp only [VR] at ha;obtain ⟨sl,u,h1,h2,h3,h4,h5⟩:=ha;obtain ⟨sl',k1,k2⟩:=hR.ob s _ ho
   rw [h1] at k1;injection k1 with k1;subst k1
   simp only [OR] at k2;obtain ⟨q1,q2,q3⟩:=k2;have hc:=VR.y6u (ρ:=ρ) (lv:=F.lv) hD h4
   cases hk:sl.k with
   |none=>
    rw [hk] at h5;simp only at h5;subst h5
    exact zb9 hc h
   |some j=>
    rw [hk] at h5 q3;obtain ⟨ver,n,e1,rfl⟩:=h5;obtain ⟨ver',cp,e2,e3⟩:=q3
    rw [e1] at e2;injection e2 with _ _ e2;subst e2
    simp only [zxo,zp5,hR.get e3,if_true,h3,Qbl,Option.bind_some];exact zb9 hc h
  ·cases h
 ·rename_i s off;split at h
  ·rename_i ty b ho;simp only [VR] at ha;obtain ⟨sl,i,h1,h2,rfl⟩:=ha;obtain ⟨sl',k1,k2⟩:=hR.ob s _ ho
   rw [h1] at k1;injection k1 with k1;subst k1
   simp only [OR] at k2;obtain ⟨i',u,c,q1,q2,q3,q4⟩:=k2
   rw [h2] at q1;injection q1 with q1;subst q1
   have hv:VRL D ρ F.lv [.any,y6d b] [u,c]:=by
    simp only [VRL];exact ⟨u,[c],rfl,by simp only [VR],c,[],rfl,q4,rfl⟩
   obtain ⟨v,w1,w2⟩:=zb9 hv h;refine ⟨v,?_,w2⟩;simp only [zxo,zp5,hR.get q2,if_true,Qbu,Qbl,Option.bind_some,V.cells];exact w1
  ·cases h
 ·cases h
omit hD in
theorem zt9 {s f:Nat} {x y:TV D.T} {vx:V} (h:zqg P s f x=some y) (hx:VR D ρ lv x vx):∃v,z5a P s f vx=some v∧VR D ρ lv y v:=by
 unfold zqg at h;unfold z5a;split at h
 ·cases h
 ·rename_i o ho;rw [ho];split at h
  ·injection h with h;subst h;simp only [VR] at hx ⊢;obtain ⟨vs,rfl,hv⟩:=hx;exact ⟨_,rfl,vs,rfl,hv⟩
  ·injection h with h;subst h;simp only [VR] at hx ⊢;obtain ⟨sl,i,h1,h2,rfl⟩:=hx;exact ⟨_,rfl,sl,i,h1,h2,rfl⟩
  ·injection h with h;subst h;simp only [VR] at hx ⊢;obtain ⟨sl,w,h1,h2,h3,h4,h5⟩:=hx
   cases hk:sl.k with
   |none=>rw [hk] at h5;simp only at h5;subst h5;exact ⟨_,rfl,sl,w,h1,h2,h3,h4,by rw [hk]⟩
   |some j=>rw [hk] at h5;obtain ⟨ver,n,e1,rfl⟩:=h5;exact ⟨_,rfl,sl,w,h1,h2,h3,h4,by rw [hk];exact ⟨ver,n,e1,rfl⟩⟩
  ·injection h with h;subst h;simp only [VR] at hx ⊢;obtain ⟨sl,i,h1,h2,rfl⟩:=hx;exact ⟨_,rfl,sl,i,h1,h2,rfl⟩
  ·injection h with h;subst h;simp only [VR] at hx ⊢;obtain ⟨sl,j,ver,m,h1,h2,h3,h4,rfl⟩:=hx;exact ⟨_,rfl,sl,j,ver,m,h1,h2,h3,h4,rfl⟩
  ·cases h
omit hD in
theorem y4d {s f:Nat} {x y:TV D.T} {vx:V} (h:yc3 P s f x=some y) (hx:VR D ρ lv x vx):∃v,zxn P s f vx=some v∧VR D ρ lv y v:=by
 unfold yc3 at h;unfold zxn;split at h
 ·rename_i fs hu;rw [hu];simp only;split at h
  ·rename_i fd hf;rw [hf];split at h
   ·simp only [VR] at hx;obtain ⟨vs,rfl,hv⟩:=hx;exact zb9 hv h
   ·cases h
  ·cases h
 ·cases h
omit hD in
theorem zym {i:Nat} {x y:TV D.T} {vx:V} (h:zwi i x=some y) (hx:VR D ρ lv x vx):∃v,zrq i vx=some v∧VR D ρ lv y v:=by
 unfold zwi at h;split at h
 ·simp only [VR] at hx;obtain ⟨vs,rfl,hv⟩:=hx;exact hv.get i y h
 ·cases h
omit hD in
theorem ybi {x y:TV D.T} {vx:V} (h:tNil x=some y) (hx:VR D ρ lv x vx):∃v,zt7 vx=some v∧VR D ρ lv y v:=by
 unfold tNil at h;split at h
 ·injection h with h;subst h;refine ⟨vx,?_,hx⟩;simp only [VR] at hx;obtain ⟨sl,i,h1,h2,rfl⟩:=hx;rfl
 ·injection h with h;subst h;refine ⟨vx,?_,hx⟩;simp only [VR] at hx;obtain ⟨vs,rfl,hv⟩:=hx;rfl
 ·injection h with h;subst h;refine ⟨vx,?_,hx⟩;simp only [VR] at hx;obtain ⟨sl,w,h1,h2,h3,h4,h5⟩:=hx;split at h5
  ·subst h5;rfl
  ·obtain ⟨ver,n,e1,rfl⟩:=h5;rfl
 ·injection h with h;subst h;refine ⟨vx,?_,hx⟩;simp only [VR] at hx;obtain ⟨sl,i,h1,h2,rfl⟩:=hx;rfl
 ·injection h with h;subst h;refine ⟨vx,?_,hx⟩;simp only [VR] at hx;obtain ⟨sl,j,ver,m,h1,h2,h3,h4,rfl⟩:=hx;rfl
 ·injection h with h;subst h;refine ⟨vx,?_,hx⟩;simp only [VR] at hx;obtain ⟨as,bs,rfl,_⟩:=hx;rfl
 ·cases h
omit hD in
theorem ye4 {op:UnOp} {x y:TV D.T} {vx:V} (h:tUn op x=some y) (hx:VR D ρ lv x vx):∃v,pUn op vx=some v∧VR D ρ lv y v:=by
 unfold tUn at h;split at h
 ·injection h with h;subst h;simp only [VR] at hx;subst hx;exact ⟨_,rfl,by simp only [VR]⟩
 ·injection h with h;subst h;simp only [VR] at hx;subst hx;exact ⟨_,rfl,by simp only [VR]⟩
 ·injection h with h;subst h;simp only [VR] at hx;subst hx;exact ⟨_,rfl,by simp only [VR]⟩
 ·cases h
omit hD in
theorem zwc {s d:Nat} {x y:TV D.T} {vx:V} (h:zyw P s d x=some y) (hx:VR D ρ lv x vx):∃v,zmm P s d vx=some v∧VR D ρ lv y v:=by
 unfold zyw at h;unfold zmm;split at h
 ·simp only [VR] at hx;subst hx;split at h
  ·rename_i h1 h2;injection h with h;subst h;simp only [h1,h2];exact ⟨_,rfl,by simp only [VR]⟩
  ·cases h
 ·simp only [VR] at hx;subst hx;split at h
  ·rename_i h1 h2;injection h with h;subst h;simp only [h1,h2];exact ⟨_,rfl,by simp only [VR]⟩
  ·cases h
 ·cases h
omit hD in
theorem zs5 {u:Nat} {ok:Bool} {x y:TV D.T} {vx:V} (h:zma P x u ok=some y) (hx:VR D ρ lv x vx):∃v,zhi P vx u ok=some v∧VR D ρ lv y v:=by
 unfold zma at h;unfold zhi;split at h
 ·cases h
 ·rename_i d t z hni hu;simp only [VR] at hx;obtain ⟨w,rfl,hw⟩:=hx;split at h
  ·rename_i ht;injection h with h;subst h;rw [hu]
   cases d <;> first
    |exact (hni _ rfl).elim
    |(refine ⟨_,by simp only;rw [Qbp ht],?_⟩
      cases ok
      · exact hw
      · simp only [if_true,VR,VRL];exact ⟨_,rfl,_,_,rfl,hw,_,_,rfl,rfl,rfl⟩)
  ·cases h
 ·cases h
omit hD in
theorem zp6 {m:Bool} {xs:List (TV D.T)} {vs:List V} {y:TV D.T} (h:zw3 m xs=some y) (hx:VRL D ρ lv xs vs):∃v,zle m vs=some v∧VR D ρ lv y v:=by
 unfold zw3 at h;split at h
 ·injection h with h;subst h;simp only [VRL,VR] at hx;obtain ⟨_,_,rfl,rfl,_,_,rfl,rfl,rfl⟩:=hx;exact ⟨_,rfl,by simp only [VR];cases m <;> rfl⟩
 ·injection h with h;subst h;simp only [VRL,VR] at hx;obtain ⟨_,_,rfl,rfl,_,_,rfl,rfl,_,_,rfl,rfl,rfl⟩:=hx;exact ⟨_,rfl,by simp only [VR];cases m <;> rfl⟩
 ·cases h
omit hD in
theorem TRr.parts (hR:TRr D F ρ ts σ):∀{l:List (Nat×Operand)} {xs:List (Nat×TV D.T)},zpw ts l=some xs->xs.map (·.1)=(l.map λp=>(p.1,σ.ev p.2)).map (·.1)∧VRL D ρ F.lv (xs.map (·.2)) ((l.map λp=>(p.1,σ.ev p.2)).map (·.2))
 |[],xs,h=>by simp only [zpw,Qbm] at h;subst h;simp [VRL]
 |(i,o)::l,xs,h=>by
  simp only [zpw] at h;split at h
  · rename_i v vs hv hvs;injection h with h;subst h;obtain ⟨h1,h2⟩:=hR.parts hvs;simp only [List.map_cons,VRL];exact ⟨by rw [h1],_,_,rfl,hR.ev hv,h2⟩
  · cases h
omit hD in
theorem zn3 {place:Nat->Option (Nat×Nat)}:∀{ps:List (Nat×TV D.T)} {qs:List (Nat×V)} {cs r:List (TV D.T)} {vs:List V},ps.map (·.1)=qs.map (·.1)->VRL D ρ lv (ps.map (·.2)) (qs.map (·.2))->VRL D ρ lv cs vs->y3m place cs ps=some r->∃r',zme place vs qs=some r'∧VRL D ρ lv r r'
 |[],[],cs,r,vs,_,_,hc,h=>by simp only [y3m,Qbm] at h;subst h;exact ⟨vs,rfl,hc⟩
 |[],q::qs,cs,r,vs,h1,_,_,_=>by simp at h1
 |p::ps,[],cs,r,vs,h1,_,_,_=>by simp at h1
 |(i,x)::ps,(i',v)::qs,cs,r,vs,h1,h2,hc,h=>by
  simp only [List.map_cons,List.cons.injEq] at h1;obtain ⟨rfl,h1⟩:=h1;simp only [List.map_cons,VRL] at h2;obtain ⟨u,us,he,h2,h3⟩:=h2;injection he with he1 he2;subst he1;subst he2;simp only [y3m] at h;simp only [zme];split at h
  · cases h
  · rename_i off size hp;split at h
    · rename_i hcond;simp only [Qaf,Qbh,Qap] at hcond;have hcells:=h2.cells hcond.1.1;rw [hp];simp only;rw [Qbp (by simp only [Qaf,Qbh,Qap];exact ⟨⟨h2.zze hcond.1.1,by rw [<-hcells.length];exact hcond.1.2⟩,by rw [<-hc.length];exact hcond.2⟩)];exact zn3 h1 h3 (hc.kzs hcells off) h
    · cases h
omit hD in
theorem zhf {t:Nat} {x:TV D.T} (h:y3o P t=some x):∃v,zeroV P t=some v∧VR D ρ lv x v:=by
 unfold y3o at h;unfold zeroV;rw [Qae] at h;obtain ⟨z,hz,rfl⟩:=h;exact ⟨_,by rw [hz];rfl,.ofC z⟩
omit hD in
theorem y5y {t:Nat} {ps:List (Nat×TV D.T)} {qs:List (Nat×V)} {y:TV D.T} (h1:ps.map (·.1)=qs.map (·.1)) (h2:VRL D ρ lv (ps.map (·.2)) (qs.map (·.2))) (h:yci P t ps=some y):∃v,y08 P t qs=some v∧VR D ρ lv y v:=by
 unfold yci at h;unfold y08;split at h
 ·rename_i z hz;obtain ⟨v,hv,hr⟩:=zhf (ρ:=ρ) (lv:=lv) hz;simp only [VR] at hr;obtain ⟨vs,rfl,hr⟩:=hr;rw [hv];simp only;split at h
  ·rename_i fs hu;rw [hu];simp only;split at h
   ·rename_i places hp;rw [hp];rw [Qae] at h;obtain ⟨r,hr',rfl⟩:=h;obtain ⟨r',k1,k2⟩:=zn3 h1 h2 hr hr';exact ⟨.agg r',by simp only [k1,Qbl],by simp only [VR];exact ⟨r',rfl,k2⟩⟩
   ·cases h
  ·rename_i n e hu;rw [hu];simp only;split at h
   ·rename_i hi;rw [Qbp hi];rw [Qae] at h;obtain ⟨r,hr',rfl⟩:=h;obtain ⟨r',k1,k2⟩:=zn3 h1 h2 hr hr';exact ⟨.agg r',by simp only [k1,Qbl],by simp only [VR];exact ⟨r',rfl,k2⟩⟩
   ·cases h
  ·cases h
 ·cases h
omit hD in
theorem ybg (hR:TRr D F ρ ts σ) {t:Nat} {x y:TV D.T} {vx:V} (h:tLen P D ts t x=some y) (hx:VR D ρ F.lv x vx):∃v,zke P σ.H t vx=some v∧VR D ρ F.lv y v:=by
 unfold tLen at h;split at h
 ·split at h
  ·rename_i hu;injection h with h;subst h;simp only [VR] at hx;subst hx;exact ⟨_,by rw [ygw,hu],by simp only [VR]⟩
  ·cases h
 ·split at h
  ·rename_i hu;injection h with h;subst h;simp only [VR] at hx;subst hx;exact ⟨_,by rw [znp,hu],by simp only [VR]⟩
  ·cases h
 ·split at h
  ·rename_i hu;injection h with h;subst h;simp only [VR] at hx;obtain ⟨hx,_⟩:=hx
   cases hx with
   |nil=>exact ⟨_,by rw [znp,hu],by simp only [VR];rfl⟩
   |sl _ _ ws full hl hh=>exact ⟨_,by rw [y78,hu],by simp only [VR,hl]⟩
  ·cases h
 ·split at h
  ·rename_i hu ho;injection h with h;subst h;simp only [VR] at hx;obtain ⟨sl,h1,rfl,hleaf⟩:=hx;obtain ⟨sl',k1,k2⟩:=hR.ob _ _ ho
   rw [h1] at k1;injection k1 with k1;subst k1
   simp only [OR] at k2;obtain ⟨q1,q2,q3⟩:=k2
   cases hk:sl.k with
   |none=>
    rw [hk] at q3
    rcases q3 with ⟨e1,e2⟩|⟨e1,e2⟩
    · rw [e1,znp,hu];exact ⟨_,rfl,by simp only [VR];rw [<-q1,e2];rfl⟩
    · rw [e1.1,y78,hu]
      exact ⟨_,rfl,by simp only [VR];rw [q1]⟩
   |some j=>
    rw [hk] at q3;obtain ⟨ver,cp,e1,e2⟩:=q3;rw [e1];refine ⟨.int .i64 sl.ws.length,?_,by simp only [VR];rw [q1]⟩;simp only [zke,hu,hR.get e2,if_true]
  ·rename_i hu ho;injection h with h;subst h;simp only [VR] at hx;obtain ⟨sl,h1,rfl,hleaf⟩:=hx;obtain ⟨sl',k1,k2⟩:=hR.ob _ _ ho
   rw [h1] at k1;injection k1 with k1;subst k1
   simp only [OR] at k2;obtain ⟨q1,q3⟩:=k2
   cases hk:sl.k with
   |none=>
    rw [hk] at q3;obtain ⟨e1,e2,_⟩:=q3
    rcases e2 with e2|e2
    · rw [e2,znp,hu];exact ⟨_,rfl,by simp only [VR];rw [e1];rfl⟩
    · rw [e2,y78,hu]
      exact ⟨_,rfl,by simp only [VR];rw [e1];rfl⟩
   |some j=>
    rw [hk] at q3;obtain ⟨ver,cp,fps,e1,e2,_⟩:=q3;rw [e1];refine ⟨.int .i64 sl.ws.length,?_,by simp only [VR];rw [q1]⟩;simp only [zke,hu,hR.get e2,if_true]
  ·cases h
 ·split at h
  ·rename_i hu;injection h with h;subst h;simp only [VR] at hx;obtain ⟨vs,rfl,_⟩:=hx;exact ⟨_,by rw [yhw,hu],by simp only [VR]⟩
  ·cases h
 ·split at h
  ·rename_i hu ho;injection h with h;subst h;simp only [VR] at hx;obtain ⟨sl,i,h1,h2,rfl⟩:=hx;obtain ⟨sl',k1,k2⟩:=hR.ob _ _ ho
   rw [h1] at k1;injection k1 with k1;subst k1
   simp only [OR] at k2;obtain ⟨i',ms,q1,q2,q4,q3⟩:=k2
   rw [h2] at q1;injection q1 with q1;subst q1
   exact ⟨_,by rw [ygu,hu];simp only [hR.get q3];rfl,by simp only [VR];rw [q2];simp⟩
  ·cases h
 ·cases h
omit hD in
theorem zkh:∀(ps:List (Nat×V)) (k n:Nat),ps.map (·.1)=List.range' k n->zjv k ps=true
 |[],_,_,_=>rfl
 |(i,v)::r,k,n,h=>by
  cases n with
  |zero=>simp at h
  |succ n=>
   simp only [List.map_cons,List.range'_succ,List.cons.injEq] at h;simp only [zjv,h.1,beq_self_eq_true,Bool.true_and];exact zkh r (k+1) n h.2
theorem zk2 {t len:Nat} {ps:List (Nat×TV D.T)} {qs:List (Nat×V)} {y:TV D.T} (h1:ps.map (·.1)=qs.map (·.1)) (h2:VRL D ρ lv (ps.map (·.2)) (qs.map (·.2))) (h:zh8 P D t len ps = .ok y):∃v,zak P t len qs=some v∧VR D ρ lv y v:=by
 unfold zh8 at h;unfold zak;split at h
 ·rename_i e hu;rw [hu];simp only;split at h
  ·rename_i z τ hz hτ;rw [hz];simp only;split at h
   ·rename_i hc;simp only [Qaf,Qbh,Qap,Qar] at hc;obtain ⟨⟨⟨⟨⟨⟨⟨⟨c1,c2⟩,c3⟩,c4⟩,c5⟩,c6⟩,c7⟩,c8⟩,c9⟩:=hc;have hlen:ps.length=qs.length:=by have:=congrArg List.length h1;simpa using this
    split at h
    ·rename_i xs hxs;injection h with h;subst h;obtain ⟨k1,k2⟩:=zq1 hD hxs h2;have hql:qs.length=len:=by omega
     have hall:∀p∈qs,p.2.zze=true∧p.2.cells.length=P.cellsOf e:=λp hp=>by
      obtain ⟨j,hj⟩:=Qbk hp;have hlt:j<ps.length:=by rw [hlen];exact (Qaa.1 hj).1
      have hq:=c7 ps[j] (List.getElem_mem hlt);have hr:VR D ρ lv ps[j].2 p.2:=h2.zqa (j:=j) (by simp [hlt]) (by simp [hj]);exact ⟨hr.zze hq.1,by rw [<-(hr.cells hq.1).length];exact hq.2⟩
     have hcond:(z.zze&&z.cells.length==P.cellsOf e&&decide (0<P.cellsOf e)&&(P.info? e).isSome&&qs.length==len&&zjv 0 qs&&qs.all (λp=>p.2.zze&&p.2.cells.length==P.cellsOf e)&&decide (len * P.cellsOf e<=2 ^ 24))=true:=by
      simp only [Qaf,Qbh,Qap,Qar];exact ⟨⟨⟨⟨⟨⟨⟨c1,c2⟩,c3⟩,c4⟩,hql⟩,zkh qs 0 len (by rw [<-h1,c6,List.range_eq_range'])⟩,hall⟩,c8⟩
     rw [Qbp hcond];refine ⟨_,rfl,?_⟩;simp only [Qaz] at k1;by_cases hl0:len=0
     ·rw [Qbp hl0,Qbp hl0,<-c9];have:xs=[]:=Qam (by omega);subst this;simp only [VR];exact ⟨.sl τ [] [] true rfl (by simp),λ_=>⟨[],rfl⟩,λ_=>trivial⟩
     ·rw [Qbq hl0,Qbq hl0,<-c9];simp only [VR];exact ⟨.sl τ xs _ true (by simpa using k1) k2,λ_=>⟨_,rfl⟩,by simp⟩
    ·have hql:qs.length=len:=by omega
     have hall:∀p∈qs,p.2.zze=true∧p.2.cells.length=P.cellsOf e:=λp hp=>by
      obtain ⟨j,hj⟩:=Qbk hp;have hlt:j<ps.length:=by rw [hlen];exact (Qaa.1 hj).1
      have hq:=c7 ps[j] (List.getElem_mem hlt);have hr:VR D ρ lv ps[j].2 p.2:=h2.zqa (j:=j) (by simp [hlt]) (by simp [hj]);exact ⟨hr.zze hq.1,by rw [<-(hr.cells hq.1).length];exact hq.2⟩
     have hcond:(z.zze&&z.cells.length==P.cellsOf e&&decide (0<P.cellsOf e)&&(P.info? e).isSome&&qs.length==len&&zjv 0 qs&&qs.all (λp=>p.2.zze&&p.2.cells.length==P.cellsOf e)&&decide (len * P.cellsOf e<=2 ^ 24))=true:=by
      simp only [Qaf,Qbh,Qap,Qar];exact ⟨⟨⟨⟨⟨⟨⟨c1,c2⟩,c3⟩,c4⟩,hql⟩,zkh qs 0 len (by rw [<-h1,c6,List.range_eq_range'])⟩,hall⟩,c8⟩
     rw [Qbp hcond];split at h
     ·rename_i s0 _ _ q cells;split at h
      ·injection h with h;subst h;refine ⟨_,rfl,?_⟩;simp only [List.length_cons,List.length_nil] at c5;rw [Qbq (by omega),<-c9];simp only [VR];exact ⟨_,rfl,h2⟩
      ·cases h
      ·cases h
     ·cases h
    ·cases h
   ·cases h
  ·cases h
 ·cases h
omit hD in
theorem FR.zk3 {α:Type} {o:Option α} {a:α} (h:FR.of o = .ok a):o=some a:=by
 cases o with
 |none=>cases h
 |some b=>injection h with h;rw [h]
theorem yf5 {t:Nat} {n c:Int} {k1 k2:IntKind} {y:TV D.T} (h:tMk P D t n c = .ok y):∃v,zgr P t (.int k1 n) (.int k2 c)=some v∧VR D ρ lv y v:=by
 unfold tMk at h;split at h
 case h_2=>cases h
 rename_i n c;split at h
 case h_2=>cases h
 rename_i e ht;split at h
 case h_2=>cases h
 rename_i i z τ hi hz hτ;split at h
 case h_2=>cases h
 rename_i hc;simp only [Qaf] at hc;obtain ⟨⟨⟨⟨⟨⟨c1,c2⟩,c3⟩,c4⟩,c5⟩,c6⟩,c7⟩:=hc;split at h
 case h_2=>cases h
 case h_3=>cases h
 rename_i x hx;injection h with h;subst h;obtain ⟨v,b1,b2⟩:=zhf (D:=D) (ρ:=ρ) (lv:=lv) hz;have hl:=(b2.cells c1).length;have hd:=zgi hD hx b2;refine ⟨.sl i.size (List.replicate n v) (Nat.beq n c),?_,?_⟩
 ·simp only [zgr,ht,hi,b1]
  have hb:(v.zze&&Nat.beq v.cells.length i.size&&Nat.blt 0 i.size&&Nat.ble n c&&Nat.ble c 1000000&&Nat.ble i.bytes 100000)=true:=by
   simp only [Qaf];exact ⟨⟨⟨⟨⟨b2.zze c1,by rw [<-hl];exact c2⟩,c3⟩,c4⟩,c5⟩,c6⟩
  rw [hb]
 ·rw [<-Qah c7];simp only [VR];refine ⟨.sl _ _ _ _ (by simp) λj a w h1 h2 => ?_,λh=>by omega,λh=>by cases h⟩;rw [Qbj] at h1 h2;split at h1
  ·rename_i hj;rw [Qbp hj] at h2;injection h1 with h1;injection h2 with h2;subst h1;subst h2;exact hd
  ·cases h1
theorem y3l (hR:TRr D F ρ ts σ) {op:Op} {x:TV D.T} (h:tP1 P D ts op = .ok x):∃v,pv P σ.H σ.ev op=some v∧VR D ρ F.lv x v:=by
 unfold tP1 at h;unfold pv;split at h
 ·exact ⟨_,rfl,hR.ev (FR.zk3 h)⟩
 ·exact ⟨_,rfl,hR.ev (FR.zk3 h)⟩
 ·split at h
  ·rename_i ha;exact zua hD hR (FR.zk3 h) (hR.ev ha)
  ·cases h
 ·split at h
  ·rename_i ha;exact ybi (FR.zk3 h) (hR.ev ha)
  ·cases h
 ·split at h
  ·rename_i ha;exact ye4 (FR.zk3 h) (hR.ev ha)
  ·cases h
 ·split at h
  ·rename_i ha;exact zwc (FR.zk3 h) (hR.ev ha)
  ·cases h
 ·split at h
  ·rename_i ha;split at h
   ·rename_i hc;injection h with h;subst h;exact ⟨_,by simp only [zf5];rw [Qbp hc],by simp only [VR];exact ⟨_,rfl,hR.ev ha⟩⟩
   ·cases h
  ·cases h
 ·split at h
  ·rename_i ha hb;injection h with h;subst h;exact ⟨_,rfl,by simp only [VR];exact ⟨_,_,rfl,hR.evs ha,hR.evs hb⟩⟩
  ·cases h
 ·split at h
  ·rename_i ha;exact zt9 (FR.zk3 h) (hR.ev ha)
  ·cases h
 ·split at h
  ·rename_i ha;exact y4d (FR.zk3 h) (hR.ev ha)
  ·cases h
 ·split at h
  ·rename_i ha;exact zs5 (FR.zk3 h) (hR.ev ha)
  ·cases h
 ·split at h
  ·rename_i ha;exact zym (FR.zk3 h) (hR.ev ha)
  ·cases h
 ·split at h
  ·rename_i ha;obtain ⟨h1,h2⟩:=hR.parts ha;exact y5y h1 h2 (FR.zk3 h)
  ·cases h
 ·split at h
  ·rename_i ha;obtain ⟨h1,h2⟩:=hR.parts ha;exact zk2 hD h1 h2 (yba _ h)
  ·cases h
 ·split at h
  ·rename_i ha hb;have e1:=hR.ev ha;have e2:=hR.ev hb;simp only [VR] at e1 e2;obtain ⟨v,a1,a2⟩:=yf5 (ρ:=ρ) (lv:=F.lv) hD h;exact ⟨v,by rw [<-e1,<-e2] at a1;exact a1,a2⟩
  ·cases h
 ·unfold z5v;split at h
  ·rename_i hcal;split at h
   ·rename_i o t hargs htys;split at h
    ·rename_i ha;simp only [hcal,hargs,htys];exact ybg hR (FR.zk3 h) (hR.ev ha)
    ·cases h
   ·cases h
  ·rename_i hcal;split at h
   ·rename_i ha;simp only [hcal];exact zp6 (FR.zk3 h) (hR.evs ha)
   ·cases h
  ·rename_i hcal;split at h
   ·rename_i ha;simp only [hcal];exact zp6 (FR.zk3 h) (hR.evs ha)
   ·cases h
  ·cases h
 ·cases h
end
set_option linter.unusedSectionVars false
def zlk (H:Heap):Heap:=⟨H.lv,[],λ_ _=>none⟩
def ygz (g:Gh):Gh:={g with dom:=λ_ _=>False}
theorem zj4 (H:Heap) (l i:Nat):(zlk H).get l i=none:=by
 unfold Heap.get zlk;split <;> simp
theorem yd3 {g:Gh} {H:Heap} {b:Nat}:¬Own g (zlk H) b:=λ⟨l,i,o,ho,_⟩=>by rw [zj4] at ho;cases ho
theorem ydm {W:World} {g:Gh} {H:Heap} (h:Good W g H):Good W (ygz g) (zlk H) :=
 ⟨λl i o ho=>(by rw [zj4] at ho;cases ho),λl i o ho=>(by rw [zj4] at ho;cases ho),λl i o l' i' o' ho=>(by rw [zj4] at ho;cases ho),λl i hd=>hd.elim,λl i o ho=>(by rw [zj4] at ho;cases ho),h.glob.zub λb hb=>(yd3 hb).elim⟩
theorem yfr {W:World} {g:Gh} {H:Heap} {v u:V} {c:Value} (hG:Good W g H) (h:VS H (λ_ _=>False) v u) (hr:Rel W g H v c):Rel W (ygz g) (zlk H) u c :=
 VS.rel hG (λ_ _ h=>h.elim) (λ_ _ h=>h.elim) (λ_ _ h=>h.elim) (λ_ _ h=>h.elim) (λ_ _ h=>h.elim) (λb hb=>(yd3 hb).elim) (λi o _ hb=>yd3 hb) h hr
inductive VFl:V->Prop where
 |bool (b:Bool):VFl (.bool b)
 |int (k:IntKind) (n:Int):VFl (.int k n)
 |str (s:List UInt8):VFl (.str s)
 |tup (vs:List V) (h:∀(j:Nat) (v:V),vs[j]? = some v->VFl v):VFl (.tup vs)
theorem VFl.rel {v:V} (h:VFl v) {W W':World} {g g':Gh} {H H':Heap}:∀{c:Value},Rel W g H v c->Rel W' g' H' v c:=by
 induction h with
 |bool b=>intro c hc;cases hc;exact .bool _
 |int k n=>intro c hc;cases hc;exact .int _ _
 |str s=>intro c hc;cases hc;exact .str _
 |tup vs h ih=>
  intro c hc
  cases hc with
  |tup _ cs hn hr=>exact .tup vs cs hn λj v hj=>ih j v hj (hr j v hj)
theorem y5r {P:Program} {f:Nat} {vs us:List V} {r:V} {H:Heap} (hc:zly P f us r) (h:VSL H (λ_ _=>False) vs us) (hr:VFl r):zsd P f vs H r H:=λW g cargs hG hA=>by
 have hlen:=h.length
 have hA':zgl W (ygz g) (zlk H) us cargs:=⟨hA.1.trans hlen,λj u hj=>by
  have hlt:=(Qaa.1 hj).1;have hv:vs[j]? = some (vs[j]'(by omega)):=Qab _
  exact yfr hG (h.get j _ u hv hj) (hA.2 j _ hv)⟩
 have grow:∀{W':World} {g':Gh},Step W (ygz g) (zlk H) W' g' (zlk H)->Grow W W':=λst=>⟨st.os,st.tape,st.output,st.size,λb hb=>st.block b hb yd3⟩
 rcases hc (zlk H) W (ygz g) cargs (ydm hG) hA' with ⟨e,hcalls⟩|⟨c,W',g',e,st,gd,rl⟩
 ·exact .inl ⟨e,hcalls.mono λe W' ⟨c,g',e1,st,gd,rl⟩=>⟨c,g,e1,(grow st).step,hG.grow (grow st),hr.rel rl⟩⟩
 ·exact .inr ⟨c,W',g,e,(grow st).step,hG.grow (grow st),hr.rel rl⟩
section
variable {P : Program} {D : Dat} {F : Fr} {ρ : List Slot} {ts : TS D.T} {σ : St} {lv : Nat} {L : List (Option kz2)} {E : Nat → Nat → Option kz2}
theorem zha {α:Type} {Q:Nat->α->Prop}:∀n:Nat,(∀j,j<n->∃a,Q j a)->∃l:List α,l.length=n∧∀j a,l[j]? = some a->Q j a
 |0,_=>⟨[],rfl,λj a h=>by simp at h⟩
 |n+1,h=>by
  obtain ⟨l,h1,h2⟩:=zha n λj hj=>h j (by omega)
  obtain ⟨a,ha⟩:=h n (by omega);refine ⟨l++[a],by simp [h1],λj b hb => ?_⟩;rw [Qba] at hb;split at hb
  · exact h2 j b hb
  · rename_i hj;rw [h1] at hb hj
    have:j-n=0:=by
     rcases Nat.eq_zero_or_pos (j-n) with q|q
     · exact q
     · rw [Qbw (by simp;omega)] at hb;cases hb
    have hjn:j=n:=by omega
    subst hjn;simp at hb;subst hb;exact ha
theorem DR.kin (hD:D.Ok P) {t:DTy} {x:t.S D.T} {v:V} (h:DR D t x v) (Dm:Nat->Nat->Prop):V.kin Dm v:=by
 induction h with
 |bool|int|str|nat|nil=>simp [V.kin]
 |sl t xs ws full hl h ih=>
  simp only [V.kin]
  exact z8l λw hw=>by
   obtain ⟨j,hj⟩:=Qbk hw;have hlt:=(Qaa.1 hj).1
   exact ih j _ w (Qab (by omega)) hj
 |st i x vs hl h ih=>
  simp only [V.kin]
  exact z8l λw hw=>by
   obtain ⟨j,hj⟩:=Qbk hw;have hlt:=(Qaa.1 hj).1;obtain ⟨p,hp,_⟩:=HL.zi0 (D.fl i) (D.get i x) j (by omega)
   exact ih j p w hp hj
 |enc i x=>exact hD.kin i x Dm
def Seen (H:Heap):OM->V->V->Prop
 | .el,v,u=>v.cells.length=u.cells.length∧∀(j:Nat) (a b:V),v.cells[j]? = some a->u.cells[j]? = some b->VS H (λ_ _=>False) a b
 | .dat,v,u=>VS H (λ_ _=>False) v u
 | .own _,v,u=>VS H (λ_ _=>False) v u
theorem DO.see (hD:D.Ok P) {m:OM} {t:DTy} {x:t.S D.T} {v:V} {fp:List Nat} (h:DO D lv L m t x v fp) :
  ∃u,DR D t x u∧Seen ⟨lv,L,E⟩ m v u:=by
 induction h with
 |dat h=>exact ⟨_,h,.keep _ (h.kin hD _)⟩
 |nil h hv=>exact ⟨_,h,.keep _ (h.kin hD _)⟩
 | @own ty t xs j ver cp ws fps hL hl hf he ih=>
   obtain ⟨us,e1,e2⟩:=zha (Q:=λn u=>∀(x:t.S D.T) (w:V),xs[n]? = some x->ws[n]? = some w->DR D t x u∧w.cells.length=u.cells.length∧∀(j:Nat) (a b:V),w.cells[j]? = some a->u.cells[j]? = some b->VS ⟨lv,L,E⟩ (λ_ _=>False) a b) xs.length λn hn=>by
    obtain ⟨u,h1,h2⟩:=ih n _ _ _ (Qab hn) (Qab (show n<ws.length by omega)) (Qab (show n<fps.length by omega));refine ⟨u,λx w hx hw => ?_⟩
    rw [Qab hn] at hx;injection hx with hx;subst hx
    rw [Qab (show n<ws.length by omega)] at hw;injection hw with hw;subst hw
    exact ⟨h1,h2⟩
   refine ⟨.sl (D.len t) us false,.sl t xs us false e1 λn x u hx hu => ?_,?_⟩
   · have hn:=(Qaa.1 hx).1;exact (e2 n u hu x _ hx (Qab (show n<ws.length by omega))).1
   · refine .hs lv j ver ty (D.len t) 0 ws.length false ws us cp rfl ?_ (by omega) (λn w u hw hu => ?_) λn w u c a b hw hu ha hb => ?_
     · show (if lv=lv then (L[j]?).join else _)=_;rw [Qbp rfl,hL];rfl
     · rw [Nat.zero_add] at hw;have hn:=(Qaa.1 hw).1;exact (e2 n u hu _ w (Qab (show n<xs.length by omega)) hw).2.1
     · rw [Nat.zero_add] at hw;have hn:=(Qaa.1 hw).1
       exact (e2 n u hu _ w (Qab (show n<xs.length by omega)) hw).2.2 c a b ha hb
 | @el i x vs cs hl hc h ih=>
   obtain ⟨us,e1,e2⟩:=zha (Q:=λf u=>∀(p:(t:DTy)×t.S D.T) (w:V),HL.nth (D.fl i) (D.get i x) f=some p->vs[f]? = some w->DR D p.1 p.2 u∧VS ⟨lv,L,E⟩ (λ_ _=>False) w u) (D.fl i).length λf hf=>by
    obtain ⟨p,hp,_⟩:=HL.zi0 (D.fl i) (D.get i x) f hf;obtain ⟨u,h1,h2⟩:=ih f p _ _ hp (Qab (show f<vs.length by omega)) (Qab (show f<cs.length by omega));refine ⟨u,λp' w hp' hw => ?_⟩
    rw [hp] at hp';injection hp' with hp';subst hp'
    rw [Qab (show f<vs.length by omega)] at hw;injection hw with hw;subst hw
    refine ⟨h1,?_⟩
    cases how:D.ow i f with
    |none=>rw [how] at h2;exact h2
    |some ty=>rw [how] at h2;exact h2
   refine ⟨.agg us,.st i x us e1 λf p u hp hu => ?_,?_⟩
   · have hf:=(HL.z9v _ _ _ _ hp).1;exact (e2 f u hu p _ hp (Qab (show f<vs.length by omega))).1
   · refine ⟨by show vs.length=us.length;omega,λf a b ha hb => ?_⟩;replace ha:vs[f]? = some a:=ha;replace hb:us[f]? = some b:=hb;have hf:=(Qaa.1 ha).1;obtain ⟨p,hp,_⟩:=HL.zi0 (D.fl i) (D.get i x) f (by omega)
     exact (e2 f b hb p a hp ha).2
 |elf ht h=>exact ⟨_,h,rfl,λj a b ha hb=>by rw [ha] at hb;injection hb with hb;subst hb;exact .keep _ (z4y (zl3 (h.kin hD _)) j a ha)⟩
end
section
variable {P : Program} {D : Dat} {F : Fr} {ρ : List Slot} {ts : TS D.T} {σ : St} {lv : Nat}
mutual
theorem zq8:∀{d t:Nat} {x y:TV D.T} {vx vy:V} {b:Bool},y8g P d t x y=some b->VR D ρ lv x vx->VR D ρ lv y vy->eqv P d t vx vy=some b
 |0,t,x,y,vx,vy,b,h,hx,hy=>by simp [y8g] at h
 |d+1,t,x,y,vx,vy,b,h,hx,hy=>by
  simp only [y8g] at h;split at h
  · simp only [VR] at hx hy;subst hx;subst hy;(simp only [eqv];split at h <;> first|(rename_i hu;simp only [hu];exact h)|cases h)
  · simp only [VR] at hx hy;subst hx;subst hy;(simp only [eqv];split at h <;> first|(rename_i hu;simp only [hu];exact h)|cases h)
  · simp only [VR] at hx hy;subst hx;subst hy;(simp only [eqv];split at h <;> first|(rename_i hu;simp only [hu];exact h)|cases h)
  · simp only [VR] at hx hy;obtain ⟨xs,rfl,hx⟩:=hx;obtain ⟨ys,rfl,hy⟩:=hy;simp only [eqv];split at h
    · rename_i hu;simp only [hu];split at h
      · cases h
      · rename_i hs;rw [Qbq hs];exact zm9 h hx hy
    · cases h
  · simp only [VR] at hx hy;subst hx;subst hy;(simp only [eqv];split at h <;> first|(rename_i hu;simp only [hu];exact h)|cases h)
  · simp only [VR] at hx hy;subst hx;obtain ⟨_,_,_,_,rfl⟩:=hy;(simp only [eqv];split at h <;> first|(rename_i hu;simp only [hu];exact h)|cases h)
  · simp only [VR] at hx hy;subst hx;obtain ⟨_,rfl,_⟩:=hy;(simp only [eqv];split at h <;> first|(rename_i hu;simp only [hu];exact h)|cases h)
  · simp only [VR] at hx hy;subst hy;obtain ⟨_,_,_,_,rfl⟩:=hx;(simp only [eqv];split at h <;> first|(rename_i hu;simp only [hu];exact h)|cases h)
  · simp only [VR] at hx hy;subst hy;obtain ⟨_,rfl,_⟩:=hx;(simp only [eqv];split at h <;> first|(rename_i hu;simp only [hu];exact h)|cases h)
  · simp only [VR] at hx hy;subst hx;subst hy;(simp only [eqv];split at h <;> first|(rename_i hu;simp only [hu];exact h)|cases h)
  · simp only [VR] at hx hy;subst hx;subst hy;(simp only [eqv];split at h <;> first|(rename_i hu;simp only [hu];exact h)|cases h)
  · simp only [VR] at hx hy;subst hx;obtain ⟨_,_,rfl,_⟩:=hy;(simp only [eqv];split at h <;> first|(rename_i hu;simp only [hu];exact h)|cases h)
  · simp only [VR] at hx hy;subst hy;obtain ⟨_,_,rfl,_⟩:=hx;(simp only [eqv];split at h <;> first|(rename_i hu;simp only [hu];exact h)|cases h)
  · simp only [VR] at hx hy;subst hx;obtain ⟨_,rfl,_⟩:=hy;(simp only [eqv];split at h <;> first|(rename_i hu;simp only [hu];exact h)|cases h)
  · simp only [VR] at hx hy;subst hy;obtain ⟨_,rfl,_⟩:=hx;(simp only [eqv];split at h <;> first|(rename_i hu;simp only [hu];exact h)|cases h)
  · cases h
theorem zm9:∀{d:Nat} {fs:List Field} {xs ys:List (TV D.T)} {vx vy:List V} {b:Bool},zxj P d fs xs ys=some b->VRL D ρ lv xs vx->VRL D ρ lv ys vy->y29 P d fs vx vy=some b
 |0,fs,xs,ys,vx,vy,b,h,hx,hy=>by simp [zxj] at h
 |d+1,[],xs,ys,vx,vy,b,h,hx,hy=>by simpa only [y29,zxj] using h
 |d+1,f::fs,xs,ys,vx,vy,b,h,hx,hy=>by
  simp only [zxj] at h;simp only [y29];split at h
  · rename_i hf;rw [Qbp hf];exact zm9 h hx hy
  · rename_i hf;rw [Qbq hf];split at h
    · rename_i a c ha hc;obtain ⟨va,k1,k2⟩:=zb9 hx ha;obtain ⟨vc,k3,k4⟩:=zb9 hy hc;rw [k1,k3];split at h
      · rename_i r s hr hs;simp only [zq8 hr k2 k4,zm9 hs hx hy];exact h
      · cases h
    · cases h
end
theorem y97 {t:Nat} {x y:TV D.T} {vx vy:V} {b:Bool} (h:y8g P 24 t x y=some b) (ho:(x.odd&&zri P t x y)=true) (hx:VR D ρ lv x vx) (hy:VR D ρ lv y vy) :
  (∀k k' a c,vx = .int k a->vy = .int k' c->False)∧(∀a c,vx = .str a->vy = .str c->False)∧(vx.odd&&ziq P t vx vy)=true:=by
 simp only [y8g] at h;split at h <;> (try simp only [TV.odd,zri,Qaf,Bool.false_eq_true,false_and,true_and,Bool.and_true,Bool.and_false,Bool.true_and] at ho) <;> (try simp only [VR] at hx hy)
 ·subst hx;subst hy;exact ⟨by simp,by simp,rfl⟩
 ·obtain ⟨xs,rfl,hx⟩:=hx;obtain ⟨ys,rfl,hy⟩:=hy;exact ⟨by simp,by simp,by simpa [V.odd,ziq] using ho⟩
 ·subst hx;subst hy;exact ⟨by simp,by simp,rfl⟩
 ·subst hx;obtain ⟨_,_,_,_,rfl⟩:=hy;exact ⟨by simp,by simp,rfl⟩
 ·subst hx;obtain ⟨_,rfl,_⟩:=hy;exact ⟨by simp,by simp,rfl⟩
 ·subst hy;obtain ⟨_,_,_,_,rfl⟩:=hx;exact ⟨by simp,by simp,rfl⟩
 ·subst hy;obtain ⟨_,rfl,_⟩:=hx;exact ⟨by simp,by simp,rfl⟩
 ·subst hx;subst hy;exact ⟨by simp,by simp,rfl⟩
 ·subst hx;subst hy;exact ⟨by simp,by simp,rfl⟩
 ·subst hx;obtain ⟨_,_,rfl,_⟩:=hy;exact ⟨by simp,by simp,rfl⟩
 ·subst hy;obtain ⟨_,_,rfl,_⟩:=hx;exact ⟨by simp,by simp,rfl⟩
 ·subst hx;obtain ⟨_,rfl,_⟩:=hy;exact ⟨by simp,by simp,rfl⟩
 ·subst hy;obtain ⟨_,rfl,_⟩:=hx;exact ⟨by simp,by simp,rfl⟩
 ·cases h
theorem z0u {α:Type} {o:Option α} {β:Type} {f:α->Option β} {r:β} (h:z3f o f=some r):∃x,o=some x∧f x=some r:=zkn h
theorem yh0 {t:Nat} {x y:V} {b:Bool} (h1:∀k k' a c,x = .int k a->y = .int k' c->False) (h2:∀a c,x = .str a->y = .str c->False) (h3:(x.odd&&ziq P t x y)=true) (h4:eqv P 24 t x y=some b):ztn P .eql t x y=some (.bool b):=by
 unfold ztn;split
 ·exact (h1 _ _ _ _ rfl rfl).elim
 ·exact (h2 _ _ rfl rfl).elim
 ·simp only;rw [Qbp h3,h4];rfl
theorem yh5 {t:Nat} {x y:V} {b:Bool} (h1:∀k k' a c,x = .int k a->y = .int k' c->False) (h2:∀a c,x = .str a->y = .str c->False) (h3:(x.odd&&ziq P t x y)=true) (h4:eqv P 24 t x y=some b):ztn P .neq t x y=some (.bool (!b)):=by
 unfold ztn;split
 ·exact (h1 _ _ _ _ rfl rfl).elim
 ·exact (h2 _ _ rfl rfl).elim
 ·simp only;rw [Qbp h3,h4];rfl
theorem yb8 {R:Type} {op:BinOp} {t:Nat} {x y:TV D.T} {vx vy:V} {k:TV D.T->Option R} {r:R} (h:tBin P op t x y k=some r) (hx:VR D ρ lv x vx) (hy:VR D ρ lv y vy) :
  ∃z v,ztn P op t vx vy=some v∧VR D ρ lv z v∧k z=some r:=by
 unfold tBin at h;split at h
 ·rename_i i a i' b;simp only [VR] at hx hy;subst hx;subst hy;split at h
  ·obtain ⟨z,h1,h2⟩:=z0u h;unfold shl at h1;split at h1
   ·cases h1
   ·rename_i hb;injection h1 with h1;subst h1;exact ⟨_,_,by simp only [ztn];rw [Qbq hb],by simp only [VR],h2⟩
  ·obtain ⟨z,h1,h2⟩:=z0u h;unfold shr at h1;split at h1
   ·cases h1
   ·rename_i hb;injection h1 with h1;subst h1;exact ⟨_,_,by simp only [ztn];rw [Qbq hb],by simp only [VR],h2⟩
  ·rename_i hn1 hn2;split at h
   ·rename_i hi;subst hi
    have key:∀v,zyu op i a b=some v->ztn P op t (.int i a) (.int i b)=some v:=λv hv=>by
     unfold ztn
     cases op <;> first|exact (hn1 rfl).elim|exact (hn2 rfl).elim|(simp only [if_true];exact hv)
    split at h
    all_goals first
     |(refine ⟨_,_,key _ rfl,by simp only [VR],h⟩;done)
     |skip
    ·obtain ⟨z,h1,h2⟩:=z0u h;obtain ⟨h3,rfl⟩:=ygv h1;exact ⟨_,_,key _ (by simp only [zyu];rw [Qbq h3]),by simp only [VR],h2⟩
    ·obtain ⟨z,h1,h2⟩:=z0u h;obtain ⟨h3,rfl⟩:=yhd h1;exact ⟨_,_,key _ (by simp only [zyu];rw [Qbq h3]),by simp only [VR],h2⟩
    ·cases h
   ·cases h
 ·rename_i a b;simp only [VR] at hx hy;subst hx;subst hy;split at h
  ·obtain ⟨z,h1,h2⟩:=z0u h;obtain ⟨h3,rfl⟩:=yhs h1;exact ⟨_,_,by simp only [ztn,ych];rw [Qbp h3],by simp only [VR],h2⟩
  ·exact ⟨_,_,rfl,by simp only [VR],h⟩
  ·exact ⟨_,_,rfl,by simp only [VR],h⟩
  ·exact ⟨_,_,rfl,by simp only [VR],h⟩
  ·exact ⟨_,_,rfl,by simp only [VR],h⟩
  ·exact ⟨_,_,rfl,by simp only [VR],h⟩
  ·exact ⟨_,_,rfl,by simp only [VR],h⟩
  ·cases h
 ·split at h
  ·split at h
   ·rename_i ho;split at h
    ·rename_i b hb;obtain ⟨h1,h2,h3⟩:=y97 hb ho hx hy;exact ⟨_,_,yh0 h1 h2 h3 (zq8 hb hx hy),by simp only [VR],h⟩
    ·cases h
   ·cases h
  ·split at h
   ·rename_i ho;split at h
    ·rename_i b hb;obtain ⟨h1,h2,h3⟩:=y97 hb ho hx hy;exact ⟨_,_,yh5 h1 h2 h3 (zq8 hb hx hy),by simp only [VR],h⟩
    ·cases h
   ·cases h
  ·cases h
variable (hD : D.Ok P)
include hD
omit hD in
theorem ycd {t:DTy} {xs:List (t.S D.T)} {ws:List V} (hl:ws.length=xs.length) (h:∀(j:Nat) (x:t.S D.T) (w:V),xs[j]? = some x->ws[j]? = some w->DR D t x w) {n:Int} {y:t.S D.T} (hy:ix xs n=some y):0<=n∧n.toNat<ws.length∧∃w,ws[n.toNat]? = some w∧DR D t y w:=by
 obtain ⟨h1,h2⟩:=zh5 hy;have hlt:n.toNat<ws.length:=by rw [hl];exact (Qaa.1 h2).1
 exact ⟨h1,hlt,ws[n.toNat],Qab hlt,h _ _ _ h2 (Qab hlt)⟩
omit hD in
theorem zpd {R:Type} {r:R}:∀{len:Nat} {n:Int} {f:Nat->Option R},0<=n->n<(len:Int)->zrc len n f=some r->∃m,m<len∧n=Int.ofNat m∧f m=some r
 |0,_,_,_,_,h=>by cases h
 |1,n,f,h0,h1,h=>⟨0,by omega,by simp only [Int.ofNat_eq_natCast];omega,h⟩
 |len+2,n,f,h0,h1,h=>by
  simp only [zrc] at h;rw [zw4] at h;split at h
  · rename_i hc;exact ⟨len+1,by omega,by simpa using hc,h⟩
  · rename_i hc;have hne:n≠((len+1:Nat):Int):=by simpa using hc
    obtain ⟨m,h2,h3,h4⟩:=zpd h0 (by omega) h;exact ⟨m,by omega,h3,h4⟩
omit hD in
theorem zpb {R:Type} {t len e:Nat} {ik:IntKind} {H:Heap} {x:TV D.T} {vx:V} {k:TV D.T->Option R} {r:R} {m:Nat} (hu:P.underlying t=some (.array len e)) (h:zvr P len e x k m=some r) (hx:VR D ρ lv x vx) :
  ∃z v,zzl P H t vx (.int ik (Int.ofNat m))=some v∧VR D ρ lv z v∧k z=some r:=by
 unfold zvr at h;split at h
 ·rename_i hc;have hn0:(0:Int)<=Int.ofNat m:=Int.natCast_nonneg m;have hlt:Int.ofNat m<(len:Int):=Int.ofNat_lt.2 hc.1;split at h
  ·rename_i cs off;simp only [VR] at hx;obtain ⟨vs,rfl,hv⟩:=hx;exact ⟨_,.ref vs (off+m * P.cellsOf e),by unfold zzl;simp only;rw [Qbp hn0,hu];simp only;rw [Qbp ⟨hlt,hc.2⟩];rfl,by simp only [VR];exact ⟨vs,rfl,hv⟩,h⟩
  ·rename_i s off;simp only [VR] at hx;obtain ⟨sl,j,h1,h2,rfl⟩:=hx;exact ⟨_,.ptr lv j (off+m * P.cellsOf e),by unfold zzl;simp only;rw [Qbp hn0,hu];simp only;rw [Qbp ⟨hlt,hc.2⟩];rfl,by simp only [VR];exact ⟨sl,j,h1,h2,rfl⟩,h⟩
  ·rename_i s τ i' x' off;simp only [VR] at hx;obtain ⟨sl,w,h1,h2,h3,h4,h5⟩:=hx
   cases hk:sl.k with
   |none=>
    rw [hk] at h5;simp only at h5;subst h5
    exact ⟨_,.ref w.cells (off+m * P.cellsOf e),by unfold zzl;simp only;rw [Qbp hn0,hu];simp only;rw [Qbp ⟨hlt,hc.2⟩];rfl,by simp only [VR];exact ⟨sl,w,h1,h2,h3,h4,by rw [hk]⟩,h⟩
   |some j=>
    rw [hk] at h5;obtain ⟨ver,n,e1,rfl⟩:=h5;exact ⟨_,.ap lv j ver i'.toNat (off+m * P.cellsOf e),by unfold zzl;simp only;rw [Qbp hn0,hu];simp only;rw [Qbp ⟨hlt,hc.2⟩];rfl,by simp only [VR];exact ⟨sl,w,h1,h2,h3,h4,by rw [hk];exact ⟨ver,n,e1,rfl⟩⟩,h⟩
  ·cases h
 ·cases h
theorem ztj {R:Type} (hR:TRr D F ρ ts σ) {t:Nat} {x i:TV D.T} {vx vi:V} {k:TV D.T->Option R} {r:R} (h:zpi P D ts t x i k=some r) (hx:VR D ρ F.lv x vx) (hi:VR D ρ F.lv i vi) :
  ∃z v,zzl P σ.H t vx vi=some v∧VR D ρ F.lv z v∧k z=some r:=by
 unfold zpi at h;split at h
 ·rename_i ik n;simp only [VR] at hi;subst hi;split at h
  ·rename_i e hu;split at h
   ·rename_i he;split at h
    ·rename_i τ xs fl;split at h
     ·rename_i hz;obtain ⟨y,hy,h⟩:=z0u h;simp only [VR] at hx;obtain ⟨hx,_⟩:=hx
      cases hx with
      |nil=>obtain ⟨_,h2⟩:=zh5 hy;simp at h2
      |sl _ _ ws full hl hh=>
       obtain ⟨h1,h2,w,h3,h4⟩:=ycd hl hh hy;refine ⟨_,.ref w.cells 0,?_,?_,h⟩
       · rw [zp9,Qbp h1,hu];simp only;rw [Qbp ⟨hz,he⟩,h3];rfl
       · simp only [VR];exact ⟨_,rfl,VR.y6u hD h4⟩
     ·cases h
    ·rename_i s;split at h
     ·rename_i ty τ xs w ho;split at h
      ·rename_i hz;obtain ⟨y,hy,h⟩:=z0u h;simp only [VR] at hx;obtain ⟨sl,h1,rfl,hleaf⟩:=hx;obtain ⟨sl',k1,k2⟩:=hR.ob _ _ ho
       rw [h1] at k1;injection k1 with k1;subst k1
       simp only [OR] at k2;obtain ⟨q1,q2,q3⟩:=k2;obtain ⟨p1,p2,u,p3,p4⟩:=ycd q1 q2 hy
       cases hk:sl.k with
       |none=>
        rw [hk] at q3
        rcases q3 with ⟨e1,e2⟩|⟨e1,e2⟩
        · rw [e2] at p3;simp at p3
        · refine ⟨_,.ref u.cells 0,?_,?_,h⟩
          · rw [e1.1,zp9,Qbp p1,hu];simp only;rw [Qbp ⟨hz,he⟩,p3];rfl
          · simp only [VR];exact ⟨sl,u,h1,p1,p3,p4,by rw [hk]⟩
       |some j=>
        rw [hk] at q3;obtain ⟨ver,cp,e1,e2⟩:=q3;refine ⟨_,.ap F.lv j ver n.toNat 0,?_,?_,h⟩
        · rw [e1];unfold zzl;simp only;rw [Qbp p1,hu];simp only [hR.get e2];rw [Qbp ⟨trivial,hz,he,by omega⟩];simp
        · simp only [VR];exact ⟨sl,u,h1,p1,p3,p4,by rw [hk];exact ⟨ver,_,e1,by simp⟩⟩
      ·cases h
     ·rename_i ty q xs hh ho;split at h
      ·rename_i hz;obtain ⟨y,hy,h⟩:=z0u h;simp only [VR] at hx;obtain ⟨sl,h1,rfl,hleaf⟩:=hx;obtain ⟨sl',k1,k2⟩:=hR.ob _ _ ho
       rw [h1] at k1;injection k1 with k1;subst k1
       simp only [OR] at k2;obtain ⟨q1,q3⟩:=k2;obtain ⟨p1,p2⟩:=zh5 hy;have hlt:n.toNat<sl.ws.length:=by rw [q1];exact (Qaa.1 p2).1
       cases hk:sl.k with
       |none=>
        rw [hk] at q3;obtain ⟨e1,_⟩:=q3
        rw [e1] at p2;simp at p2
       |some j=>
        rw [hk] at q3;obtain ⟨ver,cp,fps,e1,e2,_⟩:=q3;refine ⟨_,.ap F.lv j ver n.toNat 0,?_,?_,h⟩
        · rw [e1];unfold zzl;simp only;rw [Qbp p1,hu];simp only [hR.get e2];rw [Qbp ⟨trivial,hz,he,by omega⟩];simp
        · simp only [VR];exact ⟨sl,j,ver,_,h1,e1,p1,hlt,by simp⟩
      ·cases h
     ·cases h
    ·cases h
   ·cases h
  ·rename_i len e hu;split at h
   ·obtain ⟨_,hr,h⟩:=z0u h;unfold inR at hr;split at hr
    ·rename_i hc;obtain ⟨m,hm,rfl,h2⟩:=zpd hc.1 hc.2 h;exact zpb hu h2 hx
    ·cases hr
   ·split at h
    ·exact zpb hu h hx
    ·cases h
  ·cases h
 ·cases h
omit hD in
theorem y8e {t:DTy}:∀{cs:List (TV D.T)} {xs:List (t.S D.T)},y42 D t cs = .ok xs->xs.length=cs.length
 |[],xs,h=>by simp only [y42] at h;injection h with h;subst h;rfl
 |c::cs,xs,h=>by
  simp only [y42] at h;split at h
  · split at h
    · rename_i ys hys;injection h with h;subst h;simp [y8e hys]
    · cases h
    · cases h
  · cases h
  · cases h
theorem y4t {R:Type} {t:Nat} {x i:TV D.T} {vx vi:V} {k:TV D.T->Option R} {r:R} (h:ycq P D t x i k=some r) (hx:VR D ρ lv x vx) (hi:VR D ρ lv i vi) :
  ∃z v,zsz P t vx vi=some v∧VR D ρ lv z v∧k z=some r:=by
 unfold ycq at h;split at h
 ·rename_i ik n;simp only [VR] at hi;subst hi;split at h
  ·rename_i s;simp only [VR] at hx;subst hx;split at h
   ·rename_i hu;obtain ⟨b,hb,h⟩:=z0u h;obtain ⟨h1,h2⟩:=zh5 hb;refine ⟨_,.int .u8 b.toNat,?_,by simp only [VR],h⟩;unfold zsz;simp only;rw [Qbp h1,hu];simp only [h2];rfl
   ·cases h
  ·rename_i cs;simp only [VR] at hx;obtain ⟨vs,rfl,hx⟩:=hx;split at h
   ·rename_i len e hu;split at h
    ·rename_i τ hτ;split at h
     ·rename_i hc;obtain ⟨c1,c2,c3,c4⟩:=hc;split at h
      ·split at h
       ·rename_i xs hxs;obtain ⟨y,hy,h⟩:=z0u h;obtain ⟨k1,k2⟩:=zq1 hD hxs hx;obtain ⟨p1,p2,u,p3,p4⟩:=ycd k1 k2 hy;have hlen:vs.length=len:=by rw [k1,y8e hxs,c1]
        refine ⟨_,u,?_,VR.leaf p4,h⟩;unfold zsz;simp only;rw [Qbp p1,hu];simp only;rw [Qbp ⟨by omega,c3⟩,c2,Nat.mul_one];unfold rd;rw [Option.any_eq_true] at c4;obtain ⟨d,hd,hag⟩:=c4;rw [hd]
        cases d <;> first|exact p3|(simp [TypeDesc.isAgg] at hag)
       ·cases h
      ·cases h
     ·cases h
    ·cases h
   ·cases h
  ·cases h
 ·cases h
omit hD in
theorem yi1 {d n:Nat} {o:Option (TV D.T)} {l:Int} {vo:Option V} (hd:d<=n) (h:y6q D (d:Int) o=some l) (hv:∀x,o=some x->∃v,vo=some v∧VR D ρ lv x v) (hn:o=none->vo=none) (h0:0<=l) (hl:l<=n):bnd n d vo=some l.toNat:=by
 unfold y6q at h;split at h
 ·injection h with h;subst h;rw [hn rfl];simp [bnd]
 ·rename_i ik x;injection h with h;subst h;obtain ⟨v,e1,e2⟩:=hv _ rfl;simp only [VR] at e2;subst e2;rw [e1];simp only [bnd];rw [Qbp ⟨h0,hl⟩]
 ·cases h
omit hD in
theorem y41 {R:Type} {t:Nat} {x:TV D.T} {lo hi:Option (TV D.T)} {vx:V} {vlo vhi:Option V} {k:TV D.T->Option R} {kf:Nat->Option R} {r:R} (h:yc5 P D t x lo hi k kf=some r) (hx:VR D ρ lv x vx)
  (hlo:∀y,lo=some y->∃v,vlo=some v∧VR D ρ lv y v) (hlo0:lo=none->vlo=none) (hhi:∀y,hi=some y->∃v,vhi=some v∧VR D ρ lv y v) (hhi0:hi=none->vhi=none) (H:Heap) :
  (∃z v,zfn P H t vx vlo vhi none=some v∧VR D ρ lv z v∧k z=some r)∨∃s,kf s=some r:=by
 unfold yc5 at h
 have bounds:∀{n:Nat} {l q:Int},y6q D 0 lo=some l->y6q D (n:Int) hi=some q->0<=l->l<=q->q<=n->zdz n vlo vhi none=some (l.toNat,q.toNat,none):=λ{n l q} hl hq h1 h2 h3=>by
  simp only [zdz];rw [yi1 (Qbo n) hq hhi hhi0 (by omega) h3];simp only [Option.bind_some];rw [yi1 (d:=0) (n:=q.toNat) (Qbn _) hl hlo hlo0 h1 (by omega)];rfl
 split at h
 ·rename_i s;simp only [VR] at hx;subst hx;split at h
  ·rename_i hu;split at h
   ·rename_i l q hl hq;obtain ⟨y,hy,h⟩:=z0u h;obtain ⟨h1,h2,h3,rfl,_⟩:=y9x hy;left;exact ⟨_,.str ((s.take q.toNat).drop l.toNat),by simp only [zfn,hu,bounds hl hq h1 h2 h3,Qbl],by simp only [VR],h⟩
   ·cases h
  ·cases h
 ·rename_i τ xs fl;simp only [VR] at hx;obtain ⟨hx,hf1,hf2⟩:=hx;split at h
  ·rename_i e hu;split at h
   ·rename_i hz;split at h
    ·rename_i l q hl hq;obtain ⟨y,hy,h⟩:=z0u h;obtain ⟨h1,h2,h3,rfl,_⟩:=y9x hy;left
     cases hx with
     |nil=>
      refine ⟨_,.nils,?_,?_,h⟩
      · have hb:zdz 0 vlo vhi none=some (l.toNat,q.toNat,none):=bounds hl hq h1 h2 h3;simp only [zfn,hu];rw [Qbp hz.2,hb];rfl
      · simp only [VR];refine ⟨by simp only [List.take_nil,List.drop_nil];exact .nil τ,λhfl => ?_,λhfl=>by simp⟩
        have:1<=fl:=by
         split at hfl
         · omega
         · omega
        obtain ⟨ws,hw⟩:=hf1 this
        cases hw
     |sl _ _ ws full hlw hh=>
      refine ⟨_,.sl (D.len τ) ((ws.take q.toNat).drop l.toNat) (full&&q.toNat==ws.length),?_,?_,h⟩
      rotate_left
      · simp only [VR];refine ⟨.sl τ _ ((ws.take q.toNat).drop l.toNat) (full&&q.toNat==ws.length) (by simp [hlw]) λj x w hx hw => ?_,λhfl => ?_,λhfl => ?_⟩
        · rw [Qbb,Qau] at hx hw;split at hx
          · rw [Qbp ‹_›] at hw;exact hh _ _ _ hx hw
          · cases hx
        · have hfl':hi=none∧1<=fl:=by
           split at hfl
           · exact ⟨by first|assumption|rfl,by omega⟩
           · omega
          obtain ⟨ws',hw'⟩:=hf1 hfl'.2;injection hw' with _ _ hw';subst hw'
          have hqn:q=xs.length:=by
           rw [hfl'.1] at hq;simp only [y6q,Qbm] at hq;exact hq.symm
          refine ⟨(ws.take q.toNat).drop l.toNat,?_⟩;have:(q.toNat==ws.length)=true:=by rw [hqn,hlw];simp
          rw [this];rfl
        · exfalso
          split at hfl
          · omega
          · omega
      · have hb:zdz ws.length vlo vhi none=some (l.toNat,q.toNat,none):=by rw [hlw];exact bounds hl hq h1 h2 h3
        simp only [zfn,hu];rw [Qbp hz,hb];simp
    ·cases h
   ·cases h
  ·cases h
 ·exact .inr ⟨_,h⟩
 ·cases h
omit hD in
theorem TRr.oev (hR:TRr D F ρ ts σ) {o:Option Operand} {x:Option (TV D.T)} (h:oev D ts o=some x):(∀y,x=some y->∃v,o.map σ.ev=some v∧VR D ρ F.lv y v)∧(x=none->o.map σ.ev=none):=by
 cases o with
 |none=>simp only [Go.Ab.oev,Qbm] at h;subst h;exact ⟨by simp,λ_=>rfl⟩
 |some o=>
  simp only [Go.Ab.oev,Qae] at h;obtain ⟨y,hy,rfl⟩:=h;exact ⟨λz hz=>by injection hz with hz;subst hz;exact ⟨_,rfl,hR.ev hy⟩,by simp⟩
omit hD in
theorem DR.flat {t:DTy} (ht:t.flat=true) {x:t.S D.T} {v:V} (h:DR D t x v):v=D.el t x:=by
 cases h <;> first|rfl|cases ht
theorem y1d {R:Type} (hR:TRr D F ρ ts σ) {t:Nat} {x key:TV D.T} {vx vk:V} {ok:Bool} {k:TV D.T->Option R} {r:R} (h:y7e P D ts t x key ok k=some r) (hx:VR D ρ F.lv x vx) (hk:VR D ρ F.lv key vk) :
  ∃z v,zld P σ.H t vx vk ok=some v∧VR D ρ F.lv z v∧k z=some r:=by
 unfold y7e at h;split at h
 ·rename_i kt e s hu;simp only [VR] at hk;subst hk;split at h
  ·rename_i z hkt hz;obtain ⟨vz,hz1,hz2⟩:=zhf (ρ:=ρ) (lv:=F.lv) hz;split at h
   ·rename_i q;split at h
    ·rename_i ty τ es ho;simp only [VR] at hx;obtain ⟨sl,i,h1,h2,rfl⟩:=hx;obtain ⟨sl',k1,k2⟩:=hR.ob _ _ ho
     rw [h1] at k1;injection k1 with k1;subst k1
     simp only [OR] at k2;obtain ⟨i',ms,q1,q2,q4,q3⟩:=k2
     rw [h2] at q1;injection q1 with q1;subst q1
     split at h
     ·rename_i z0 hz0;have h0:DR D τ z0 vz:=zgi hD hz0 hz2;obtain ⟨l1,l2⟩:=ycl (P:=P) (f:=λx:τ.S D.T×V=>x.2) (m:=ms) hu hkt hz1 (hR.get q3) s (z0,vz) rfl;have eg:z6u es s=(z6u ms s).map Prod.fst:=by rw [q2];exact yb0 Prod.fst s ms
      have hv:VR D ρ F.lv (D.tv τ ((z6u es s).getD z0)) ((z6u ms s).getD (z0,vz)).2:=by
       rw [eg]
       cases hm:z6u ms s with
       |none=>exact VR.tv hD h0
       |some p=>
        obtain ⟨q,a1,a2⟩:=y87 hm;subst a2;exact VR.tv hD (q4 q a1)
      have hs:(z6u es s).isSome=(z6u ms s).isSome:=by rw [eg];cases z6u ms s <;> rfl
      cases ok
      ·exact ⟨_,_,l1,hv,h⟩
      ·exact ⟨_,_,l2,by
        simp only [VR,VRL]
        exact ⟨_,rfl,_,_,rfl,hv,_,_,rfl,by rw [hs],rfl⟩,h⟩
     ·cases h
    ·cases h
   ·cases h
  ·cases h
 ·cases h
omit hD in
theorem DO.datE {L:List (Option kz2)} {t:DTy} {x:t.S D.T} {v:V} {c:List Nat} (h:DO D lv L .dat t x v c):DR D t x v:=by
 cases h with
 |dat h=>exact h
omit hD in
theorem znr (q:Nat):∀(l:List DTy) (x:HL D.T l) (f j:Nat),(zpa D q l x f)[j]? = (HL.nth l x j).map λp=>match D.ow q (f+j) with|none=>D.leaf p.1 p.2|some _=>.any
 |[],_,_,j=>by simp [zpa,HL.nth]
 |t::l,x,f,0=>by simp only [zpa,HL.nth,Qbu,Qbl,Nat.add_zero];rfl
 |t::l,x,f,j+1=>by
  have:=znr q l x.2 (f+1) j;simp only [zpa,HL.nth,List.getElem?_cons_succ,this];rw [show f+1+j=f+(j+1) by omega]
omit hD in
theorem ya8 {ρ0 ρ':List Slot} {L:List (Option kz2)} {q n:Nat} {h:Option (Int×Nat×Nat)} {x:D.T q} {w:V} {c:List Nat} (hE:EO D ρ0 lv L q h n x w c):VRL D ρ' lv (zpa D q (D.fl q) (D.get q x) 0) w.cells:=by
 obtain ⟨vs,cs,rfl,h2,h3,h4,h5⟩:=hE;refine .of ?_ λj y v hy hv => ?_
 ·show (zpa D q (D.fl q) (D.get q x) 0).length=vs.length;rw [h2];apply Nat.le_antisymm
  ·apply Nat.le_of_not_lt;intro hlt;have:=znr (D:=D) q (D.fl q) (D.get q x) 0 (D.fl q).length;rw [Qab hlt] at this
   cases hn:HL.nth (D.fl q) (D.get q x) (D.fl q).length with
   |none=>rw [hn] at this;cases this
   |some p=>have:=(HL.z9v _ _ _ _ hn).1;omega
  ·apply Nat.le_of_not_lt;intro hlt;obtain ⟨p,hp,_⟩:=HL.zi0 (D.fl q) (D.get q x) _ hlt;have:=znr (D:=D) q (D.fl q) (D.get q x) 0 (zpa D q (D.fl q) (D.get q x) 0).length;rw [hp,Qbw (Qbo _)] at this;cases this
 ·rw [znr,Qae] at hy;obtain ⟨p,hp,rfl⟩:=hy;replace hv:vs[j]? = some v:=hv;have hj:=(HL.z9v _ _ _ _ hp).1;rw [Nat.zero_add]
  cases how:D.ow q j with
  |some ty=>simp only [VR]
  |none=>
   have:=h5 j p v _ hp hv (Qab (show j<cs.length by omega));rw [how] at this;split at this
   · have:=this.2.1;cases this
   · exact VR.leaf this.datE
omit hD in
theorem zap {R:Type} (hR:TRr D F ρ ts σ) {ρ':List Slot} {t s off:Nat} {i:Int} {set:Option (Nat×TV D.T)} {k:TV D.T->Option R} {r:R} {va:V} (hset:∀f v sl w u,set=some (f,v)->ρ[s]? = some sl->sl.ws[i.toNat]? = some w->w.cells[f]? = some u->VR D ρ' F.lv v u)
  (h:znb P D ts t s i off set k=some r) (ha:VR D ρ F.lv (.dp s i off) va):∃x v,z7b P σ.H t va=some v∧VR D ρ' F.lv x v∧k x=some r:=by
 unfold znb at h;split at h
 ·rename_i ty q xs hh ho;obtain ⟨y,hy,h⟩:=z0u h;split at h
  ·rename_i x hx;simp only [VR] at ha;obtain ⟨sl,j,ver,m,a1,a2,a3,a4,rfl⟩:=ha;obtain ⟨sl',b1,b2⟩:=hR.ob s _ ho
   rw [a1] at b1;injection b1 with b1;subst b1
   simp only [OR] at b2;obtain ⟨c1,c2⟩:=b2;obtain ⟨p1,p2⟩:=zh5 hy
   cases hk:sl.k with
   |none=>rw [hk] at c2;rw [c2.1] at p2;simp at p2
   |some j'=>
    rw [hk] at c2;obtain ⟨ver',cp,fps,d1,d2,d3,d4,d5,d6,d7⟩:=c2
    rw [a2] at d1;injection d1 with _ e1 e2 _ e3 _
    subst e1;subst e2;subst e3;have hw:sl.ws[i.toNat]? = some (sl.ws[i.toNat]'a4):=Qab a4;have hE:=d6 i.toNat y _ _ p2 hw (Qab (show i.toNat<fps.length by omega));have hm:=ya8 (ρ':=ρ') hE
    have hs:VRL D ρ' F.lv (setO (zpa D q (D.fl q) (D.get q y) 0) set) (sl.ws[i.toNat]'a4).cells:=by
     cases set with
     |none=>exact hm
     |some p=>
      obtain ⟨f,v⟩:=p;refine .of (by simp [setO,hm.length]) λn c u hc hu => ?_
      simp only [setO] at hc;rw [Qbe] at hc;split at hc
      · rename_i e;subst e;split at hc
        · injection hc with hc;subst hc;exact hset _ _ sl _ u rfl a1 hw hu
        · cases hc
      · exact hm.zqa hc hu
    obtain ⟨v,v1,v2⟩:=zb9 hs hx;refine ⟨x,v,?_,v2,h⟩;simp only [zxo,zp5,hR.get d2,if_true,hw,Qbl,Option.bind_some];exact v1
  ·cases h
 ·cases h
omit hD in
theorem y7k {R:Type} (hR:TRr D F ρ ts σ) {t s off:Nat} {i:Int} {k:TV D.T->Option R} {r:R} {va:V}
  (h:ybv P D ts t s i off k=some r) (ha:VR D ρ F.lv (.dp s i off) va):∃x v,z7b P σ.H t va=some v∧VR D ρ F.lv x v∧k x=some r:=by
 unfold ybv at h;split at h
 ·rename_i ty q xs p ho;obtain ⟨n,f',c⟩:=p;split at h
  ·rename_i hff;have hff:f'=off:=Qah hff;subst hff;obtain ⟨_,hs,h⟩:=z0u h
   have hni:n=i:=by
    unfold y3q at hs;split at hs
    ·rename_i e;exact e
    ·cases hs
   subst hni;refine zap hR (ρ':=ρ) (λf2 v sl w u' e hsl hw hu => ?_) h ha;injection e with e;injection e with e4 e5;subst e4;subst e5;obtain ⟨sl',b1,b2⟩:=hR.ob s _ ho
   rw [hsl] at b1;injection b1 with b1;subst b1
   simp only [OR] at b2;obtain ⟨c1,c2⟩:=b2
   cases hk:sl.k with
   |none=>rw [hk] at c2;cases c2.2.2.2
   |some j'=>
    rw [hk] at c2;obtain ⟨ver',cp',fps,d1,d2,d3,d4,d5,d6,d7⟩:=c2;have hlt:=(d7 _ _ _ rfl).2;obtain ⟨vs,cs,g1,g2,g3,g4,g5⟩:=d6 n.toNat _ w _ (Qab hlt) hw (Qab (show n.toNat<fps.length by omega));subst g1;replace hu:vs[f']? = some u':=hu;have hfl:=(Qaa.1 hu).1;obtain ⟨p,hp,_⟩:=HL.zi0 (D.fl q) (D.get q xs[n.toNat]) f' (by omega)
    have:=g5 f' p u' _ hp hu (Qab (show f'<cs.length by omega));rw [show z0b (some (n,f',c)) n.toNat f'=some c by simp [z0b]] at this;obtain ⟨_,_,a3,sl2,a4,a5⟩:=this;simp only [VR];exact ⟨sl2,a4,a5,a3⟩
  ·exact zap hR (ρ':=ρ) (λf v _ _ _ e=>by cases e) h ha
 ·exact zap hR (ρ':=ρ) (λf v _ _ _ e=>by cases e) h ha
theorem zyx {R:Type} (hR:TRr D F ρ ts σ) {op:Op} {k:TV D.T->Option R} {kf:Nat->Option R} {r:R} (h:tP P D ts op k kf=some r) :
  (∃x v,pv P σ.H σ.ev op=some v∧VR D ρ F.lv x v∧k x=some r)∨∃s,kf s=some r:=by
 unfold tP at h;split at h
 ·rename_i c a b;split at h
  ·rename_i t x y hc hx hy;have h1:=hR.ev hc;simp only [VR] at h1;left;rw [zw4] at h;split at h
   ·rename_i ht;exact ⟨x,_,by simp only [pv,h1];rw [Qbp ht],hR.ev hx,h⟩
   ·rename_i ht;exact ⟨y,_,by simp only [pv,h1];rw [Qbq ht],hR.ev hy,h⟩
  ·cases h
 ·split at h
  ·rename_i hx hy;left;obtain ⟨z,v,h1,h2,h3⟩:=yb8 h (hR.ev hx) (hR.ev hy);exact ⟨z,v,h1,h2,h3⟩
  ·cases h
 ·split at h
  ·rename_i hx hy;left;obtain ⟨z,v,h1,h2,h3⟩:=ztj hD hR h (hR.ev hx) (hR.ev hy);exact ⟨z,v,h1,h2,h3⟩
  ·cases h
 ·split at h
  ·rename_i hx hy;left;obtain ⟨z,v,h1,h2,h3⟩:=y4t hD h (hR.ev hx) (hR.ev hy);exact ⟨z,v,h1,h2,h3⟩
  ·cases h
 ·split at h
  ·rename_i hx hy;left;obtain ⟨z,v,h1,h2,h3⟩:=y1d hD hR h (hR.ev hx) (hR.ev hy);exact ⟨z,v,h1,h2,h3⟩
  ·cases h
 ·split at h
  ·rename_i hx hlo hhi;obtain ⟨a1,a2⟩:=hR.oev hlo;obtain ⟨b1,b2⟩:=hR.oev hhi;exact y41 h (hR.ev hx) a1 a2 b1 b2 σ.H
  ·cases h
 ·split at h
  ·rename_i hx;left;exact y7k hR h (hR.ev hx)
  ·split at h
   ·rename_i v hv;obtain ⟨u,h1,h2⟩:=y3l hD hR hv;exact .inl ⟨v,u,h1,h2,h⟩
   ·exact .inr ⟨_,h⟩
   ·cases h
 ·split at h
  ·rename_i v hv;obtain ⟨u,h1,h2⟩:=y3l hD hR hv;exact .inl ⟨v,u,h1,h2,h⟩
  ·exact .inr ⟨_,h⟩
  ·cases h
end
end Go.Ab
