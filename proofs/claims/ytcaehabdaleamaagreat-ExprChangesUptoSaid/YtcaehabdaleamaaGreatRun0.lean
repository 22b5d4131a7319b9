/-
  THE GO STRUCTS AS LEAN STRUCTURES, by a program of this repo (types.py).
-/
import Derived.Test.YtcaehabdaleamaaGreatLib2
import Derived.Test.YtcaehabdaleamaaGreatProg
import Derived.Test.YtcaehabdaleamaaGreatLib4
import Derived.Test.YtcaehabdaleamaaGreatLib8
import Derived.KernelRfl
import Derived.Shelf.Small.Strs
namespace Go.Ab
open Go
set_option linter.unusedVariables false
set_option linter.unusedSimpArgs false
structure yz1 where
 num:Int
 den:Int
def yz1.el(x:yz1):V:=.agg [.int .i64 x.num,.int .i64 x.den]
def yz1.size(x:yz1):Nat:=1+1+1
def yz1.wf(x:yz1):Prop:=(IntKind.i64.min<=x.num∧x.num<=IntKind.i64.max)∧(IntKind.i64.min<=x.den∧x.den<=IntKind.i64.max)
theorem yz1.z3h(x:yz1):x.el = .agg [.int .i64 x.num,.int .i64 x.den]:=by rw[yz1.el]
theorem yz1.size_eq(x:yz1):x.size=1+1+1:=by rw[yz1.size]
theorem yz1.zbe(x:yz1):x.wf=((IntKind.i64.min<=x.num∧x.num<=IntKind.i64.max)∧(IntKind.i64.min<=x.den∧x.den<=IntKind.i64.max)):=by rw[yz1.wf]
theorem yz1.za3(x:yz1):x.el.cells.length=2:=by rw[yz1.z3h];rfl
theorem yz1.zsp(x:yz1):x.el = .agg x.el.cells:=by rw[yz1.z3h];rfl
theorem yz1.kin{D:Nat->Nat->Prop}(x:yz1):V.kin D x.el:=by rw[yz1.z3h];simp only[V.kin,V.zcj,and_true,true_and]
def yz1.ty:Ty yz1:=⟨yz1.el,2,yz1.size,yz1.wf,yz1.za3⟩
structure zz0 where
 kind:Int
 num:yz1
 truth:Bool
 str:B8
 list:List zz0
theorem zz0.zqu{x y:zz0}(h:y∈x.list):SizeOf.sizeOf y<SizeOf.sizeOf x:=by cases x;have:=List.sizeOf_lt_of_mem h;simp at this ⊢;omega
def zz0.el(x:zz0):V:=.agg [.int .u8 x.kind,.int .i64 x.num.num,.int .i64 x.num.den,.bool x.truth,.str x.str,.sl 6 (x.list.map zz0.el) false]
 termination_by x
 decreasing_by all_goals first|exact zz0.zqu ‹_›
def zz0.size(x:zz0):Nat:=1+x.num.size+1+(x.str.length+1)+((x.list.map zz0.size).sum+1)+1
 termination_by x
 decreasing_by all_goals first|exact zz0.zqu ‹_›
def zz0.wf(x:zz0):Prop:=(IntKind.u8.min<=x.kind∧x.kind<=IntKind.u8.max)∧x.num.wf∧True∧True∧(∀y∈x.list,y.wf)
 termination_by x
 decreasing_by all_goals first|exact zz0.zqu ‹_›
theorem zz0.z3h(x:zz0):x.el = .agg [.int .u8 x.kind,.int .i64 x.num.num,.int .i64 x.num.den,.bool x.truth,.str x.str,.sl 6 (x.list.map zz0.el) false]:=by rw[zz0.el]
theorem zz0.size_eq(x:zz0):x.size=1+x.num.size+1+(x.str.length+1)+((x.list.map zz0.size).sum+1)+1:=by rw[zz0.size]
theorem zz0.zbe(x:zz0):x.wf=((IntKind.u8.min<=x.kind∧x.kind<=IntKind.u8.max)∧x.num.wf∧True∧True∧(∀y∈x.list,y.wf)):=by rw[zz0.wf]
theorem zz0.za3(x:zz0):x.el.cells.length=6:=by rw[zz0.z3h];rfl
theorem zz0.zsp(x:zz0):x.el = .agg x.el.cells:=by rw[zz0.z3h];rfl
theorem zz0.kin{D:Nat->Nat->Prop}(x:zz0):V.kin D x.el:=by rw[zz0.z3h];simp only[V.kin,V.zcj,and_true,true_and];exact zrb λy hy=>zz0.kin y
 termination_by x
 decreasing_by all_goals first|exact zz0.zqu ‹_›
def zz0.ty:Ty zz0:=⟨zz0.el,6,zz0.size,zz0.wf,zz0.za3⟩
structure zz1 where
 op:Int
 value:zz0
 name:B8
 args:List zz1
theorem zz1.zrw{x y:zz1}(h:y∈x.args):SizeOf.sizeOf y<SizeOf.sizeOf x:=by cases x;have:=List.sizeOf_lt_of_mem h;simp at this ⊢;omega
def zz1.el(x:zz1):V:=.agg [.int .u8 x.op,.int .u8 x.value.kind,.int .i64 x.value.num.num,.int .i64 x.value.num.den,.bool x.value.truth,.str x.value.str,.sl 6 (x.value.list.map zz0.el) false,.str x.name,.sl 9 (x.args.map zz1.el) false]
 termination_by x
 decreasing_by all_goals first|exact zz1.zrw ‹_›
def zz1.size(x:zz1):Nat:=1+x.value.size+(x.name.length+1)+((x.args.map zz1.size).sum+1)+1
 termination_by x
 decreasing_by all_goals first|exact zz1.zrw ‹_›
def zz1.wf(x:zz1):Prop:=(IntKind.u8.min<=x.op∧x.op<=IntKind.u8.max)∧x.value.wf∧True∧(∀y∈x.args,y.wf)
 termination_by x
 decreasing_by all_goals first|exact zz1.zrw ‹_›
theorem zz1.z3h(x:zz1):x.el = .agg [.int .u8 x.op,.int .u8 x.value.kind,.int .i64 x.value.num.num,.int .i64 x.value.num.den,.bool x.value.truth,.str x.value.str,.sl 6 (x.value.list.map zz0.el) false,.str x.name,.sl 9 (x.args.map zz1.el) false]:=by rw[zz1.el]
theorem zz1.size_eq(x:zz1):x.size=1+x.value.size+(x.name.length+1)+((x.args.map zz1.size).sum+1)+1:=by rw[zz1.size]
theorem zz1.zbe(x:zz1):x.wf=((IntKind.u8.min<=x.op∧x.op<=IntKind.u8.max)∧x.value.wf∧True∧(∀y∈x.args,y.wf)):=by rw[zz1.wf]
theorem zz1.za3(x:zz1):x.el.cells.length=9:=by rw[zz1.z3h];rfl
theorem zz1.zsp(x:zz1):x.el = .agg x.el.cells:=by rw[zz1.z3h];rfl
theorem zz1.kin{D:Nat->Nat->Prop}(x:zz1):V.kin D x.el:=by rw[zz1.z3h];simp only[V.kin,V.zcj,and_true,true_and];exact⟨zrb λy hy=>zz0.kin y,zrb λy hy=>zz1.kin y⟩
 termination_by x
 decreasing_by all_goals first|exact zz1.zrw ‹_›
def zz1.ty:Ty zz1:=⟨zz1.el,9,zz1.size,zz1.wf,zz1.za3⟩
structure yzt where
 name:B8
 value:zz0
def yzt.el(x:yzt):V:=.agg [.str x.name,.int .u8 x.value.kind,.int .i64 x.value.num.num,.int .i64 x.value.num.den,.bool x.value.truth,.str x.value.str,.sl 6 (x.value.list.map zz0.el) false]
def yzt.size(x:yzt):Nat:=(x.name.length+1)+x.value.size+1
def yzt.wf(x:yzt):Prop:=True∧x.value.wf
theorem yzt.z3h(x:yzt):x.el = .agg [.str x.name,.int .u8 x.value.kind,.int .i64 x.value.num.num,.int .i64 x.value.num.den,.bool x.value.truth,.str x.value.str,.sl 6 (x.value.list.map zz0.el) false]:=by rw[yzt.el]
theorem yzt.size_eq(x:yzt):x.size=(x.name.length+1)+x.value.size+1:=by rw[yzt.size]
theorem yzt.zbe(x:yzt):x.wf=(True∧x.value.wf):=by rw[yzt.wf]
theorem yzt.za3(x:yzt):x.el.cells.length=7:=by rw[yzt.z3h];rfl
theorem yzt.zsp(x:yzt):x.el = .agg x.el.cells:=by rw[yzt.z3h];rfl
theorem yzt.kin{D:Nat->Nat->Prop}(x:yzt):V.kin D x.el:=by rw[yzt.z3h];simp only[V.kin,V.zcj,and_true,true_and];exact zrb λy hy=>zz0.kin y
def yzt.ty:Ty yzt:=⟨yzt.el,7,yzt.size,yzt.wf,yzt.za3⟩
structure z02 where
 a:yz1
 b:yz1
 out:yz1
 e:Int
def z02.el(x:z02):V:=.agg [.int .i64 x.a.num,.int .i64 x.a.den,.int .i64 x.b.num,.int .i64 x.b.den,.int .i64 x.out.num,.int .i64 x.out.den,.int .i64 x.e]
def z02.size(x:z02):Nat:=x.a.size+x.b.size+x.out.size+1+1
def z02.wf(x:z02):Prop:=x.a.wf∧x.b.wf∧x.out.wf∧(IntKind.i64.min<=x.e∧x.e<=IntKind.i64.max)
theorem z02.z3h(x:z02):x.el = .agg [.int .i64 x.a.num,.int .i64 x.a.den,.int .i64 x.b.num,.int .i64 x.b.den,.int .i64 x.out.num,.int .i64 x.out.den,.int .i64 x.e]:=by rw[z02.el]
theorem z02.size_eq(x:z02):x.size=x.a.size+x.b.size+x.out.size+1+1:=by rw[z02.size]
theorem z02.zbe(x:z02):x.wf=(x.a.wf∧x.b.wf∧x.out.wf∧(IntKind.i64.min<=x.e∧x.e<=IntKind.i64.max)):=by rw[z02.wf]
theorem z02.za3(x:z02):x.el.cells.length=7:=by rw[z02.z3h];rfl
theorem z02.zsp(x:z02):x.el = .agg x.el.cells:=by rw[z02.z3h];rfl
theorem z02.kin{D:Nat->Nat->Prop}(x:z02):V.kin D x.el:=by rw[z02.z3h];simp only[V.kin,V.zcj,and_true,true_and]
def z02.ty:Ty z02:=⟨z02.el,7,z02.size,z02.wf,z02.za3⟩
abbrev GRatio_l:=List yz1
abbrev kz2:=List zz0
abbrev yz3:=List zz1
abbrev yzb:=List yzt
abbrev GCalc_l:=List z02
end Go.Ab
namespace Go.Proofs.Tryz
open Go Go.Ab
open Go.Proofs.Tryz
set_option linter.unusedSimpArgs false
@[simp] theorem ye7:Program.cellsOf prog 2=1:=by kernel_rfl
@[simp] theorem yqp:Program.cellsOf prog 4=1:=by kernel_rfl
@[simp] theorem yi1:Program.cellsOf prog 5=1:=by kernel_rfl
@[simp] theorem yia:Program.cellsOf prog 9=1:=by kernel_rfl
@[simp] theorem y8s:Program.cellsOf prog 23=2:=by kernel_rfl
@[simp] theorem ynu:Program.cellsOf prog 24=1:=by kernel_rfl
@[simp] theorem zt5:Program.cellsOf prog 26=6:=by kernel_rfl
@[simp] theorem yna:Program.cellsOf prog 27=1:=by kernel_rfl
@[simp] theorem y7q:Program.cellsOf prog 29=9:=by kernel_rfl
theorem ysc(n:Nat):Reads prog n 23 yz1.ty:=(zk3 underlying23 y8s (λm hm=>(z3r rfl ye7 (zn3 underlying2 m) (z3r rfl ye7 (zn3 underlying2 m) zos)))).conv (λx=>(⟨x.1,x.2.1⟩:yz1)) (λx=>by show yz1.el _=_;rw[yz1.z3h];simp[Ty.struct,Ty.pair,Ty.unit,Ty.int,Ty.bool,Ty.str,Ty.slice,V.cells,yz1.ty,yz1.z3h,zz0.ty,zz0.z3h,zz1.ty,zz1.z3h]) rfl (λx h=>by simp only[yz1.ty];rw[yz1.zbe];simp only[Ty.struct,Ty.pair,Ty.unit,Ty.int,Ty.bool,Ty.str,Ty.slice,yz1.ty,zz0.ty,zz1.ty]at h ⊢;simpa using h) (λx=>by simp only[Ty.struct,Ty.pair,Ty.unit,Ty.int,Ty.bool,Ty.str,Ty.slice,yz1.ty,zz0.ty,zz1.ty];rw[yz1.size_eq];(try dsimp only);omega)
theorem ylw:∀n,Reads prog n 26 zz0.ty:=λn=>by
 induction n using Nat.strongRecOn with
 |ind n ih=>exact(zk3 underlying26 zt5 (λm hm=>(z3r rfl yi1 (zn3 underlying5 m) (z3r rfl y8s (ysc m) (z3r rfl yqp (yl5 underlying4 m) (z3r rfl yia (ztz underlying9 m) (z3r rfl ynu (zvl underlying24 zt5 (by decide) (λk hk=>(ih k (by omega)))) zos))))))).conv (λx=>(⟨x.1,x.2.1,x.2.2.1,x.2.2.2.1,x.2.2.2.2.1⟩:zz0)) (λx=>by show zz0.el _=_;rw[zz0.z3h];simp[Ty.struct,Ty.pair,Ty.unit,Ty.int,Ty.bool,Ty.str,Ty.slice,V.cells,yz1.ty,yz1.z3h,zz0.ty,zz0.z3h,zz1.ty,zz1.z3h]) rfl (λx h=>by simp only[zz0.ty];rw[zz0.zbe];simp only[Ty.struct,Ty.pair,Ty.unit,Ty.int,Ty.bool,Ty.str,Ty.slice,yz1.ty,zz0.ty,zz1.ty]at h ⊢;simpa using h) (λx=>by simp only[Ty.struct,Ty.pair,Ty.unit,Ty.int,Ty.bool,Ty.str,Ty.slice,yz1.ty,zz0.ty,zz1.ty];rw[zz0.size_eq];(try dsimp only);omega)
theorem yst:∀n,Reads prog n 29 zz1.ty:=λn=>by
 induction n using Nat.strongRecOn with
 |ind n ih=>exact(zk3 underlying29 y7q (λm hm=>(z3r rfl yi1 (zn3 underlying5 m) (z3r rfl zt5 (ylw m) (z3r rfl yia (ztz underlying9 m) (z3r rfl yna (zvl underlying27 y7q (by decide) (λk hk=>(ih k (by omega)))) zos)))))).conv (λx=>(⟨x.1,x.2.1,x.2.2.1,x.2.2.2.1⟩:zz1)) (λx=>by show zz1.el _=_;rw[zz1.z3h];simp[Ty.struct,Ty.pair,Ty.unit,Ty.int,Ty.bool,Ty.str,Ty.slice,V.cells,yz1.ty,yz1.z3h,zz0.ty,zz0.z3h,zz1.ty,zz1.z3h]) rfl (λx h=>by simp only[zz1.ty];rw[zz1.zbe];simp only[Ty.struct,Ty.pair,Ty.unit,Ty.int,Ty.bool,Ty.str,Ty.slice,yz1.ty,zz0.ty,zz1.ty]at h ⊢;simpa using h) (λx=>by simp only[Ty.struct,Ty.pair,Ty.unit,Ty.int,Ty.bool,Ty.str,Ty.slice,yz1.ty,zz0.ty,zz1.ty];rw[zz1.size_eq];(try dsimp only);omega)
theorem yt3:ye9 prog 29 zz1.ty:=y0r underlying29 yst zz1.zsp
theorem arg9:ye9 prog 9 Ty.str:=ypi (λn=>(ztz underlying9 n)) (λ_=>rfl) (by rw[underlying9])
theorem arg26:ye9 prog 26 zz0.ty:=y0r underlying26 ylw zz0.zsp
end Go.Proofs.Tryz
namespace Go.Ab
open Go
set_option linter.unusedVariables false
def zz0.re(x:zz0):zz0:=⟨x.kind,x.num,x.truth,x.str,x.list⟩
@[simp] theorem zz0.yz2 (x:zz0):x.re=x:=by cases x;simp[zz0.re]
def zz1.re(x:zz1):zz1:=⟨x.op,x.value.re,x.name,x.args⟩
@[simp] theorem zz1.yz2 (x:zz1):x.re=x:=by cases x;simp[zz1.re]
def yzt.re(x:yzt):yzt:=⟨x.name,x.value.re⟩
@[simp] theorem yzt.yz2 (x:yzt):x.re=x:=by cases x;simp[yzt.re]
def datT:Nat->Type
 |0=>yz1
 |1=>zz0
 |2=>zz1
 |3=>yzt
 |4=>z02
 |_=>Unit
def y8a:Nat->List DTy
 |0=>[.int .i64,.int .i64]
 |1=>[.int .u8,.int .i64,.int .i64,.bool,.str,.sl (.st 1)]
 |2=>[.int .u8,.int .u8,.int .i64,.int .i64,.bool,.str,.sl (.st 1),.str,.sl (.st 2)]
 |3=>[.str,.int .u8,.int .i64,.int .i64,.bool,.str,.sl (.st 1)]
 |4=>[.int .i64,.int .i64,.int .i64,.int .i64,.int .i64,.int .i64,.int .i64]
 |_=>[]
def ypo:List (Nat×DTy):=[(2,.int .i64),(3,.int .i64),(4,.bool),(5,.int .u8),(6,.int .u8),(9,.str),(10,.str),(11,.str),(12,.int .u64),(21,.int .i32),(23,.st 0),(24,.sl (.st 1)),(26,.st 1),(27,.sl (.st 2)),(29,.st 2),(33,.int .i64),(59,.sl .str),(73,.sl (.st 3)),(81,.int .u64),(88,.st 3),(124,.st 4),(133,.sl (.int .i64)),(142,.int .u32),(143,.int .u8),(144,.int .u8),(147,.int .i32),(148,.int .i32)]
def datOw:Nat->Nat->Option Nat
 |2,8=>some 29
 |_,_=>none
def dat:Dat where
 T:=datT
 fl:=y8a
 get:=λi=>match i with
  |0=>λ(x:yz1)=>(x.num,x.den,())
  |1=>λ(x:zz0)=>(x.kind,x.num.num,x.num.den,x.truth,x.str,x.list,())
  |2=>λ(x:zz1)=>(x.op,x.value.kind,x.value.num.num,x.value.num.den,x.value.truth,x.value.str,x.value.list,x.name,x.args,())
  |3=>λ(x:yzt)=>(x.name,x.value.kind,x.value.num.num,x.value.num.den,x.value.truth,x.value.str,x.value.list,())
  |4=>λ(x:z02)=>(x.a.num,x.a.den,x.b.num,x.b.den,x.out.num,x.out.den,x.e,())
  |_+5=>λ_=>()
 make:=λi=>match i with
  |0=>λx=>yz1.mk x.1 x.2.1
  |1=>λx=>zz0.mk x.1 (yz1.mk x.2.1 x.2.2.1) x.2.2.2.1 x.2.2.2.2.1 x.2.2.2.2.2.1
  |2=>λx=>zz1.mk x.1 (zz0.mk x.2.1 (yz1.mk x.2.2.1 x.2.2.2.1) x.2.2.2.2.1 x.2.2.2.2.2.1 x.2.2.2.2.2.2.1) x.2.2.2.2.2.2.2.1 x.2.2.2.2.2.2.2.2.1
  |3=>λx=>yzt.mk x.1 (zz0.mk x.2.1 (yz1.mk x.2.2.1 x.2.2.2.1) x.2.2.2.2.1 x.2.2.2.2.2.1 x.2.2.2.2.2.2.1)
  |4=>λx=>z02.mk (yz1.mk x.1 x.2.1) (yz1.mk x.2.2.1 x.2.2.2.1) (yz1.mk x.2.2.2.2.1 x.2.2.2.2.2.1) x.2.2.2.2.2.2.1
  |_+5=>λ_=>()
 enc:=λi=>match i with
  |0=>yz1.el
  |1=>zz0.el
  |2=>zz1.el
  |3=>yzt.el
  |4=>z02.el
  |_+5=>λ_=>.agg []
 ty:=fnd ypo
 ow:=datOw
theorem yz4(P:Program):dat.Ok P where
 enc:=λi=>match i with
  |0=>λx=>yz1.z3h x
  |1=>λx=>zz0.z3h x
  |2=>λx=>zz1.z3h x
  |3=>λx=>yzt.z3h x
  |4=>λx=>z02.z3h x
  |_+5=>λ_=>rfl
 getMake:=λi=>match i with
  |0=>λx=>rfl
  |1=>λx=>rfl
  |2=>λx=>rfl
  |3=>λx=>rfl
  |4=>λx=>rfl
  |_+5=>λ_=>rfl
 flat:=λi=>match i with
  |0=>λt h=>by simp only[dat,y8a,Qbf,List.not_mem_nil,or_false]at h;rcases h with rfl|rfl <;> trivial
  |1=>λt h=>by simp only[dat,y8a,Qbf,List.not_mem_nil,or_false]at h;rcases h with rfl|rfl|rfl|rfl|rfl|rfl <;> trivial
  |2=>λt h=>by simp only[dat,y8a,Qbf,List.not_mem_nil,or_false]at h;rcases h with rfl|rfl|rfl|rfl|rfl|rfl|rfl|rfl|rfl <;> trivial
  |3=>λt h=>by simp only[dat,y8a,Qbf,List.not_mem_nil,or_false]at h;rcases h with rfl|rfl|rfl|rfl|rfl|rfl|rfl <;> trivial
  |4=>λt h=>by simp only[dat,y8a,Qbf,List.not_mem_nil,or_false]at h;rcases h with rfl|rfl|rfl|rfl|rfl|rfl|rfl <;> trivial
  |_+5=>λt h=>by cases h
 ty:=λe t h=>by
  have:=z3m h;simp only[ypo,Qbf,Prod.mk.injEq,List.not_mem_nil,or_false]at this
  rcases this with ⟨_,rfl⟩|⟨_,rfl⟩|⟨_,rfl⟩|⟨_,rfl⟩|⟨_,rfl⟩|⟨_,rfl⟩|⟨_,rfl⟩|⟨_,rfl⟩|⟨_,rfl⟩|⟨_,rfl⟩|⟨_,rfl⟩|⟨_,rfl⟩|⟨_,rfl⟩|⟨_,rfl⟩|⟨_,rfl⟩|⟨_,rfl⟩|⟨_,rfl⟩|⟨_,rfl⟩|⟨_,rfl⟩|⟨_,rfl⟩|⟨_,rfl⟩|⟨_,rfl⟩|⟨_,rfl⟩|⟨_,rfl⟩|⟨_,rfl⟩|⟨_,rfl⟩|⟨_,rfl⟩ <;> simp
 kin:=λi=>match i with
  |0=>λx _=>yz1.kin x
  |1=>λx _=>zz0.kin x
  |2=>λx _=>zz1.kin x
  |3=>λx _=>yzt.kin x
  |4=>λx _=>z02.kin x
  |_+5=>λ_ _=>by simp only[dat,V.kin,V.zcj]
def anb(l:List (Nat×Nat))(f:Func):AC:=(ann l (f.body.getD .skip) 0).1
abbrev dI:Sh:=.d (.int .i64)
abbrev dB:Sh:=.d .bool
abbrev dS:Sh:=.d .str
abbrev dU:Sh:=.d (.int .u8)
abbrev dA:Sh:=.d (.sl .str)
abbrev dT(i:Nat):Sh:=.d (.st i)
abbrev dL(i:Nat):Sh:=.d (.sl (.st i))
abbrev Ot:=Option
theorem tr{α:Type}{a b c:α}(h:a=b)(k:b=c:=by kernel_rfl):a=c:=h.trans k
def u1{a r x:Type}(f:a->r)(y:a×x):r:=f y.1
def u2{a b r x:Type}(f:a->b->r)(y:a×b×x):r:=u1 (f y.1) y.2
def u3{a b c r x:Type}(f:a->b->c->r)(y:a×b×c×x):r:=u2 (f y.1) y.2
def u4{a b c d r x:Type}(f:a->b->c->d->r)(y:a×b×c×d×x):r:=u3 (f y.1) y.2
def u5{a b c d e r x:Type}(f:a->b->c->d->e->r)(y:a×b×c×d×e×x):r:=u4 (f y.1) y.2
def u6{a b c d e g r x:Type}(f:a->b->c->d->e->g->r)(y:a×b×c×d×e×g×x):r:=u5 (f y.1) y.2
def u7{a b c d e g h r x:Type}(f:a->b->c->d->e->g->h->r)(y:a×b×c×d×e×g×h×x):r:=u6 (f y.1) y.2
def u8{a b c d e g h i r x:Type}(f:a->b->c->d->e->g->h->i->r)(y:a×b×c×d×e×g×h×i×x):r:=u7 (f y.1) y.2
def u9{a b c d e g h i j r x:Type}(f:a->b->c->d->e->g->h->i->j->r)(y:a×b×c×d×e×g×h×i×j×x):r:=u8 (f y.1) y.2
def u10{a b c d e g h i j k r x:Type}(f:a->b->c->d->e->g->h->i->j->k->r)(y:a×b×c×d×e×g×h×i×j×k×x):r:=u9 (f y.1) y.2
def u11{a b c d e g h i j k l r x:Type}(f:a->b->c->d->e->g->h->i->j->k->l->r)(y:a×b×c×d×e×g×h×i×j×k×l×x):r:=u10 (f y.1) y.2
def u12{a b c d e g h i j k l m r x:Type}(f:a->b->c->d->e->g->h->i->j->k->l->m->r)(y:a×b×c×d×e×g×h×i×j×k×l×m×x):r:=u11 (f y.1) y.2
theorem okG{R:Type}{P:Program}{D:Dat}{hD:D.Ok P}{f nt p:Nat}{args:List Sh}{aos:List OSh}{outs:List Sh}{ros:List OSh}{pure:Bool}{l:LSh}{pack:HL D.T l.tys->R}{un:R->HL D.T (Sh.z0r outs++yzq ros)}
  {go:Nat->HL D.T (Sh.z0r args++yzq aos)->Option R} {z1l:Nat->List (Nat×Lb D R)}{c:AC}{gs:List Nat}{fn:Func}{bs:List (FI D)}(hbs:OkL P bs)
  (hf:P.funcs[f]? = some fn) (hnt:fn.ntmps=nt) (hent:∀args w,(callFunc f args).run P w = .ok (.enter f args) w)
  (hs:∀n x,go (n+1) x=run P D (tb bs n) (jump D (z1l n)) c (entry D args aos nt gs x) (zmq D l pack))
  (hls:∀n,zp6 (λj lb=>∀x,lb.go x=zoz P D (tb bs n) (jump D (z1l n)) j c (zmq D l pack) (lb.sh.bld D x)) (z1l (n+1)))
  (hb:fn.body=some c.erase) (hnd:decide c.labels.Nodup=true) (hchk:yn9 p nt args outs aos ros pure l c gs=true) (hp:∀n,zvj p (z1l n)=true)
  (hout:∀x,zpa P D (l.bld D x) fn.results.toList=some (z01 D (λk=>k) outs (HL.fst _ (un (pack x)))))
  (hz:∀x,go 0 x=none) (hlz:zp6 (λ_ lb=>∀x,lb.go x=none) (z1l 0))
  (hros:∀x,pure=true∨(l.bld D x).o=z1g D (λk=>k) ros 0 (HL.snd _ (un (pack x)))) (hrng:c.zfz=[]) :
  FOk P (FI.of D f nt p args aos outs ros pure l pack un go z1l c gs) :=
 (zh2 hD hbs (FI.kzd (hD:=hD) hf hnt hent hb (Qac hnd) hchk hp hout hz hlz hs hls hros hrng)).1
theorem okF{R:Type}{f nt p:Nat}{args:List Sh}{aos:List OSh}{outs:List Sh}{ros:List OSh}{pure:Bool}{l:LSh}{pack:HL dat.T l.tys->R}{un:R->HL dat.T (Sh.z0r outs++yzq ros)}
  {go:Nat->HL dat.T (Sh.z0r args++yzq aos)->Option R} {z1l:Nat->List (Nat×Lb dat R)}{c:AC}{gs:List Nat}{fn:Func}{P:Program}{bs:List (FI dat)}(hbs:OkL P bs)
  (hf:P.funcs[f]? = some fn) (hnt:fn.ntmps=nt) (hent:∀args w,(callFunc f args).run P w = .ok (.enter f args) w)
  (hs:∀n x,go (n+1) x=run P dat (tb bs n) (jump dat (z1l n)) c (entry dat args aos nt gs x) (zmq dat l pack))
  (hls:∀n,zp6 (λj lb=>∀x,lb.go x=zoz P dat (tb bs n) (jump dat (z1l n)) j c (zmq dat l pack) (lb.sh.bld dat x)) (z1l (n+1)))
  (hb:fn.body=some c.erase:=by kernel_rfl) (hnd:decide c.labels.Nodup=true:=by kernel_rfl) (hchk:yn9 p nt args outs aos ros pure l c gs=true:=by kernel_rfl) (hp:∀n,zvj p (z1l n)=true:=by exact λn=>by kernel_rfl)
  (hout:∀x,zpa P dat (l.bld dat x) fn.results.toList=some (z01 dat (λk=>k) outs (HL.fst _ (un (pack x)))):=by exact λx=>by kernel_rfl)
  (hz:∀x,go 0 x=none:=by exact λ_=>rfl) (hlz:zp6 (λ_ lb=>∀x,lb.go x=none) (z1l 0):=by repeat (first|exact trivial|refine⟨λ_=>rfl,?_⟩))
  (hros:∀x,pure=true∨(l.bld dat x).o=z1g dat (λk=>k) ros 0 (HL.snd _ (un (pack x))):=by first|exact λx=>.inl rfl|exact λx=>.inr (by kernel_rfl)) (hrng:c.zfz=[]:=by kernel_rfl) :
  FOk P (FI.of dat f nt p args aos outs ros pure l pack un go z1l c gs) :=
 okG (hD:=yz4 P) hbs hf hnt hent hs hls hb hnd hchk hp hout hz hlz hros hrng
end Go.Ab
namespace Go.Proofs
open Go.Shelf
open Go.Proofs.Tryz
def yf7:Go.Shelf.Ren:=⟨λ|213=>123|265=>125|n=>n,λ|9=>9|3=>3|n=>n,λ|n=>n⟩
theorem ysq:Go.Proofs.Lays.n213 prog yf7:={
 mixed:=by kernel_rfl
 f213:=func123.trans (congrArg some (by kernel_rfl))
 f265:=func125.trans (congrArg some (by kernel_rfl))
 t3:=underlying3
 a3:=isAgg3
 z3:=sizeOf3
 v3:=zeroValue3
 t9:=underlying9
 a9:=isAgg9
 z9:=sizeOf9
 v9:=zeroValue9}
end Go.Proofs
namespace Go.Proofs.YtcaehabdaleamaaGreat
open Go Go.Ab Go.Proofs
open Go.Proofs.Tryz
set_option linter.unusedVariables false
def z15:Nat->B8->B8->Option Int:=λ_ a b=>some (Lib.compareBytes a b)
def zc4:LSh:=⟨[(4,(.d (.int .i64)))],[],0,8,[]⟩
noncomputable def z5x:FI dat:=FI.of dat 123 8 0 [(.d .str),(.d .str)] [] [(.d (.int .i64))] [] true zc4 (R:=Int) (λx=>x.1) (λr=>(r,())) (λn x=>z15 n x.1 x.2.1)
 (λn=>[]) .skip
theorem ytm(a b:B8):y2w prog 123 [.str a,.str b] (.int .i64 (Lib.compareBytes a b)):=λH W g cargs hG hA=>by
 obtain⟨x,y,rfl,h0,h1⟩:=args2 hA;cases h0;cases h1;have c:=Any.bytealg_CompareString ysq ⟨a.toArray⟩ ⟨b.toArray⟩ W;refine .inl ⟨call123 _ _,c.mono λe W' ⟨h1,h2⟩ =>?_⟩;subst h1;subst h2;exact⟨_,g,rfl,.refl _ _ _,hG,.int _ _⟩
theorem zbm:FOk prog z5x:=λn R x k kp r h=>by
 refine⟨(Lib.compareBytes x.1 x.2.1,()),h,rfl,rfl,rfl,λlv vargs ha=>⟨[.int .i64 (Lib.compareBytes x.1 x.2.1)],λρ lv' =>?_,?_⟩⟩;show VRL dat ρ lv' [TV.int .i64 (Lib.compareBytes x.1 x.2.1)] _;simp only[VRL,VR];exact⟨_,_,rfl,rfl,rfl⟩;have ha:VRL dat [] lv [TV.str x.1,TV.str x.2.1] vargs:=ha;simp only[VRL,VR]at ha;obtain⟨v,r1,rfl,rfl,v2,r2,rfl,rfl,rfl⟩:=ha;exact ytm _ _
end Go.Proofs.YtcaehabdaleamaaGreat
namespace Go.Proofs.YtcaehabdaleamaaGreat
open Go Go.Ab
open Go.Proofs.Tryz
set_option linter.unusedVariables false
set_option maxRecDepth 100000
set_option maxHeartbeats 4000000
mutual
def z5f:Nat->zz0->Int->Ot Bool
 |0,_,_=>none
 |n+1,a,b=>
  pIf (b==0)
   (z0d n b true a.re)
   (pIf (decide ((a.str.length:Int)>200))
     (z0d n b true a.re)
     (z0d n b (decide ((a.list.length:Int)>150)) a.re))
def z0d:Nat->Int->Bool->zz0->Ot Bool
 |0,_,_,_=>none
 |n+1,a,b,c=>
  pIf b
   (some true)
   (z1v n 0 a c.re)
def z1v:Nat->Int->Int->zz0->Ot Bool
 |0,_,_,_=>none
 |n+1,a,b,c=>
  pIf (decide (a<(c.list.length:Int)))
   ((ix c.list a).bind λx0=>
   (z5f n x0.re (IntKind.i64.wrap (b-1))).bind λy1=>
   pIf y1
    (some true)
    (z1v n (IntKind.i64.wrap (a+1)) b c.re))
   (some false)
end
def y3n:LSh:=⟨[(4,dB)],[],0,35,[]⟩
noncomputable def zar:FI dat:=FI.of dat 17 35 0 [dT 1,dI] [] [dB] [] true y3n (R:=Bool) Prod.fst (·,()) (λn=>u2 (z5f n))
 (λn=>[(0,⟨⟨[(1,dI),(2,(.ptr 0 0)),(19,dB)],[(.st 1)],0,35,[]⟩,u3 (z0d n)⟩),(1,⟨⟨[(5,dI),(1,dI),(2,(.ptr 0 0))],[(.st 1)],0,35,[]⟩,u3 (z1v n)⟩)]) (anb [(5,0),(14,1)] f17)
noncomputable def y6t:List (FI dat):=[zar]++[]
theorem y5z:(zar).Good prog dat (tb y6t):=FI.kzd (hD:=yz4 _) func17 ntmps17 call17 (by kernel_rfl) (Qac (by kernel_rfl)) (by kernel_rfl) (λn=>by kernel_rfl) (λx=>by kernel_rfl) (λ_=>rfl) ⟨λ_=>rfl,λ_=>rfl,trivial⟩
 (λ_ _=>tr (z5f.eq_2 ..))
 (λn=>⟨λ_=>tr (z0d.eq_2 ..),
  λ_=>tr (z1v.eq_2 ..),
  trivial⟩)
 (λx=>.inl rfl)
theorem y5w:OkL prog [zar]:=yzh (yz4 _) (bs:=[]) trivial ⟨y5z,trivial⟩
theorem zyt:FOk prog zar:=y5w.1
mutual
def z1i:Nat->zz0->Ot Int
 |0,_=>none
 |n+1,a=>
  z1k n 0 1 a.re
def z1k:Nat->Int->Int->zz0->Ot Int
 |0,_,_,_=>none
 |n+1,a,b,c=>
  pIf (decide (a<(c.list.length:Int)))
   (z1u n a b (c.kind==4) c.re)
   (z1u n a b false c.re)
def z1u:Nat->Int->Int->Bool->zz0->Ot Int
 |0,_,_,_,_=>none
 |n+1,a,b,c,d=>
  pIf c
   ((ix d.list a).bind λx0=>
   (z1i n x0.re).bind λy1=>
   z1k n (IntKind.i64.wrap (a+1)) (IntKind.i64.wrap (b+y1)) d.re)
   (some b)
end
def y62:LSh:=⟨[(2,dI)],[],0,26,[]⟩
noncomputable def z6b:FI dat:=FI.of dat 18 26 0 [dT 1] [] [dI] [] true y62 (R:=Int) Prod.fst (·,()) (λn=>u1 (z1i n))
 (λn=>[(0,⟨⟨[(4,dI),(1,(.ptr 0 0)),(3,dI)],[(.st 1)],0,26,[]⟩,u3 (z1k n)⟩),(1,⟨⟨[(1,(.ptr 0 0)),(4,dI),(3,dI),(14,dB)],[(.st 1)],0,26,[]⟩,u4 (z1u n)⟩)]) (anb [(8,0),(12,1)] f18)
noncomputable def y3x:List (FI dat):=[z6b]++[]
theorem y7c:(z6b).Good prog dat (tb y3x):=FI.kzd (hD:=yz4 _) func18 ntmps18 call18 (by kernel_rfl) (Qac (by kernel_rfl)) (by kernel_rfl) (λn=>by kernel_rfl) (λx=>by kernel_rfl) (λ_=>rfl) ⟨λ_=>rfl,λ_=>rfl,trivial⟩
 (λ_ _=>tr (z1i.eq_2 ..))
 (λn=>⟨λ_=>tr (z1k.eq_2 ..),
  λ_=>tr (z1u.eq_2 ..),
  trivial⟩)
 (λx=>.inl rfl)
theorem y6l:OkL prog [z6b]:=yzh (yz4 _) (bs:=[]) trivial ⟨y7c,trivial⟩
theorem zfs:FOk prog z6b:=y6l.1
def z5d:Nat->zz0->Ot Bool
 |0,_=>none
 |n+1,a=>
  (z5f n a.re 10).bind λy0=>
  pIf y0
   (some true)
   ((z1i n a.re).bind λy1=>
   some (decide (y1>150)))
def y5b:LSh:=⟨[(2,dB)],[],0,10,[]⟩
noncomputable def zdb:FI dat:=FI.of dat 5 10 0 [dT 1] [] [dB] [] true y5b (R:=Bool) Prod.fst (·,()) (λn=>u1 (z5d n))
 (λn=>[]) (anb [] f5)
theorem zm8:FOk prog zdb:=okF (bs:=[zar,z6b]) ⟨zyt,zfs,trivial⟩ func5 ntmps5 call5
 (λ_ _=>tr (z5d.eq_2 ..))
 (λn=>trivial)
mutual
def z5a:Nat->zz1->Int->Ot Bool
 |0,_,_=>none
 |n+1,a,b=>
  pIf (b==0)
   (zzs n b true a.re)
   (pIf (decide ((a.args.length:Int)>150))
     (zzs n b true a.re)
     (pIf (decide ((a.name.length:Int)>200))
       (zzs n b true a.re)
       ((z5d n a.value.re).bind λy0=>
       zzs n b y0 a.re)))
def zzs:Nat->Int->Bool->zz1->Ot Bool
 |0,_,_,_=>none
 |n+1,a,b,c=>
  pIf b
   (some true)
   (z1q n 0 a c.re)
def z1q:Nat->Int->Int->zz1->Ot Bool
 |0,_,_,_=>none
 |n+1,a,b,c=>
  pIf (decide (a<(c.args.length:Int)))
   ((ix c.args a).bind λx1=>
   (z5a n x1.re (IntKind.i64.wrap (b-1))).bind λy2=>
   pIf y2
    (some true)
    (z1q n (IntKind.i64.wrap (a+1)) b c.re))
   (some false)
end
def y4r:LSh:=⟨[(4,dB)],[],0,40,[]⟩
noncomputable def zal:FI dat:=FI.of dat 15 40 0 [dT 2,dI] [] [dB] [] true y4r (R:=Bool) Prod.fst (·,()) (λn=>u2 (z5a n))
 (λn=>[(0,⟨⟨[(1,dI),(2,(.ptr 0 0)),(24,dB)],[(.st 2)],0,40,[]⟩,u3 (zzs n)⟩),(1,⟨⟨[(5,dI),(1,dI),(2,(.ptr 0 0))],[(.st 2)],0,40,[]⟩,u3 (z1q n)⟩)]) (anb [(5,0),(14,1)] f15)
noncomputable def y64:List (FI dat):=[zal]++[zdb]
theorem y5y:(zal).Good prog dat (tb y64):=FI.kzd (hD:=yz4 _) func15 ntmps15 call15 (by kernel_rfl) (Qac (by kernel_rfl)) (by kernel_rfl) (λn=>by kernel_rfl) (λx=>by kernel_rfl) (λ_=>rfl) ⟨λ_=>rfl,λ_=>rfl,trivial⟩
 (λ_ _=>tr (z5a.eq_2 ..))
 (λn=>⟨λ_=>tr (zzs.eq_2 ..),
  λ_=>tr (z1q.eq_2 ..),
  trivial⟩)
 (λx=>.inl rfl)
theorem y6u:OkL prog [zal]:=yzh (yz4 _) (bs:=[zdb]) ⟨zm8,trivial⟩ ⟨y5y,trivial⟩
theorem zyj:FOk prog zal:=y6u.1
mutual
def z3u:Nat->zz1->Ot Int
 |0,_=>none
 |n+1,a=>
  z1w n 0 1 a.re
def z1w:Nat->Int->Int->zz1->Ot Int
 |0,_,_,_=>none
 |n+1,a,b,c=>
  pIf (decide (a<(c.args.length:Int)))
   ((ix c.args a).bind λx0=>
   (z3u n x0.re).bind λy1=>
   z1w n (IntKind.i64.wrap (a+1)) (IntKind.i64.wrap (b+y1)) c.re)
   (some b)
end
def y5x:LSh:=⟨[(2,dI)],[],0,21,[]⟩
noncomputable def z8e:FI dat:=FI.of dat 16 21 0 [dT 2] [] [dI] [] true y5x (R:=Int) Prod.fst (·,()) (λn=>u1 (z3u n))
 (λn=>[(0,⟨⟨[(4,dI),(1,(.ptr 0 0)),(3,dI)],[(.st 2)],0,21,[]⟩,u3 (z1w n)⟩)]) (anb [(8,0)] f16)
noncomputable def y6j:List (FI dat):=[z8e]++[]
theorem y4l:(z8e).Good prog dat (tb y6j):=FI.kzd (hD:=yz4 _) func16 ntmps16 call16 (by kernel_rfl) (Qac (by kernel_rfl)) (by kernel_rfl) (λn=>by kernel_rfl) (λx=>by kernel_rfl) (λ_=>rfl) ⟨λ_=>rfl,trivial⟩
 (λ_ _=>tr (z3u.eq_2 ..))
 (λn=>⟨λ_=>tr (z1w.eq_2 ..),
  trivial⟩)
 (λx=>.inl rfl)
theorem y5s:OkL prog [z8e]:=yzh (yz4 _) (bs:=[]) trivial ⟨y4l,trivial⟩
theorem zl4:FOk prog z8e:=y5s.1
def z5c:Nat->zz1->Ot Bool
 |0,_=>none
 |n+1,a=>
  (z5a n a.re 16).bind λy0=>
  pIf y0
   (some true)
   ((z3u n a.re).bind λy1=>
   some (decide (y1>150)))
def y3i:LSh:=⟨[(2,dB)],[],0,10,[]⟩
noncomputable def zo3:FI dat:=FI.of dat 4 10 0 [dT 2] [] [dB] [] true y3i (R:=Bool) Prod.fst (·,()) (λn=>u1 (z5c n))
 (λn=>[]) (anb [] f4)
theorem y2e:FOk prog zo3:=okF (bs:=[zal,z8e]) ⟨zyj,zl4,trivial⟩ func4 ntmps4 call4
 (λ_ _=>tr (z5c.eq_2 ..))
 (λn=>trivial)
mutual
def z3k:Nat->zz0->Ot zz0
 |0,_=>none
 |n+1,a=>
  z3g n 0 a.kind a.num.num a.num.den a.truth a.str a.re 0 0 0 false [] [] []
def z3g:Nat->Int->Int->Int->Int->Bool->B8->zz0->Int->Int->Int->Bool->B8->kz2->kz2->Ot zz0
 |0,_,_,_,_,_,_,_,_,_,_,_,_,_,_=>none
 |n+1,a,b,c,d,e,f,g,h,i,j,k,l,m,o=>
  pIf (decide (a<(g.list.length:Int)))
   ((ix g.list a).bind λx0=>
   (z3k n x0.re).bind λy1=>
   (ext m [y1.re]).bind λx2=>
   z3g n (IntKind.i64.wrap (a+1)) b c d e f g.re h i j k l x2 o)
   (some (zz0.mk b (yz1.mk c d) e f m))
end
def y9u:LSh:=⟨[(2,(.ptr 0 0))],[(.st 1)],0,26,[]⟩
noncomputable def z5z:FI dat:=FI.of dat 19 26 0 [dT 1] [] [dT 1] [] true y9u (R:=zz0) Prod.fst (·,()) (λn=>u1 (z3k n))
 (λn=>[(0,⟨⟨[(4,dI),(3,(.ptr 0 0)),(1,(.ptr 1 0)),(2,(.ptr 2 0))],[(.cells [dU,dI,dI,dB,dS,(.own 3)]),(.st 1),(.cells [dU,dI,dI,dB,dS,(.own 4)]),(.acc 26 (.st 1) true),(.acc 26 (.st 1) true)],0,26,[]⟩,λx=>z3g n x.1 x.2.1 x.2.2.1 x.2.2.2.1 x.2.2.2.2.1 x.2.2.2.2.2.1 x.2.2.2.2.2.2.1 x.2.2.2.2.2.2.2.1 x.2.2.2.2.2.2.2.2.1 x.2.2.2.2.2.2.2.2.2.1 x.2.2.2.2.2.2.2.2.2.2.1 x.2.2.2.2.2.2.2.2.2.2.2.1 x.2.2.2.2.2.2.2.2.2.2.2.2.1 x.2.2.2.2.2.2.2.2.2.2.2.2.2.1⟩)]) (anb [(10,0)] f19)
noncomputable def yal:List (FI dat):=[z5z]++[]
theorem ydb:(z5z).Good prog dat (tb yal):=FI.kzd (hD:=yz4 _) func19 ntmps19 call19 (by kernel_rfl) (Qac (by kernel_rfl)) (by kernel_rfl) (λn=>by kernel_rfl) (λx=>by kernel_rfl) (λ_=>rfl) ⟨λ_=>rfl,trivial⟩
 (λ_ _=>tr (z3k.eq_2 ..))
 (λn=>⟨λ_=>tr (z3g.eq_2 ..),
  trivial⟩)
 (λx=>.inl rfl)
theorem ybq:OkL prog [z5z]:=yzh (yz4 _) (bs:=[]) trivial ⟨ydb,trivial⟩
theorem zh9:FOk prog z5z:=ybq.1
mutual
def z69:Nat->zz1->Ot zz1
 |0,_=>none
 |n+1,a=>
  (z3k n a.value.re).bind λy0=>
  z3c n 0 a.op y0.kind y0.num.num y0.num.den y0.truth y0.str y0.list a.name a.re 0 0 0 0 false [] [] [] [] []
def z3c:Nat->Int->Int->Int->Int->Int->Bool->B8->kz2->B8->zz1->Int->Int->Int->Int->Bool->B8->kz2->B8->yz3->yz3->Ot zz1
 |0,_,_,_,_,_,_,_,_,_,_,_,_,_,_,_,_,_,_,_,_=>none
 |n+1,a,b,c,d,e,f,g,h,i,j,k,l,m,o,p,q,r,s,t,u=>
  pIf (decide (a<(j.args.length:Int)))
   ((ix j.args a).bind λx1=>
   (z69 n x1.re).bind λy2=>
   (ext t [y2.re]).bind λx3=>
   z3c n (IntKind.i64.wrap (a+1)) b c d e f g h i j.re k l m o p q r s x3 u)
   (some (zz1.mk b (zz0.mk c (yz1.mk d e) f g h) i t))
end
def ydt:LSh:=⟨[(2,(.ptr 0 0))],[(.st 2)],0,32,[]⟩
noncomputable def zcm:FI dat:=FI.of dat 6 32 0 [dT 2] [] [dT 2] [] true ydt (R:=zz1) Prod.fst (·,()) (λn=>u1 (z69 n))
 (λn=>[(0,⟨⟨[(4,dI),(3,(.ptr 0 0)),(1,(.ptr 1 0)),(2,(.ptr 2 0))],[(.cells [dU,dU,dI,dI,dB,dS,dL 1,dS,(.own 3)]),(.st 2),(.cells [dU,dU,dI,dI,dB,dS,dL 1,dS,(.own 4)]),(.acc 29 (.st 2) true),(.acc 29 (.st 2) true)],0,32,[]⟩,λx=>z3c n x.1 x.2.1 x.2.2.1 x.2.2.2.1 x.2.2.2.2.1 x.2.2.2.2.2.1 x.2.2.2.2.2.2.1 x.2.2.2.2.2.2.2.1 x.2.2.2.2.2.2.2.2.1 x.2.2.2.2.2.2.2.2.2.1 x.2.2.2.2.2.2.2.2.2.2.1 x.2.2.2.2.2.2.2.2.2.2.2.1 x.2.2.2.2.2.2.2.2.2.2.2.2.1 x.2.2.2.2.2.2.2.2.2.2.2.2.2.1 x.2.2.2.2.2.2.2.2.2.2.2.2.2.2.1 x.2.2.2.2.2.2.2.2.2.2.2.2.2.2.2.1 x.2.2.2.2.2.2.2.2.2.2.2.2.2.2.2.2.1 x.2.2.2.2.2.2.2.2.2.2.2.2.2.2.2.2.2.1 x.2.2.2.2.2.2.2.2.2.2.2.2.2.2.2.2.2.2.1 x.2.2.2.2.2.2.2.2.2.2.2.2.2.2.2.2.2.2.2.1⟩)]) (anb [(8,0)] f6)
noncomputable def yc8:List (FI dat):=[zcm]++[z5z]
theorem ycb:(zcm).Good prog dat (tb yc8):=FI.kzd (hD:=yz4 _) func6 ntmps6 call6 (by kernel_rfl) (Qac (by kernel_rfl)) (by kernel_rfl) (λn=>by kernel_rfl) (λx=>by kernel_rfl) (λ_=>rfl) ⟨λ_=>rfl,trivial⟩
 (λ_ _=>tr (z69.eq_2 ..))
 (λn=>⟨λ_=>tr (z3c.eq_2 ..),
  trivial⟩)
 (λx=>.inl rfl)
theorem ybp:OkL prog [zcm]:=yzh (yz4 _) (bs:=[z5z]) ⟨zh9,trivial⟩ ⟨ycb,trivial⟩
theorem y4x:FOk prog zcm:=ybp.1
mutual
def z4d:Nat->zz1->Ot (Int×Int)
 |0,_=>none
 |n+1,a=>
  z0o n 0 1 1 a.args (a.args.length:Int)
def z0o:Nat->Int->Int->Int->yz3->Int->Ot (Int×Int)
 |0,_,_,_,_,_=>none
 |n+1,a,b,c,d,e=>
  pIf (decide (a<e))
   ((ix d a).bind λx0=>
   (z4d n x0.re).bind λy1=>
   z0o n (IntKind.i64.wrap (a+1)) (mxI b (IntKind.i64.wrap (y1.2+1))) (IntKind.i64.wrap (c+y1.1)) d e)
   (some (c,b))
end
def y0f:LSh:=⟨[(2,dI),(3,dI)],[],0,30,[]⟩
noncomputable def z9c:FI dat:=FI.of dat 37 30 0 [dT 2] [] [dI,dI] [] true y0f (R:=Int×Int) (λx=>(x.1,x.2.1)) (λr=>(r.1,r.2,())) (λn=>u1 (z4d n))
 (λn=>[(0,⟨⟨[(11,dI),(3,dI),(2,dI),(9,dL 2),(10,dI)],[],0,30,[]⟩,u5 (z0o n)⟩)]) (anb [(8,0)] f37)
noncomputable def y01:List (FI dat):=[z9c]++[]
theorem y2f:(z9c).Good prog dat (tb y01):=FI.kzd (hD:=yz4 _) func37 ntmps37 call37 (by kernel_rfl) (Qac (by kernel_rfl)) (by kernel_rfl) (λn=>by kernel_rfl) (λx=>by kernel_rfl) (λ_=>rfl) ⟨λ_=>rfl,trivial⟩
 (λ_ _=>tr (z4d.eq_2 ..))
 (λn=>⟨λ_=>tr (z0o.eq_2 ..),
  trivial⟩)
 (λx=>.inl rfl)
theorem zyz:OkL prog [z9c]:=yzh (yz4 _) (bs:=[]) trivial ⟨y2f,trivial⟩
theorem zw5:FOk prog z9c:=zyz.1
mutual
def z84:Nat->Int->Ot Int
 |0,_=>none
 |n+1,a=>
  pIf (a==12)
   (kzm n 3)
   (pIf (a==3)
     (kzf n (-2) a true)
     (pIf (a==4)
       (kzf n (-2) a true)
       (pIf (a==5)
         (kzf n (-2) a true)
         (pIf (a==6)
           (kzf n (-2) a true)
           (pIf (a==7)
             (kzf n (-2) a true)
             (pIf (a==8)
               (kzf n (-2) a true)
               (pIf (a==9)
                 (kzf n (-2) a true)
                 (kzf n (-2) a (a==10)))))))))
def kzf:Nat->Int->Int->Bool->Ot Int
 |0,_,_,_=>none
 |n+1,a,b,c=>
  pIf c
   (z4w n)
   (pIf (b==13)
     (z2k n a b true)
     (pIf (b==14)
       (z2k n a b true)
       (z2k n a b (b==17))))
def z2k:Nat->Int->Int->Bool->Ot Int
 |0,_,_,_=>none
 |n+1,a,b,c=>
  pIf c
   (z4w n)
   (pIf (b==11)
     (z2f n a b true)
     (pIf (b==15)
       (z2f n a b true)
       (z2f n a b (b==16))))
def z2f:Nat->Int->Int->Bool->Ot Int
 |0,_,_,_=>none
 |n+1,a,b,c=>
  pIf c
   (kzm n 1)
   (pIf (b==1)
     (z52 n a b true)
     (z52 n a b (b==2)))
def z52:Nat->Int->Int->Bool->Ot Int
 |0,_,_,_=>none
 |n+1,a,b,c=>
  pIf c
   (kzm n 0)
   (pIf (b==18)
     (kzm n (-1))
     (kzm n a))
def z4w:Nat->Option Int
 |0=>none
 |n+1=>
  kzm n 2
def kzm:Nat->Int->Ot Int
 |0,_=>none
 |n+1,a=>
  some a
end
def ycw:LSh:=⟨[(2,dI)],[],0,30,[]⟩
noncomputable def zjy:FI dat:=FI.of dat 53 30 0 [dU] [] [dI] [] true ycw (R:=Int) Prod.fst (·,()) (λn=>u1 (z84 n))
 (λn=>[(0,⟨⟨[(3,dI),(4,dU),(7,dB)],[],0,30,[]⟩,u3 (kzf n)⟩),(1,⟨⟨[(3,dI),(4,dU),(16,dB)],[],0,30,[]⟩,u3 (z2k n)⟩),(2,⟨⟨[(3,dI),(4,dU),(20,dB)],[],0,30,[]⟩,u3 (z2f n)⟩),(3,⟨⟨[(3,dI),(4,dU),(24,dB)],[],0,30,[]⟩,u3 (z52 n)⟩),(4,⟨⟨[],[],0,30,[]⟩,λx=>z4w n⟩),(5,⟨⟨[(3,dI)],[],0,30,[]⟩,u1 (kzm n)⟩)]) (anb [(57,0),(71,1),(85,2),(95,3),(107,4),(119,5)] f53)
theorem y5i:FOk prog zjy:=okF (bs:=[]) trivial func53 ntmps53 call53
 (λ_ _=>tr (z84.eq_2 ..))
 (λn=>⟨λ_=>tr (kzf.eq_2 ..),
  λ_=>tr (z2k.eq_2 ..),
  λ_=>tr (z2f.eq_2 ..),
  λ_=>tr (z52.eq_2 ..),
  λx=>(z4w.eq_2 n).trans (by kernel_rfl),
  λ_=>tr (kzm.eq_2 _ n),
  trivial⟩)
mutual
def kzz:Nat->zz0->Ot (Int×Int)
 |0,_=>none
 |n+1,a=>
  pIf (a.kind==4)
   (z0c n 0 1 1 a.list (a.list.length:Int))
   (z05 n 1 1)
def z0c:Nat->Int->Int->Int->kz2->Int->Ot (Int×Int)
 |0,_,_,_,_,_=>none
 |n+1,a,b,c,d,e=>
  pIf (decide (a<e))
   ((ix d a).bind λx0=>
   (kzz n x0.re).bind λy1=>
   z0c n (IntKind.i64.wrap (a+1)) (mxI b (IntKind.i64.wrap (y1.2+1))) (IntKind.i64.wrap (c+y1.1)) d e)
   (z05 n b c)
def z05:Nat->Int->Int->Ot (Int×Int)
 |0,_,_=>none
 |n+1,a,b=>
  some (b,a)
end
def zwl:LSh:=⟨[(2,dI),(3,dI)],[],0,33,[]⟩
noncomputable def z5s:FI dat:=FI.of dat 40 33 0 [dT 1] [] [dI,dI] [] true zwl (R:=Int×Int) (λx=>(x.1,x.2.1)) (λr=>(r.1,r.2,())) (λn=>u1 (kzz n))
 (λn=>[(0,⟨⟨[(14,dI),(3,dI),(2,dI),(12,dL 1),(13,dI)],[],0,33,[]⟩,u5 (z0c n)⟩),(1,⟨⟨[(3,dI),(2,dI)],[],0,33,[]⟩,u2 (z05 n)⟩)]) (anb [(11,0),(29,1)] f40)
noncomputable def zx3:List (FI dat):=[z5s]++[]
theorem zw9:(z5s).Good prog dat (tb zx3):=FI.kzd (hD:=yz4 _) func40 ntmps40 call40 (by kernel_rfl) (Qac (by kernel_rfl)) (by kernel_rfl) (λn=>by kernel_rfl) (λx=>by kernel_rfl) (λ_=>rfl) ⟨λ_=>rfl,λ_=>rfl,trivial⟩
 (λ_ _=>tr (kzz.eq_2 ..))
 (λn=>⟨λ_=>tr (z0c.eq_2 ..),
  λ_=>tr (z05.eq_2 _ _ n),
  trivial⟩)
 (λx=>.inl rfl)
theorem zwg:OkL prog [z5s]:=yzh (yz4 _) (bs:=[]) trivial ⟨zw9,trivial⟩
theorem zik:FOk prog z5s:=zwg.1
def z3n:Nat->Int->Ot Int
 |0,_=>none
 |n+1,a=>
  pIf (decide (a<0))
   (some (IntKind.u64.wrap (0-(IntKind.u64.wrap a))))
   (some (IntKind.u64.wrap a))
def yae:LSh:=⟨[(2,(.d (.int .u64)))],[],0,10,[]⟩
noncomputable def zje:FI dat:=FI.of dat 68 10 0 [dI] [] [(.d (.int .u64))] [] true yae (R:=Int) Prod.fst (·,()) (λn=>u1 (z3n n))
 (λn=>[]) (anb [] f68)
theorem zoa:FOk prog zje:=okF (bs:=[]) trivial func68 ntmps68 call68
 (λn=>λ_=>tr (z3n.eq_2 _ n))
 (λn=>trivial)
mutual
def z7v:Nat->Int->Int->Ot Int
 |0,_,_=>none
 |n+1,a,b=>
  z4a n b a
def z4a:Nat->Int->Int->Ot Int
 |0,_,_=>none
 |n+1,a,b=>
  pIf (a != 0)
   ((rem .u64 b a).bind λx0=>
   z4a n x0 a)
   (some b)
end
def yef:LSh:=⟨[(4,(.d (.int .u64)))],[],0,12,[]⟩
noncomputable def zm0:FI dat:=FI.of dat 69 12 0 [(.d (.int .u64)),(.d (.int .u64))] [] [(.d (.int .u64))] [] true yef (R:=Int) Prod.fst (·,()) (λn=>u2 (z7v n))
 (λn=>[(0,⟨⟨[(1,(.d (.int .u64))),(0,(.d (.int .u64)))],[],0,12,[]⟩,u2 (z4a n)⟩)]) (anb [(4,0)] f69)
theorem zrg:FOk prog zm0:=okF (bs:=[]) trivial func69 ntmps69 call69
 (λ_ _=>tr (z7v.eq_2 ..))
 (λn=>⟨λ_=>tr (z4a.eq_2 ..),
  trivial⟩)
mutual
def z1h:Nat->yz1->Ot Int
 |0,_=>none
 |n+1,a=>
  pIf (decide (a.den<1))
   (kzr n true)
   (pIf (decide (a.den>1000000000))
     (kzr n true)
     ((z3n n a.num).bind λy0=>
     pIf (decide (y0>1000000000))
      (kzr n true)
      ((z3n n a.num).bind λy1=>
      (z7v n y1 (IntKind.u64.wrap a.den)).bind λy2=>
      kzr n (y2 != 1))))
def kzr:Nat->Bool->Ot Int
 |0,_=>none
 |n+1,a=>
  pIf a
   (some 8)
   (some 0)
end
def y45:LSh:=⟨[(2,dI)],[],0,27,[]⟩
noncomputable def zb0:FI dat:=FI.of dat 56 27 0 [dT 0] [] [dI] [] true y45 (R:=Int) Prod.fst (·,()) (λn=>u1 (z1h n))
 (λn=>[(0,⟨⟨[(26,dB)],[],0,27,[]⟩,u1 (kzr n)⟩)]) (anb [(5,0)] f56)
theorem zfr:FOk prog zb0:=okF (bs:=[zje,zm0]) ⟨zoa,zrg,trivial⟩ func56 ntmps56 call56
 (λ_ _=>tr (z1h.eq_2 ..))
 (λn=>⟨λ_=>tr (kzr.eq_2 _ n),
  trivial⟩)
mutual
def z6m:Nat->zz0->Ot Bool
 |0,_=>none
 |n+1,a=>
  pIf (a.kind==1)
   ((z1h n a.num).bind λy0=>
   pIf (y0 != 0)
    (some false)
    (yzz n (zz0.mk a.kind (yz1.mk 0 0) a.truth a.str a.list)))
   (pIf (a.kind==2)
     (yzz n (zz0.mk a.kind a.num false a.str a.list))
     (pIf (a.kind==3)
       (pIf (decide ((a.str.length:Int)>60))
         (some false)
         (z2u n 0 a.re (zz0.mk a.kind a.num a.truth [] a.list)))
       (pIf (a.kind==4)
         (z2y n 0 a.list (a.list.length:Int) (zz0.mk a.kind a.num a.truth a.str []))
         (some false))))
def z2u:Nat->Int->zz0->zz0->Ot Bool
 |0,_,_,_=>none
 |n+1,a,b,c=>
  pIf (decide (a<(b.str.length:Int)))
   ((ix b.str a).bind λx1=>
   pIf (decide ((x1.toNat:Int)<32))
    (z2i n a true b.re c.re)
    ((ix b.str a).bind λx2=>
    z2i n a (decide ((x2.toNat:Int)>126)) b.re c.re))
   (yzz n c.re)
def z2i:Nat->Int->Bool->zz0->zz0->Ot Bool
 |0,_,_,_,_=>none
 |n+1,a,b,c,d=>
  pIf b
   (some false)
   (z2u n (IntKind.i64.wrap (a+1)) c.re d.re)
def z2y:Nat->Int->kz2->Int->zz0->Ot Bool
 |0,_,_,_,_=>none
 |n+1,a,b,c,d=>
  pIf (decide (a<c))
   ((ix b a).bind λx3=>
   (z6m n x3.re).bind λy4=>
   pIf (!y4)
    (some false)
    (z2y n (IntKind.i64.wrap (a+1)) b c d.re))
   (yzz n d.re)
def yzz:Nat->zz0->Ot Bool
 |0,_=>none
 |n+1,a=>
  pIf ((a.num.num==0)&&((a.num.den==0)&&true))
   (pIf (!a.truth)
     (pIf (a.str==[])
       (some ((a.list.length:Int)==0))
       (some false))
     (some false))
   (some false)
end
def y9q:LSh:=⟨[(2,dB)],[],0,81,[]⟩
noncomputable def zc9:FI dat:=FI.of dat 41 81 0 [dT 1] [] [dB] [] true y9q (R:=Bool) Prod.fst (·,()) (λn=>u1 (z6m n))
 (λn=>[(0,⟨⟨[(4,dI),(1,(.ptr 0 0)),(3,(.ptr 1 0))],[(.st 1),(.st 1)],0,81,[]⟩,u3 (z2u n)⟩),(1,⟨⟨[(1,(.ptr 0 0)),(3,(.ptr 1 0)),(4,dI),(46,dB)],[(.st 1),(.st 1)],0,81,[]⟩,u4 (z2i n)⟩),(2,⟨⟨[(53,dI),(51,dL 1),(3,(.ptr 0 0)),(52,dI)],[(.st 1)],0,81,[]⟩,u4 (z2y n)⟩),(3,⟨⟨[(3,(.ptr 0 0))],[(.st 1)],0,81,[]⟩,u1 (yzz n)⟩)]) (anb [(40,0),(51,1),(65,2),(87,3)] f41)
noncomputable def yc4:List (FI dat):=[zc9]++[zb0]
theorem yby:(zc9).Good prog dat (tb yc4):=FI.kzd (hD:=yz4 _) func41 ntmps41 call41 (by kernel_rfl) (Qac (by kernel_rfl)) (by kernel_rfl) (λn=>by kernel_rfl) (λx=>by kernel_rfl) (λ_=>rfl) ⟨λ_=>rfl,λ_=>rfl,λ_=>rfl,λ_=>rfl,trivial⟩
 (λ_ _=>tr (z6m.eq_2 ..))
 (λn=>⟨λ_=>tr (z2u.eq_2 ..),
  λ_=>tr (z2i.eq_2 ..),
  λ_=>tr (z2y.eq_2 ..),
  λ_=>tr (yzz.eq_2 _ n),
  trivial⟩)
 (λx=>.inl rfl)
theorem ydd:OkL prog [zc9]:=yzh (yz4 _) (bs:=[zb0]) ⟨zfr,trivial⟩ ⟨yby,trivial⟩
theorem y6d:FOk prog zc9:=ydd.1
mutual
def zzl:Nat->zz0->Ot Int
 |0,_=>none
 |n+1,a=>
  (kzz n a.re).bind λy0=>
  pIf (decide (y0.1>100))
   (z1s n true a.re)
   (z1s n (decide (y0.2>6)) a.re)
def z1s:Nat->Bool->zz0->Ot Int
 |0,_,_=>none
 |n+1,a,b=>
  pIf a
   (some 4)
   ((z6m n b.re).bind λy1=>
   pIf (!y1)
    (some 8)
    (some 0))
end
def y78:LSh:=⟨[(2,dI)],[],0,19,[]⟩
noncomputable def z4r:FI dat:=FI.of dat 22 19 0 [dT 1] [] [dI] [] true y78 (R:=Int) Prod.fst (·,()) (λn=>u1 (zzl n))
 (λn=>[(0,⟨⟨[(1,(.ptr 0 0)),(15,dB)],[(.st 1)],0,19,[]⟩,u2 (z1s n)⟩)]) (anb [(7,0)] f22)
theorem z97:FOk prog z4r:=okF (bs:=[z5s,zc9]) ⟨zik,y6d,trivial⟩ func22 ntmps22 call22
 (λ_ _=>tr (zzl.eq_2 ..))
 (λn=>⟨λ_=>tr (z1s.eq_2 ..),
  trivial⟩)
mutual
def z89:Nat->B8->Ot Bool
 |0,_=>none
 |n+1,a=>
  pIf ((a.length:Int)==0)
   (z4x n a true)
   (z4x n a (decide ((a.length:Int)>40)))
def z4x:Nat->B8->Bool->Ot Bool
 |0,_,_=>none
 |n+1,a,b=>
  pIf b
   (some false)
   (zzp n a 0)
def zzp:Nat->B8->Nat->Ot Bool
 |0,_,_=>none
 |n+1,a,b=>
  pIf (decide (b<a.length))
   (pIf (decide (((zef a b).1:Int)>=97))
     (z2s n ((zef a b).1:Int) (b:Int) (decide (((zef a b).1:Int)<=122)) a (b+(zef a b).2))
     (z2s n ((zef a b).1:Int) (b:Int) false a (b+(zef a b).2)))
   (some true)
def z2s:Nat->Int->Int->Bool->B8->Nat->Ot Bool
 |0,_,_,_,_,_=>none
 |n+1,a,b,c,d,e=>
  pIf (!c)
   (pIf (b==0)
     (zzk n true d e)
     (pIf (a != 45)
       (pIf (decide (a<48))
         (zzk n true d e)
         (zzk n (decide (a>57)) d e))
       (zzk n false d e)))
   (zzk n false d e)
def zzk:Nat->Bool->B8->Nat->Ot Bool
 |0,_,_,_=>none
 |n+1,a,b,c=>
  pIf a
   (some false)
   (zzp n b c)
end
def ycv:LSh:=⟨[(2,dB)],[],0,44,[]⟩
noncomputable def zry:FI dat:=FI.of dat 39 44 0 [dS] [] [dB] [] true ycv (R:=Bool) Prod.fst (·,()) (λn=>u1 (z89 n))
 (λn=>[(0,⟨⟨[(0,dS),(13,dB)],[],0,44,[]⟩,u2 (z4x n)⟩),(1,⟨⟨[(15,(.ptr 0 0))],[.siter],0,44,[]⟩,u2 (zzp n)⟩),(2,⟨⟨[(15,(.ptr 0 0)),(4,(.d (.int .i32))),(3,dI),(5,dB)],[.siter],0,44,[]⟩,u5 (z2s n)⟩),(3,⟨⟨[(15,(.ptr 0 0)),(43,dB)],[.siter],0,44,[]⟩,u3 (zzk n)⟩)]) (anb [(5,0),(14,1),(26,2),(28,3)] f39)
theorem y3j:FOk prog zry:=okF (bs:=[]) trivial func39 ntmps39 call39
 (λ_ _=>tr (z89.eq_2 ..))
 (λn=>⟨λ_=>tr (z4x.eq_2 ..),
  λ_=>tr (zzp.eq_2 ..),
  λ_=>tr (z2s.eq_2 ..),
  λ_=>tr (zzk.eq_2 ..),
  trivial⟩)
def z6e:Nat->B8->Ot Bool
 |0,_=>none
 |n+1,a=>
  (z89 n a).bind λy0=>
  pIf y0
   (pIf (!(a==[116,114,117,101]))
     (some (!(a==[102,97,108,115,101])))
     (some false))
   (some false)
def y9l:LSh:=⟨[(2,dB)],[],0,13,[]⟩
noncomputable def zei:FI dat:=FI.of dat 21 13 0 [dS] [] [dB] [] true y9l (R:=Bool) Prod.fst (·,()) (λn=>u1 (z6e n))
 (λn=>[]) (anb [] f21)
theorem zoj:FOk prog zei:=okF (bs:=[zry]) ⟨y3j,trivial⟩ func21 ntmps21 call21
 (λ_ _=>tr (z6e.eq_2 ..))
 (λn=>trivial)
mutual
def yzm:Nat->zz0->zz0->Ot Bool
 |0,_,_=>none
 |n+1,a,b=>
  pIf (a.kind != b.kind)
   (kzn n true b.re a.re)
   (pIf (!((a.num.num==b.num.num)&&((a.num.den==b.num.den)&&true)))
     (kzn n true b.re a.re)
     (pIf (!(a.truth==b.truth))
       (kzn n true b.re a.re)
       (pIf (!(a.str==b.str))
         (kzn n true b.re a.re)
         (kzn n ((a.list.length:Int) != (b.list.length:Int)) b.re a.re))))
def kzn:Nat->Bool->zz0->zz0->Ot Bool
 |0,_,_,_=>none
 |n+1,a,b,c=>
  pIf a
   (some false)
   (z3f n 0 (c.list.length:Int) b.re c.re)
def z3f:Nat->Int->Int->zz0->zz0->Ot Bool
 |0,_,_,_,_=>none
 |n+1,a,b,c,d=>
  pIf (decide (a<b))
   ((ix d.list a).bind λx0=>
   (ix c.list a).bind λx1=>
   (yzm n x0.re x1.re).bind λy2=>
   pIf (!y2)
    (some false)
    (z3f n (IntKind.i64.wrap (a+1)) b c.re d.re))
   (some true)
end
def yay:LSh:=⟨[(4,dB)],[],0,60,[]⟩
noncomputable def z0j:FI dat:=FI.of dat 35 60 0 [dT 1,dT 1] [] [dB] [] true yay (R:=Bool) Prod.fst (·,()) (λn=>u2 (yzm n))
 (λn=>[(0,⟨⟨[(3,(.ptr 0 0)),(2,(.ptr 1 0)),(40,dB)],[(.st 1),(.st 1)],0,60,[]⟩,u3 (kzn n)⟩),(1,⟨⟨[(44,dI),(3,(.ptr 0 0)),(2,(.ptr 1 0)),(43,dI)],[(.st 1),(.st 1)],0,60,[]⟩,u4 (z3f n)⟩)]) (anb [(5,0),(14,1)] f35)
noncomputable def ydl:List (FI dat):=[z0j]++[]
theorem y9i:(z0j).Good prog dat (tb ydl):=FI.kzd (hD:=yz4 _) func35 ntmps35 call35 (by kernel_rfl) (Qac (by kernel_rfl)) (by kernel_rfl) (λn=>by kernel_rfl) (λx=>by kernel_rfl) (λ_=>rfl) ⟨λ_=>rfl,λ_=>rfl,trivial⟩
 (λ_ _=>tr (yzm.eq_2 ..))
 (λn=>⟨λ_=>tr (kzn.eq_2 ..),
  λ_=>tr (z3f.eq_2 ..),
  trivial⟩)
 (λx=>.inl rfl)
theorem ybt:OkL prog [z0j]:=yzh (yz4 _) (bs:=[]) trivial ⟨y9i,trivial⟩
theorem zd9:FOk prog z0j:=ybt.1
mutual
def z7o:Nat->zz1->Ot Bool
 |0,_=>none
 |n+1,a=>
  (z84 n a.op).bind λy0=>
  pIf (y0==(-2))
   (z22 n true a.re)
   (pIf (decide (y0>=0))
     (z22 n ((a.args.length:Int) != y0) a.re)
     (z22 n false a.re))
def z22:Nat->Bool->zz1->Ot Bool
 |0,_,_=>none
 |n+1,a,b=>
  pIf a
   (some false)
   (pIf (b.op==1)
     ((zzl n b.value.re).bind λy1=>
     pIf (y1 != 0)
      (z23 n true b.re)
      (pIf (b.value.kind==4)
        (z23 n true b.re)
        (z23 n (!(b.name==[])) b.re)))
     (pIf (b.op==2)
       ((z6e n b.name).bind λy2=>
       pIf (!y2)
        (z4f n true b.re)
        ((yzm n b.value.re (zz0.mk 0 (yz1.mk 0 0) false [] [])).bind λy3=>
        z4f n (!y3) b.re))
       (pIf (!(b.name==[]))
         (z43 n true b.re)
         ((yzm n b.value.re (zz0.mk 0 (yz1.mk 0 0) false [] [])).bind λy4=>
         z43 n (!y4) b.re))))
def z23:Nat->Bool->zz1->Ot Bool
 |0,_,_=>none
 |n+1,a,b=>
  pIf a
   (some false)
   (z27 n b.re)
def z4f:Nat->Bool->zz1->Ot Bool
 |0,_,_=>none
 |n+1,a,b=>
  pIf a
   (some false)
   (z27 n b.re)
def z43:Nat->Bool->zz1->Ot Bool
 |0,_,_=>none
 |n+1,a,b=>
  pIf a
   (some false)
   (z27 n b.re)
def z27:Nat->zz1->Ot Bool
 |0,_=>none
 |n+1,a=>
  (zz8 n a.args).bind λy5=>
  some (!y5)
def zz8:Nat->yz3->Ot Bool
 |0,_=>none
 |n+1,a=>
  (yz9 n a).bind λy0=>
  some (decide (y0>=0))
def yz9:Nat->yz3->Ot Int
 |0,_=>none
 |n+1,a=>
  yz6 n 0 a (a.length:Int)
def yz6:Nat->Int->yz3->Int->Ot Int
 |0,_,_,_=>none
 |n+1,a,b,c=>
  pIf (decide (a<c))
   ((ix b a).bind λx0=>
   (z6u n x0.re).bind λy1=>
   pIf y1
    (some a)
    (yz6 n (IntKind.i64.wrap (a+1)) b c))
   (some (-1))
def z6u:Nat->zz1->Ot Bool
 |0,_=>none
 |n+1,a=>
  (z7o n a.re).bind λy0=>
  some (!y0)
end
def yhn:LSh:=⟨[(2,dB)],[],0,66,[]⟩
noncomputable def zdw:FI dat:=FI.of dat 38 66 0 [dT 2] [] [dB] [] true yhn (R:=Bool) Prod.fst (·,()) (λn=>u1 (z7o n))
 (λn=>[(0,⟨⟨[(1,(.ptr 0 0)),(19,dB)],[(.st 2)],0,66,[]⟩,u2 (z22 n)⟩),(1,⟨⟨[(1,(.ptr 0 0)),(48,dB)],[(.st 2)],0,66,[]⟩,u2 (z23 n)⟩),(2,⟨⟨[(1,(.ptr 0 0)),(61,dB)],[(.st 2)],0,66,[]⟩,u2 (z4f n)⟩),(3,⟨⟨[(1,(.ptr 0 0)),(31,dB)],[(.st 2)],0,66,[]⟩,u2 (z43 n)⟩),(4,⟨⟨[(1,(.ptr 0 0))],[(.st 2)],0,66,[]⟩,u1 (z27 n)⟩)]) (anb [(7,0),(21,1),(31,2),(38,3),(43,4)] f38)
def z8m:LSh:=⟨[(4,dB)],[],0,9,[]⟩
noncomputable def kzs:FI dat:=FI.of dat 54 9 0 [dL 2,(.fn 55 [] [])] [] [dB] [] true z8m (R:=Bool) Prod.fst (·,()) (λn=>u1 (zz8 n))
 (λn=>[]) (anb [] f54)
def zaf:LSh:=⟨[(4,dI)],[],0,19,[]⟩
noncomputable def z06:FI dat:=FI.of dat 67 19 0 [dL 2,(.fn 55 [] [])] [] [dI] [] true zaf (R:=Int) Prod.fst (·,()) (λn=>u1 (yz9 n))
 (λn=>[(0,⟨⟨[(8,dI),(0,dL 2),(1,(.fn 55 [] [])),(7,dI)],[],0,19,[]⟩,u3 (yz6 n)⟩)]) (anb [(6,0)] f67)
def y4u:LSh:=⟨[(2,dB)],[],0,6,[]⟩
noncomputable def zh3:FI dat:=FI.of dat 55 6 0 [dT 2] [] [dB] [] true y4u (R:=Bool) Prod.fst (·,()) (λn=>u1 (z6u n))
 (λn=>[]) (anb [] f55)
noncomputable def zg7:List (FI dat):=[zdw,kzs,z06,zh3]++[zjy,z4r,zei,z0j]
theorem yib:(zdw).Good prog dat (tb zg7):=FI.kzd (hD:=yz4 _) func38 ntmps38 call38 (by kernel_rfl) (Qac (by kernel_rfl)) (by kernel_rfl) (λn=>by kernel_rfl) (λx=>by kernel_rfl) (λ_=>rfl) ⟨λ_=>rfl,λ_=>rfl,λ_=>rfl,λ_=>rfl,λ_=>rfl,trivial⟩
 (λ_ _=>tr (z7o.eq_2 ..))
 (λn=>⟨λ_=>tr (z22.eq_2 ..),
  λ_=>tr (z23.eq_2 ..),
  λ_=>tr (z4f.eq_2 ..),
  λ_=>tr (z43.eq_2 ..),
  λ_=>tr (z27.eq_2 ..),
  trivial⟩)
 (λx=>.inl rfl)
theorem z8p:(kzs).Good prog dat (tb zg7):=FI.kzd (hD:=yz4 _) func54 ntmps54 call54 (by kernel_rfl) (Qac (by kernel_rfl)) (by kernel_rfl) (λn=>by kernel_rfl) (λx=>by kernel_rfl) (λ_=>rfl) trivial
 (λ_ _=>tr (zz8.eq_2 ..))
 (λn=>trivial)
 (λx=>.inl rfl)
theorem zae:(z06).Good prog dat (tb zg7):=FI.kzd (hD:=yz4 _) func67 ntmps67 call67 (by kernel_rfl) (Qac (by kernel_rfl)) (by kernel_rfl) (λn=>by kernel_rfl) (λx=>by kernel_rfl) (λ_=>rfl) ⟨λ_=>rfl,trivial⟩
 (λ_ _=>tr (yz9.eq_2 ..))
 (λn=>⟨λ_=>tr (yz6.eq_2 ..),
  trivial⟩)
 (λx=>.inl rfl)
theorem y53:(zh3).Good prog dat (tb zg7):=FI.kzd (hD:=yz4 _) func55 ntmps55 call55 (by kernel_rfl) (Qac (by kernel_rfl)) (by kernel_rfl) (λn=>by kernel_rfl) (λx=>by kernel_rfl) (λ_=>rfl) trivial
 (λ_ _=>tr (z6u.eq_2 ..))
 (λn=>trivial)
 (λx=>.inl rfl)
theorem yhq:OkL prog [zdw,kzs,z06,zh3]:=yzh (yz4 _) (bs:=[zjy,z4r,zei,z0j]) ⟨y5i,z97,zoj,zd9,trivial⟩ ⟨yib,z8p,zae,y53,trivial⟩
theorem ybw:FOk prog zdw:=yhq.1
mutual
def z4o:Nat->zz1->Ot Int
 |0,_=>none
 |n+1,a=>
  (z4d n a.re).bind λy0=>
  pIf (decide (y0.1>100))
   (z2m n true a.re)
   (z2m n (decide (y0.2>12)) a.re)
def z2m:Nat->Bool->zz1->Ot Int
 |0,_,_=>none
 |n+1,a,b=>
  pIf a
   (some 4)
   ((z7o n b.re).bind λy1=>
   pIf (!y1)
    (some 8)
    (some 0))
end
def ycj:LSh:=⟨[(2,dI)],[],0,19,[]⟩
noncomputable def zjd:FI dat:=FI.of dat 20 19 0 [dT 2] [] [dI] [] true ycj (R:=Int) Prod.fst (·,()) (λn=>u1 (z4o n))
 (λn=>[(0,⟨⟨[(1,(.ptr 0 0)),(15,dB)],[(.st 2)],0,19,[]⟩,u2 (z2m n)⟩)]) (anb [(7,0)] f20)
theorem zol:FOk prog zjd:=okF (bs:=[z9c,zdw]) ⟨zw5,ybw,trivial⟩ func20 ntmps20 call20
 (λ_ _=>tr (z4o.eq_2 ..))
 (λn=>⟨λ_=>tr (z2m.eq_2 ..),
  trivial⟩)
mutual
def z4m:Nat->zz0->Ot (Int×Int×Int×Int×Bool×B8×kz2×B8×yz3)
 |0,_=>none
 |n+1,a=>
  pIf (a.kind != 4)
   (some (1,a.kind,a.num.num,a.num.den,a.truth,a.str,a.list,[],[]))
   (z5e n 0 a.list (a.list.length:Int) 18 0 0 0 false [] [] [] 0 0 0 0 false [] [] [] [] [])
def z5e:Nat->Int->kz2->Int->Int->Int->Int->Int->Bool->B8->kz2->B8->Int->Int->Int->Int->Bool->B8->kz2->B8->yz3->yz3->Ot (Int×Int×Int×Int×Bool×B8×kz2×B8×yz3)
 |0,_,_,_,_,_,_,_,_,_,_,_,_,_,_,_,_,_,_,_,_,_=>none
 |n+1,a,b,c,d,e,f,g,h,i,j,k,l,m,o,p,q,r,s,t,u,v=>
  pIf (decide (a<c))
   ((ix b a).bind λx0=>
   (z4m n x0.re).bind λy1=>
   (ext u [(zz1.mk y1.1 (zz0.mk y1.2.1 (yz1.mk y1.2.2.1 y1.2.2.2.1) y1.2.2.2.2.1 y1.2.2.2.2.2.1 y1.2.2.2.2.2.2.1) y1.2.2.2.2.2.2.2.1 [])]).bind λx2=>
   (ix x2 (u.length:Int)).bind λx3=>
   z5e n (IntKind.i64.wrap (a+1)) b c d e f g h i j k l m o p q r s t (x2.set (Int.toNat (u.length:Int)) (zz1.mk x3.op x3.value.re x3.name y1.2.2.2.2.2.2.2.2)) v)
   (some (d,e,f,g,h,i,j,k,u))
end
def ykm:LSh:=⟨[(2,(.ptr 0 0))],[(.cells [dU,dU,dI,dI,dB,dS,dL 1,dS,(.own 1)]),(.deep 29 2)],0,28,[]⟩
noncomputable def zd0:FI dat:=FI.of dat 25 28 0 [dT 1] [] [(.agg [dU,dU,dI,dI,dB,dS,dL 1,dS,(.own 1)])] [(.cells [dU,dU,dI,dI,dB,dS,dL 1,dS,(.own 1)]),(.deep 29 2)] false ykm (R:=Int×Int×Int×Int×Bool×B8×kz2×B8×yz3) (λx=>(x.1,x.2.1,x.2.2.1,x.2.2.2.1,x.2.2.2.2.1,x.2.2.2.2.2.1,x.2.2.2.2.2.2.1,x.2.2.2.2.2.2.2.1,x.2.2.2.2.2.2.2.2.1)) (λr=>(r.1,r.2.1,r.2.2.1,r.2.2.2.1,r.2.2.2.2.1,r.2.2.2.2.2.1,r.2.2.2.2.2.2.1,r.2.2.2.2.2.2.2.1,r.1,r.2.1,r.2.2.1,r.2.2.2.1,r.2.2.2.2.1,r.2.2.2.2.2.1,r.2.2.2.2.2.2.1,r.2.2.2.2.2.2.2.1,r.2.2.2.2.2.2.2.2,())) (λn=>u1 (z4m n))
 (λn=>[(0,⟨⟨[(15,dI),(3,(.ptr 0 0)),(13,dL 1),(2,(.ptr 1 0)),(14,dI)],[(.cells [dU,dU,dI,dI,dB,dS,dL 1,dS,(.own 2)]),(.cells [dU,dU,dI,dI,dB,dS,dL 1,dS,(.own 3)]),(.deep 29 2),(.deep 29 2)],0,28,[]⟩,λx=>z5e n x.1 x.2.1 x.2.2.1 x.2.2.2.1 x.2.2.2.2.1 x.2.2.2.2.2.1 x.2.2.2.2.2.2.1 x.2.2.2.2.2.2.2.1 x.2.2.2.2.2.2.2.2.1 x.2.2.2.2.2.2.2.2.2.1 x.2.2.2.2.2.2.2.2.2.2.1 x.2.2.2.2.2.2.2.2.2.2.2.1 x.2.2.2.2.2.2.2.2.2.2.2.2.1 x.2.2.2.2.2.2.2.2.2.2.2.2.2.1 x.2.2.2.2.2.2.2.2.2.2.2.2.2.2.1 x.2.2.2.2.2.2.2.2.2.2.2.2.2.2.2.1 x.2.2.2.2.2.2.2.2.2.2.2.2.2.2.2.2.1 x.2.2.2.2.2.2.2.2.2.2.2.2.2.2.2.2.2.1 x.2.2.2.2.2.2.2.2.2.2.2.2.2.2.2.2.2.2.1 x.2.2.2.2.2.2.2.2.2.2.2.2.2.2.2.2.2.2.2.1 x.2.2.2.2.2.2.2.2.2.2.2.2.2.2.2.2.2.2.2.2.1⟩)]) (anb [(16,0)] f25)
noncomputable def yih:List (FI dat):=[zd0]++[]
theorem yl3:(zd0).Good prog dat (tb yih):=FI.kzd (hD:=yz4 _) func25 ntmps25 call25 (by kernel_rfl) (Qac (by kernel_rfl)) (by kernel_rfl) (λn=>by kernel_rfl) (λx=>by kernel_rfl) (λ_=>rfl) ⟨λ_=>rfl,trivial⟩
 (λ_ _=>tr (z4m.eq_2 ..))
 (λn=>⟨λ_=>tr (z5e.eq_2 ..),
  trivial⟩)
 (λx=>.inr (by kernel_rfl))
theorem yj0:OkL prog [zd0]:=yzh (yz4 _) (bs:=[]) trivial ⟨yl3,trivial⟩
theorem zv9:FOk prog zd0:=yj0.1
mutual
def z7d:Nat->Int->Int->Int->Int->Bool->B8->kz2->B8->B8->Int->Int->Int->Bool->B8->kz2->yz3->Ot (B8×Int×Int×Int×Bool×B8×kz2×Int×Int×Int×Int×Bool×B8×kz2×B8×yz3)
 |0,_,_,_,_,_,_,_,_,_,_,_,_,_,_,_,_=>none
 |n+1,a,b,c,d,e,f,g,h,i,j,k,l,m,o,p,q=>
  pIf (a==2)
   (z1o n (h==i) i j k l m o p (zz1.mk 0 (zz0.mk 0 (yz1.mk 0 0) false [] []) [] []) a b c d e f g h q)
   (z1o n false i j k l m o p (zz1.mk 0 (zz0.mk 0 (yz1.mk 0 0) false [] []) [] []) a b c d e f g h q)
def z1o:Nat->Bool->B8->Int->Int->Int->Bool->B8->kz2->zz1->Int->Int->Int->Int->Bool->B8->kz2->B8->yz3->Ot (B8×Int×Int×Int×Bool×B8×kz2×Int×Int×Int×Int×Bool×B8×kz2×B8×yz3)
 |0,_,_,_,_,_,_,_,_,_,_,_,_,_,_,_,_,_,_=>none
 |n+1,a,b,c,d,e,f,g,h,i,j,k,l,m,o,p,q,r,s=>
  pIf a
   ((z4m n (zz0.mk c (yz1.mk d e) f g h)).bind λy0=>
   some (b,c,d,e,f,g,h,y0.1,y0.2.1,y0.2.2.1,y0.2.2.2.1,y0.2.2.2.2.1,y0.2.2.2.2.2.1,y0.2.2.2.2.2.2.1,y0.2.2.2.2.2.2.2.1,y0.2.2.2.2.2.2.2.2))
   (some (b,c,d,e,f,g,h,j,k,l,m,o,p,q,r,s))
end
def y5p:LSh:=⟨[(4,(.ptr 2 0))],[(.cells [dS]),(.cells [dU,dI,dI,dB,dS,dL 1]),(.cells [dU,dU,dI,dI,dB,dS,dL 1,dS,(.own 3)]),(.deep 29 2)],2,17,[]⟩
noncomputable def zgv:FI dat:=FI.of dat 24 17 2 [(.agg [dU,dU,dI,dI,dB,dS,dL 1,dS,(.own 2)]),(.ptr 0 0),(.ptr 1 0)] [(.cells [dS]),(.cells [dU,dI,dI,dB,dS,dL 1]),(.deep 29 2)] [(.agg [dU,dU,dI,dI,dB,dS,dL 1,dS,(.own 3)])] [(.cells [dS]),(.cells [dU,dI,dI,dB,dS,dL 1]),(.cells [dU,dU,dI,dI,dB,dS,dL 1,dS,(.own 3)]),(.deep 29 2)] false y5p (R:=B8×Int×Int×Int×Bool×B8×kz2×Int×Int×Int×Int×Bool×B8×kz2×B8×yz3) (λx=>(x.1,x.2.1,x.2.2.1,x.2.2.2.1,x.2.2.2.2.1,x.2.2.2.2.2.1,x.2.2.2.2.2.2.1,x.2.2.2.2.2.2.2.1,x.2.2.2.2.2.2.2.2.1,x.2.2.2.2.2.2.2.2.2.1,x.2.2.2.2.2.2.2.2.2.2.1,x.2.2.2.2.2.2.2.2.2.2.2.1,x.2.2.2.2.2.2.2.2.2.2.2.2.1,x.2.2.2.2.2.2.2.2.2.2.2.2.2.1,x.2.2.2.2.2.2.2.2.2.2.2.2.2.2.1,x.2.2.2.2.2.2.2.2.2.2.2.2.2.2.2.1)) (λr=>(r.2.2.2.2.2.2.2.1,r.2.2.2.2.2.2.2.2.1,r.2.2.2.2.2.2.2.2.2.1,r.2.2.2.2.2.2.2.2.2.2.1,r.2.2.2.2.2.2.2.2.2.2.2.1,r.2.2.2.2.2.2.2.2.2.2.2.2.1,r.2.2.2.2.2.2.2.2.2.2.2.2.2.1,r.2.2.2.2.2.2.2.2.2.2.2.2.2.2.1,r.1,r.2.1,r.2.2.1,r.2.2.2.1,r.2.2.2.2.1,r.2.2.2.2.2.1,r.2.2.2.2.2.2.1,r.2.2.2.2.2.2.2.1,r.2.2.2.2.2.2.2.2.1,r.2.2.2.2.2.2.2.2.2.1,r.2.2.2.2.2.2.2.2.2.2.1,r.2.2.2.2.2.2.2.2.2.2.2.1,r.2.2.2.2.2.2.2.2.2.2.2.2.1,r.2.2.2.2.2.2.2.2.2.2.2.2.2.1,r.2.2.2.2.2.2.2.2.2.2.2.2.2.2.1,r.2.2.2.2.2.2.2.2.2.2.2.2.2.2.2,())) (λn x=>z7d n x.1 x.2.1 x.2.2.1 x.2.2.2.1 x.2.2.2.2.1 x.2.2.2.2.2.1 x.2.2.2.2.2.2.1 x.2.2.2.2.2.2.2.1 x.2.2.2.2.2.2.2.2.1 x.2.2.2.2.2.2.2.2.2.1 x.2.2.2.2.2.2.2.2.2.2.1 x.2.2.2.2.2.2.2.2.2.2.2.1 x.2.2.2.2.2.2.2.2.2.2.2.2.1 x.2.2.2.2.2.2.2.2.2.2.2.2.2.1 x.2.2.2.2.2.2.2.2.2.2.2.2.2.2.1 x.2.2.2.2.2.2.2.2.2.2.2.2.2.2.2.1)
 (λn=>[(0,⟨⟨[(4,(.ptr 2 0)),(2,(.ptr 1 0)),(3,(.ptr 3 0)),(13,dB)],[(.cells [dS]),(.cells [dU,dI,dI,dB,dS,dL 1]),(.st 2),(.cells [dU,dU,dI,dI,dB,dS,dL 1,dS,(.own 4)]),(.deep 29 2)],2,17,[]⟩,λx=>z1o n x.1 x.2.1 x.2.2.1 x.2.2.2.1 x.2.2.2.2.1 x.2.2.2.2.2.1 x.2.2.2.2.2.2.1 x.2.2.2.2.2.2.2.1 x.2.2.2.2.2.2.2.2.1 x.2.2.2.2.2.2.2.2.2.1 x.2.2.2.2.2.2.2.2.2.2.1 x.2.2.2.2.2.2.2.2.2.2.2.1 x.2.2.2.2.2.2.2.2.2.2.2.2.1 x.2.2.2.2.2.2.2.2.2.2.2.2.2.1 x.2.2.2.2.2.2.2.2.2.2.2.2.2.2.1 x.2.2.2.2.2.2.2.2.2.2.2.2.2.2.2.1 x.2.2.2.2.2.2.2.2.2.2.2.2.2.2.2.2.1 x.2.2.2.2.2.2.2.2.2.2.2.2.2.2.2.2.2.1⟩)]) (anb [(5,0)] f24)
theorem zy6:FOk prog zgv:=okF (bs:=[zd0]) ⟨zv9,trivial⟩ func24 ntmps24 call24
 (λ_ _=>tr (z7d.eq_2 ..))
 (λn=>⟨λx=>tr (z1o.eq_2 x.1 x.2.1 x.2.2.1 x.2.2.2.1 x.2.2.2.2.1 x.2.2.2.2.2.1 x.2.2.2.2.2.2.1 x.2.2.2.2.2.2.2.1 x.2.2.2.2.2.2.2.2.1 x.2.2.2.2.2.2.2.2.2.1 x.2.2.2.2.2.2.2.2.2.2.1 x.2.2.2.2.2.2.2.2.2.2.2.1 x.2.2.2.2.2.2.2.2.2.2.2.2.1 x.2.2.2.2.2.2.2.2.2.2.2.2.2.1 x.2.2.2.2.2.2.2.2.2.2.2.2.2.2.1 x.2.2.2.2.2.2.2.2.2.2.2.2.2.2.2.1 x.2.2.2.2.2.2.2.2.2.2.2.2.2.2.2.2.1 x.2.2.2.2.2.2.2.2.2.2.2.2.2.2.2.2.2.1 n),
  trivial⟩)
mutual
def z55:Nat->zz1->B8->Int->Int->Int->Bool->B8->kz2->Ot (B8×Int×Int×Int×Bool×B8×kz2×Int×Int×Int×Int×Bool×B8×kz2×B8×yz3)
 |0,_,_,_,_,_,_,_,_=>none
 |n+1,a,b,c,d,e,f,g,h=>
  z1f n 0 a.args (a.args.length:Int) b c d e f g h a.op a.value.kind a.value.num.num a.value.num.den a.value.truth a.value.str a.value.list a.name 0 0 0 0 false [] [] [] [] []
def z1f:Nat->Int->yz3->Int->B8->Int->Int->Int->Bool->B8->kz2->Int->Int->Int->Int->Bool->B8->kz2->B8->Int->Int->Int->Int->Bool->B8->kz2->B8->yz3->yz3->Ot (B8×Int×Int×Int×Bool×B8×kz2×Int×Int×Int×Int×Bool×B8×kz2×B8×yz3)
 |0,_,_,_,_,_,_,_,_,_,_,_,_,_,_,_,_,_,_,_,_,_,_,_,_,_,_,_,_=>none
 |n+1,a,b,c,d,e,f,g,h,i,j,k,l,m,o,p,q,r,s,t,u,v,w,z,a23,a24,a25,a26,a27=>
  pIf (decide (a<c))
   ((ix b a).bind λx0=>
   (z55 n x0.re d e f g h i j).bind λy1=>
   (ext a26 [(zz1.mk y1.2.2.2.2.2.2.2.1 (zz0.mk y1.2.2.2.2.2.2.2.2.1 (yz1.mk y1.2.2.2.2.2.2.2.2.2.1 y1.2.2.2.2.2.2.2.2.2.2.1) y1.2.2.2.2.2.2.2.2.2.2.2.1 y1.2.2.2.2.2.2.2.2.2.2.2.2.1 y1.2.2.2.2.2.2.2.2.2.2.2.2.2.1) y1.2.2.2.2.2.2.2.2.2.2.2.2.2.2.1 [])]).bind λx2=>
   (ix x2 (a26.length:Int)).bind λx3=>
   z1f n (IntKind.i64.wrap (a+1)) b c y1.1 y1.2.1 y1.2.2.1 y1.2.2.2.1 y1.2.2.2.2.1 y1.2.2.2.2.2.1 y1.2.2.2.2.2.2.1 k l m o p q r s t u v w z a23 a24 a25 (x2.set (Int.toNat (a26.length:Int)) (zz1.mk x3.op x3.value.re x3.name y1.2.2.2.2.2.2.2.2.2.2.2.2.2.2.2)) a27)
   ((z7d n k l m o p q r s d e f g h i j a26).bind λy4=>
   some (y4.1,y4.2.1,y4.2.2.1,y4.2.2.2.1,y4.2.2.2.2.1,y4.2.2.2.2.2.1,y4.2.2.2.2.2.2.1,y4.2.2.2.2.2.2.2.1,y4.2.2.2.2.2.2.2.2.1,y4.2.2.2.2.2.2.2.2.2.1,y4.2.2.2.2.2.2.2.2.2.2.1,y4.2.2.2.2.2.2.2.2.2.2.2.1,y4.2.2.2.2.2.2.2.2.2.2.2.2.1,y4.2.2.2.2.2.2.2.2.2.2.2.2.2.1,y4.2.2.2.2.2.2.2.2.2.2.2.2.2.2.1,y4.2.2.2.2.2.2.2.2.2.2.2.2.2.2.2))
end
def y3t:LSh:=⟨[(4,(.ptr 2 0))],[(.cells [dS]),(.cells [dU,dI,dI,dB,dS,dL 1]),(.cells [dU,dU,dI,dI,dB,dS,dL 1,dS,(.own 3)]),(.deep 29 2)],2,29,[]⟩
noncomputable def zas:FI dat:=FI.of dat 23 29 2 [dT 2,(.fn 24 [] [(.ptr 0 0),(.ptr 1 0)])] [(.cells [dS]),(.cells [dU,dI,dI,dB,dS,dL 1])] [(.agg [dU,dU,dI,dI,dB,dS,dL 1,dS,(.own 3)])] [(.cells [dS]),(.cells [dU,dI,dI,dB,dS,dL 1]),(.cells [dU,dU,dI,dI,dB,dS,dL 1,dS,(.own 3)]),(.deep 29 2)] false y3t (R:=B8×Int×Int×Int×Bool×B8×kz2×Int×Int×Int×Int×Bool×B8×kz2×B8×yz3) (λx=>(x.1,x.2.1,x.2.2.1,x.2.2.2.1,x.2.2.2.2.1,x.2.2.2.2.2.1,x.2.2.2.2.2.2.1,x.2.2.2.2.2.2.2.1,x.2.2.2.2.2.2.2.2.1,x.2.2.2.2.2.2.2.2.2.1,x.2.2.2.2.2.2.2.2.2.2.1,x.2.2.2.2.2.2.2.2.2.2.2.1,x.2.2.2.2.2.2.2.2.2.2.2.2.1,x.2.2.2.2.2.2.2.2.2.2.2.2.2.1,x.2.2.2.2.2.2.2.2.2.2.2.2.2.2.1,x.2.2.2.2.2.2.2.2.2.2.2.2.2.2.2.1)) (λr=>(r.2.2.2.2.2.2.2.1,r.2.2.2.2.2.2.2.2.1,r.2.2.2.2.2.2.2.2.2.1,r.2.2.2.2.2.2.2.2.2.2.1,r.2.2.2.2.2.2.2.2.2.2.2.1,r.2.2.2.2.2.2.2.2.2.2.2.2.1,r.2.2.2.2.2.2.2.2.2.2.2.2.2.1,r.2.2.2.2.2.2.2.2.2.2.2.2.2.2.1,r.1,r.2.1,r.2.2.1,r.2.2.2.1,r.2.2.2.2.1,r.2.2.2.2.2.1,r.2.2.2.2.2.2.1,r.2.2.2.2.2.2.2.1,r.2.2.2.2.2.2.2.2.1,r.2.2.2.2.2.2.2.2.2.1,r.2.2.2.2.2.2.2.2.2.2.1,r.2.2.2.2.2.2.2.2.2.2.2.1,r.2.2.2.2.2.2.2.2.2.2.2.2.1,r.2.2.2.2.2.2.2.2.2.2.2.2.2.1,r.2.2.2.2.2.2.2.2.2.2.2.2.2.2.1,r.2.2.2.2.2.2.2.2.2.2.2.2.2.2.2,())) (λn=>u8 (z55 n))
 (λn=>[(0,⟨⟨[(13,dI),(2,(.ptr 2 0)),(1,(.fn 24 [] [(.ptr 0 0),(.ptr 1 0)])),(11,dL 2),(4,(.ptr 3 0)),(12,dI)],[(.cells [dS]),(.cells [dU,dI,dI,dB,dS,dL 1]),(.cells [dU,dU,dI,dI,dB,dS,dL 1,dS,(.own 4)]),(.cells [dU,dU,dI,dI,dB,dS,dL 1,dS,(.own 5)]),(.deep 29 2),(.deep 29 2)],2,29,[]⟩,λx=>z1f n x.1 x.2.1 x.2.2.1 x.2.2.2.1 x.2.2.2.2.1 x.2.2.2.2.2.1 x.2.2.2.2.2.2.1 x.2.2.2.2.2.2.2.1 x.2.2.2.2.2.2.2.2.1 x.2.2.2.2.2.2.2.2.2.1 x.2.2.2.2.2.2.2.2.2.2.1 x.2.2.2.2.2.2.2.2.2.2.2.1 x.2.2.2.2.2.2.2.2.2.2.2.2.1 x.2.2.2.2.2.2.2.2.2.2.2.2.2.1 x.2.2.2.2.2.2.2.2.2.2.2.2.2.2.1 x.2.2.2.2.2.2.2.2.2.2.2.2.2.2.2.1 x.2.2.2.2.2.2.2.2.2.2.2.2.2.2.2.2.1 x.2.2.2.2.2.2.2.2.2.2.2.2.2.2.2.2.2.1 x.2.2.2.2.2.2.2.2.2.2.2.2.2.2.2.2.2.2.1 x.2.2.2.2.2.2.2.2.2.2.2.2.2.2.2.2.2.2.2.1 x.2.2.2.2.2.2.2.2.2.2.2.2.2.2.2.2.2.2.2.2.1 x.2.2.2.2.2.2.2.2.2.2.2.2.2.2.2.2.2.2.2.2.2.1 x.2.2.2.2.2.2.2.2.2.2.2.2.2.2.2.2.2.2.2.2.2.2.1 x.2.2.2.2.2.2.2.2.2.2.2.2.2.2.2.2.2.2.2.2.2.2.2.1 x.2.2.2.2.2.2.2.2.2.2.2.2.2.2.2.2.2.2.2.2.2.2.2.2.1 x.2.2.2.2.2.2.2.2.2.2.2.2.2.2.2.2.2.2.2.2.2.2.2.2.2.1 x.2.2.2.2.2.2.2.2.2.2.2.2.2.2.2.2.2.2.2.2.2.2.2.2.2.2.1 x.2.2.2.2.2.2.2.2.2.2.2.2.2.2.2.2.2.2.2.2.2.2.2.2.2.2.2.1⟩)]) (anb [(10,0)] f23)
noncomputable def y6k:List (FI dat):=[zas]++[zgv]
theorem y5t:(zas).Good prog dat (tb y6k):=FI.kzd (hD:=yz4 _) func23 ntmps23 call23 (by kernel_rfl) (Qac (by kernel_rfl)) (by kernel_rfl) (λn=>by kernel_rfl) (λx=>by kernel_rfl) (λ_=>rfl) ⟨λ_=>rfl,trivial⟩
 (λ_ _=>tr (z55.eq_2 ..))
 (λn=>⟨λ_=>tr (z1f.eq_2 ..),
  trivial⟩)
 (λx=>.inr (by kernel_rfl))
theorem y6m:OkL prog [zas]:=yzh (yz4 _) (bs:=[zgv]) ⟨zy6,trivial⟩ ⟨y5t,trivial⟩
theorem y2l:FOk prog zas:=y6m.1
mutual
def za1:Nat->zz1->B8->zz0->Ot (Int×Int×Int×Int×Int×Bool×B8×kz2×B8×yz3)
 |0,_,_,_=>none
 |n+1,a,b,c=>
  (z4o n a.re).bind λy0=>
  pIf (y0 != 0)
   (some (y0,0,0,0,0,false,[],[],[],[]))
   ((z6e n b).bind λy1=>
   pIf (!y1)
    (z48 n true (zz1.mk 0 (zz0.mk 0 (yz1.mk 0 0) false [] []) [] []) b c.re a.re)
    ((zzl n c.re).bind λy2=>
    z48 n (y2 != 0) (zz1.mk 0 (zz0.mk 0 (yz1.mk 0 0) false [] []) [] []) b c.re a.re))
def z48:Nat->Bool->zz1->B8->zz0->zz1->Ot (Int×Int×Int×Int×Int×Bool×B8×kz2×B8×yz3)
 |0,_,_,_,_,_=>none
 |n+1,a,b,c,d,e=>
  pIf a
   (some (8,0,0,0,0,false,[],[],[],[]))
   ((z55 n e.re c d.kind d.num.num d.num.den d.truth d.str d.list).bind λy3=>
   (z4o n (zz1.mk y3.2.2.2.2.2.2.2.1 (zz0.mk y3.2.2.2.2.2.2.2.2.1 (yz1.mk y3.2.2.2.2.2.2.2.2.2.1 y3.2.2.2.2.2.2.2.2.2.2.1) y3.2.2.2.2.2.2.2.2.2.2.2.1 y3.2.2.2.2.2.2.2.2.2.2.2.2.1 y3.2.2.2.2.2.2.2.2.2.2.2.2.2.1) y3.2.2.2.2.2.2.2.2.2.2.2.2.2.2.1 y3.2.2.2.2.2.2.2.2.2.2.2.2.2.2.2)).bind λy4=>
   pIf (y4 != 0)
    (some (y4,0,0,0,0,false,[],[],[],[]))
    (some (0,y3.2.2.2.2.2.2.2.1,y3.2.2.2.2.2.2.2.2.1,y3.2.2.2.2.2.2.2.2.2.1,y3.2.2.2.2.2.2.2.2.2.2.1,y3.2.2.2.2.2.2.2.2.2.2.2.1,y3.2.2.2.2.2.2.2.2.2.2.2.2.1,y3.2.2.2.2.2.2.2.2.2.2.2.2.2.1,y3.2.2.2.2.2.2.2.2.2.2.2.2.2.2.1,y3.2.2.2.2.2.2.2.2.2.2.2.2.2.2.2)))
end
def ygg:LSh:=⟨[(6,(.ptr 0 0)),(7,dI)],[(.cells [dU,dU,dI,dI,dB,dS,dL 1,dS,(.own 1)]),(.deep 29 2)],0,36,[]⟩
noncomputable def zug:FI dat:=FI.of dat 7 36 0 [dT 2,dS,dT 1] [] [(.agg [dU,dU,dI,dI,dB,dS,dL 1,dS,(.own 1)]),dI] [(.cells [dU,dU,dI,dI,dB,dS,dL 1,dS,(.own 1)]),(.deep 29 2)] false ygg (R:=Int×Int×Int×Int×Int×Bool×B8×kz2×B8×yz3) (λx=>(x.1,x.2.1,x.2.2.1,x.2.2.2.1,x.2.2.2.2.1,x.2.2.2.2.2.1,x.2.2.2.2.2.2.1,x.2.2.2.2.2.2.2.1,x.2.2.2.2.2.2.2.2.1,x.2.2.2.2.2.2.2.2.2.1)) (λr=>(r.2.1,r.2.2.1,r.2.2.2.1,r.2.2.2.2.1,r.2.2.2.2.2.1,r.2.2.2.2.2.2.1,r.2.2.2.2.2.2.2.1,r.2.2.2.2.2.2.2.2.1,r.1,r.2.1,r.2.2.1,r.2.2.2.1,r.2.2.2.2.1,r.2.2.2.2.2.1,r.2.2.2.2.2.2.1,r.2.2.2.2.2.2.2.1,r.2.2.2.2.2.2.2.2.1,r.2.2.2.2.2.2.2.2.2,())) (λn=>u3 (za1 n))
 (λn=>[(0,⟨⟨[(6,(.ptr 0 0)),(4,(.ptr 1 0)),(5,(.ptr 2 0)),(3,(.ptr 3 0)),(24,dB)],[(.st 2),(.cells [dS]),(.st 1),(.st 2)],0,36,[]⟩,u5 (z48 n)⟩)]) (anb [(15,0)] f7)
theorem ycq:FOk prog zug:=okF (bs:=[zas,zjd,zei,z4r]) ⟨y2l,zol,zoj,z97,trivial⟩ func7 ntmps7 call7
 (λ_ _=>tr (za1.eq_2 ..))
 (λn=>⟨λx=>tr (z48.eq_2 x.1 x.2.1 x.2.2.1 x.2.2.2.1 x.2.2.2.2.1 n),
  trivial⟩)
mutual
def z6h:Nat->zz1->Ot Int
 |0,_=>none
 |n+1,a=>
  z39 n 0 1 a.re
def z39:Nat->Int->Int->zz1->Ot Int
 |0,_,_,_=>none
 |n+1,a,b,c=>
  pIf (decide (a<(c.args.length:Int)))
   ((ix c.args a).bind λx0=>
   (z6h n x0.re).bind λy1=>
   z39 n (IntKind.i64.wrap (a+1)) (mxI b (IntKind.i64.wrap (1+y1))) c.re)
   (some b)
end
def yde:LSh:=⟨[(2,dI)],[],0,22,[]⟩
noncomputable def zbn:FI dat:=FI.of dat 42 22 0 [dT 2] [] [dI] [] true yde (R:=Int) Prod.fst (·,()) (λn=>u1 (z6h n))
 (λn=>[(0,⟨⟨[(4,dI),(1,(.ptr 0 0)),(3,dI)],[(.st 2)],0,22,[]⟩,u3 (z39 n)⟩)]) (anb [(8,0)] f42)
noncomputable def y90:List (FI dat):=[zbn]++[]
theorem yap:(zbn).Good prog dat (tb y90):=FI.kzd (hD:=yz4 _) func42 ntmps42 call42 (by kernel_rfl) (Qac (by kernel_rfl)) (by kernel_rfl) (λn=>by kernel_rfl) (λx=>by kernel_rfl) (λ_=>rfl) ⟨λ_=>rfl,trivial⟩
 (λ_ _=>tr (z6h.eq_2 ..))
 (λn=>⟨λ_=>tr (z39.eq_2 ..),
  trivial⟩)
 (λx=>.inl rfl)
theorem ycz:OkL prog [zbn]:=yzh (yz4 _) (bs:=[]) trivial ⟨yap,trivial⟩
theorem y4f:FOk prog zbn:=ycz.1
mutual
def z8a:Nat->Int->Ot Int
 |0,_=>none
 |n+1,a=>
  pIf (a==1)
   (z4y n a true)
   (z4y n a (a==2))
def z4y:Nat->Int->Bool->Ot Int
 |0,_,_=>none
 |n+1,a,b=>
  pIf b
   (some 0)
   (pIf (decide (a>=3))
     (pIf (decide (a<=10))
       (zzg n a true)
       (pIf (a==13)
         (zzg n a true)
         (pIf (a==14)
           (zzg n a true)
           (zzg n a (a==17)))))
     (pIf (a==13)
       (zzg n a true)
       (pIf (a==14)
         (zzg n a true)
         (zzg n a (a==17)))))
def zzg:Nat->Int->Bool->Ot Int
 |0,_,_=>none
 |n+1,a,b=>
  pIf b
   (some 2)
   (pIf (a==11)
     (z38 n a true)
     (pIf (a==15)
       (z38 n a true)
       (z38 n a (a==16))))
def z38:Nat->Int->Bool->Ot Int
 |0,_,_=>none
 |n+1,a,b=>
  pIf b
   (some 1)
   (pIf (a==12)
     (some 3)
     (pIf (a==18)
       (some (-1))
       (some (-2))))
end
def ycf:LSh:=⟨[(2,dI)],[],0,46,[]⟩
noncomputable def zk2:FI dat:=FI.of dat 57 46 0 [dU] [] [dI] [] true ycf (R:=Int) Prod.fst (·,()) (λn=>u1 (z8a n))
 (λn=>[(0,⟨⟨[(0,dU),(3,dB)],[],0,46,[]⟩,u2 (z4y n)⟩),(1,⟨⟨[(0,dU),(10,dB)],[],0,46,[]⟩,u2 (zzg n)⟩),(2,⟨⟨[(0,dU),(29,dB)],[],0,46,[]⟩,u2 (z38 n)⟩)]) (anb [(6,0),(12,1),(18,2)] f57)
theorem y6z:FOk prog zk2:=okF (bs:=[]) trivial func57 ntmps57 call57
 (λ_ _=>tr (z8a.eq_2 ..))
 (λn=>⟨λ_=>tr (z4y.eq_2 ..),
  λ_=>tr (zzg.eq_2 ..),
  λ_=>tr (z38.eq_2 _ _ n),
  trivial⟩)
mutual
def z6k:Nat->zz0->Ot Int
 |0,_=>none
 |n+1,a=>
  z34 n 0 1 a.re
def z34:Nat->Int->Int->zz0->Ot Int
 |0,_,_,_=>none
 |n+1,a,b,c=>
  pIf (decide (a<(c.list.length:Int)))
   (z2c n a b (c.kind==4) c.re)
   (z2c n a b false c.re)
def z2c:Nat->Int->Int->Bool->zz0->Ot Int
 |0,_,_,_,_=>none
 |n+1,a,b,c,d=>
  pIf c
   ((ix d.list a).bind λx0=>
   (z6k n x0.re).bind λy1=>
   z34 n (IntKind.i64.wrap (a+1)) (mxI b (IntKind.i64.wrap (1+y1))) d.re)
   (some b)
end
def ycs:LSh:=⟨[(2,dI)],[],0,27,[]⟩
noncomputable def zcc:FI dat:=FI.of dat 45 27 0 [dT 1] [] [dI] [] true ycs (R:=Int) Prod.fst (·,()) (λn=>u1 (z6k n))
 (λn=>[(0,⟨⟨[(4,dI),(1,(.ptr 0 0)),(3,dI)],[(.st 1)],0,27,[]⟩,u3 (z34 n)⟩),(1,⟨⟨[(1,(.ptr 0 0)),(4,dI),(3,dI),(14,dB)],[(.st 1)],0,27,[]⟩,u4 (z2c n)⟩)]) (anb [(8,0),(12,1)] f45)
noncomputable def yah:List (FI dat):=[zcc]++[]
theorem y9t:(zcc).Good prog dat (tb yah):=FI.kzd (hD:=yz4 _) func45 ntmps45 call45 (by kernel_rfl) (Qac (by kernel_rfl)) (by kernel_rfl) (λn=>by kernel_rfl) (λx=>by kernel_rfl) (λ_=>rfl) ⟨λ_=>rfl,λ_=>rfl,trivial⟩
 (λ_ _=>tr (z6k.eq_2 ..))
 (λn=>⟨λ_=>tr (z34.eq_2 ..),
  λ_=>tr (z2c.eq_2 ..),
  trivial⟩)
 (λx=>.inl rfl)
theorem yb6:OkL prog [zcc]:=yzh (yz4 _) (bs:=[]) trivial ⟨y9t,trivial⟩
theorem y6p:FOk prog zcc:=yb6.1
mutual
def z4j:Nat->Int->Int->Ot Int
 |0,_,_=>none
 |n+1,a,b=>
  z0t n b a
def z0t:Nat->Int->Int->Ot Int
 |0,_,_=>none
 |n+1,a,b=>
  pIf (a != 0)
   ((rem .i64 b a).bind λx0=>
   z0t n x0 a)
   (pIf (decide (b<0))
     (some (IntKind.i64.wrap (0-b)))
     (some b))
end
def y1l:LSh:=⟨[(4,dI)],[],0,16,[]⟩
noncomputable def zco:FI dat:=FI.of dat 70 16 0 [dI,dI] [] [dI] [] true y1l (R:=Int) Prod.fst (·,()) (λn=>u2 (z4j n))
 (λn=>[(0,⟨⟨[(1,dI),(0,dI)],[],0,16,[]⟩,u2 (z0t n)⟩)]) (anb [(4,0)] f70)
theorem zkg:FOk prog zco:=okF (bs:=[]) trivial func70 ntmps70 call70
 (λ_ _=>tr (z4j.eq_2 ..))
 (λn=>⟨λ_=>tr (z0t.eq_2 ..),
  trivial⟩)
mutual
def yzl:Nat->yz1->Ot Int
 |0,_=>none
 |n+1,a=>
  pIf (decide (a.den<1))
   (yzk n true)
   (pIf (decide (a.den>1000000000))
     (yzk n true)
     (pIf (decide (a.num<(-1000000000)))
       (yzk n true)
       (pIf (decide (a.num>1000000000))
         (yzk n true)
         ((z4j n a.num a.den).bind λy0=>
         yzk n (y0 != 1)))))
def yzk:Nat->Bool->Ot Int
 |0,_=>none
 |n+1,a=>
  pIf a
   (some 8)
   (some 0)
end
def y6x:LSh:=⟨[(2,dI)],[],0,29,[]⟩
noncomputable def z6d:FI dat:=FI.of dat 60 29 0 [dT 0] [] [dI] [] true y6x (R:=Int) Prod.fst (·,()) (λn=>u1 (yzl n))
 (λn=>[(0,⟨⟨[(28,dB)],[],0,29,[]⟩,u1 (yzk n)⟩)]) (anb [(5,0)] f60)
theorem zcl:FOk prog z6d:=okF (bs:=[zco]) ⟨zkg,trivial⟩ func60 ntmps60 call60
 (λ_ _=>tr (yzl.eq_2 ..))
 (λn=>⟨λ_=>tr (yzk.eq_2 _ n),
  trivial⟩)
mutual
def z6f:Nat->zz0->Ot Bool
 |0,_=>none
 |n+1,a=>
  pIf (a.kind==1)
   ((yzl n a.num).bind λy0=>
   pIf (y0==0)
    (pIf (!a.truth)
      (pIf ((a.str.length:Int)==0)
        (some ((a.list.length:Int)==0))
        (some false))
      (some false))
    (some false))
   (pIf (a.kind==2)
     (pIf ((a.num.num==0)&&((a.num.den==0)&&true))
       (pIf ((a.str.length:Int)==0)
         (some ((a.list.length:Int)==0))
         (some false))
       (some false))
     (pIf (a.kind==3)
       (pIf (!((a.num.num==0)&&((a.num.den==0)&&true)))
         (zzn n true a.re)
         (pIf a.truth
           (zzn n true a.re)
           (pIf (decide ((a.list.length:Int)>0))
             (zzn n true a.re)
             (zzn n (decide ((a.str.length:Int)>60)) a.re))))
       (pIf (a.kind==4)
         (pIf (!((a.num.num==0)&&((a.num.den==0)&&true)))
           (yzy n true a.re)
           (pIf a.truth
             (yzy n true a.re)
             (yzy n (decide ((a.str.length:Int)>0)) a.re)))
         (some false))))
def zzn:Nat->Bool->zz0->Ot Bool
 |0,_,_=>none
 |n+1,a,b=>
  pIf a
   (some false)
   (z30 n 0 b.re)
def z30:Nat->Int->zz0->Ot Bool
 |0,_,_=>none
 |n+1,a,b=>
  pIf (decide (a<(b.str.length:Int)))
   ((ix b.str a).bind λx1=>
   pIf (decide ((x1.toNat:Int)<32))
    (z2n n a true b.re)
    ((ix b.str a).bind λx2=>
    z2n n a (decide ((x2.toNat:Int)>126)) b.re))
   (some true)
def z2n:Nat->Int->Bool->zz0->Ot Bool
 |0,_,_,_=>none
 |n+1,a,b,c=>
  pIf b
   (some false)
   (z30 n (IntKind.i64.wrap (a+1)) c.re)
def yzy:Nat->Bool->zz0->Ot Bool
 |0,_,_=>none
 |n+1,a,b=>
  pIf a
   (some false)
   (z2p n 0 b.re)
def z2p:Nat->Int->zz0->Ot Bool
 |0,_,_=>none
 |n+1,a,b=>
  pIf (decide (a<(b.list.length:Int)))
   ((ix b.list a).bind λx3=>
   (z6f n x3.re).bind λy4=>
   pIf (!y4)
    (some false)
    (z2p n (IntKind.i64.wrap (a+1)) b.re))
   (some true)
end
def yaa:LSh:=⟨[(2,dB)],[],0,121,[]⟩
noncomputable def zc0:FI dat:=FI.of dat 46 121 0 [dT 1] [] [dB] [] true yaa (R:=Bool) Prod.fst (·,()) (λn=>u1 (z6f n))
 (λn=>[(0,⟨⟨[(1,(.ptr 0 0)),(71,dB)],[(.st 1)],0,121,[]⟩,u2 (zzn n)⟩),(1,⟨⟨[(4,dI),(1,(.ptr 0 0))],[(.st 1)],0,121,[]⟩,u2 (z30 n)⟩),(2,⟨⟨[(1,(.ptr 0 0)),(4,dI),(90,dB)],[(.st 1)],0,121,[]⟩,u3 (z2n n)⟩),(3,⟨⟨[(1,(.ptr 0 0)),(106,dB)],[(.st 1)],0,121,[]⟩,u2 (yzy n)⟩),(4,⟨⟨[(5,dI),(1,(.ptr 0 0))],[(.st 1)],0,121,[]⟩,u2 (z2p n)⟩)]) (anb [(26,0),(35,1),(46,2),(61,3),(70,4)] f46)
noncomputable def y99:List (FI dat):=[zc0]++[z6d]
theorem ycd:(zc0).Good prog dat (tb y99):=FI.kzd (hD:=yz4 _) func46 ntmps46 call46 (by kernel_rfl) (Qac (by kernel_rfl)) (by kernel_rfl) (λn=>by kernel_rfl) (λx=>by kernel_rfl) (λ_=>rfl) ⟨λ_=>rfl,λ_=>rfl,λ_=>rfl,λ_=>rfl,λ_=>rfl,trivial⟩
 (λ_ _=>tr (z6f.eq_2 ..))
 (λn=>⟨λ_=>tr (zzn.eq_2 ..),
  λ_=>tr (z30.eq_2 ..),
  λ_=>tr (z2n.eq_2 ..),
  λ_=>tr (yzy.eq_2 ..),
  λ_=>tr (z2p.eq_2 ..),
  trivial⟩)
 (λx=>.inl rfl)
theorem ya3:OkL prog [zc0]:=yzh (yz4 _) (bs:=[z6d]) ⟨zcl,trivial⟩ ⟨ycd,trivial⟩
theorem y4e:FOk prog zc0:=ya3.1
mutual
def yze:Nat->zz0->Ot Int
 |0,_=>none
 |n+1,a=>
  (z1i n a.re).bind λy0=>
  pIf (decide (y0>100))
   (z19 n true a.re)
   ((z6k n a.re).bind λy1=>
   z19 n (decide (y1>6)) a.re)
def z19:Nat->Bool->zz0->Ot Int
 |0,_,_=>none
 |n+1,a,b=>
  pIf a
   (some 4)
   ((z6f n b.re).bind λy2=>
   pIf (!y2)
    (some 8)
    (some 0))
end
def y5c:LSh:=⟨[(2,dI)],[],0,14,[]⟩
noncomputable def z4q:FI dat:=FI.of dat 28 14 0 [dT 1] [] [dI] [] true y5c (R:=Int) Prod.fst (·,()) (λn=>u1 (yze n))
 (λn=>[(0,⟨⟨[(1,(.ptr 0 0)),(10,dB)],[(.st 1)],0,14,[]⟩,u2 (z19 n)⟩)]) (anb [(5,0)] f28)
theorem z9b:FOk prog z4q:=okF (bs:=[z6b,zcc,zc0]) ⟨zfs,y6p,y4e,trivial⟩ func28 ntmps28 call28
 (λ_ _=>tr (yze.eq_2 ..))
 (λn=>⟨λ_=>tr (z19.eq_2 ..),
  trivial⟩)
mutual
def kzo:Nat->zz0->zz0->Ot Bool
 |0,_,_=>none
 |n+1,a,b=>
  pIf (a.kind != b.kind)
   (yzp n true b.re a.re)
   (pIf (!((a.num.num==b.num.num)&&((a.num.den==b.num.den)&&true)))
     (yzp n true b.re a.re)
     (pIf (!(a.truth==b.truth))
       (yzp n true b.re a.re)
       (pIf (!(a.str==b.str))
         (yzp n true b.re a.re)
         (yzp n ((a.list.length:Int) != (b.list.length:Int)) b.re a.re))))
def yzp:Nat->Bool->zz0->zz0->Ot Bool
 |0,_,_,_=>none
 |n+1,a,b,c=>
  pIf a
   (some false)
   (z2d n 0 b.re c.re)
def z2d:Nat->Int->zz0->zz0->Ot Bool
 |0,_,_,_=>none
 |n+1,a,b,c=>
  pIf (decide (a<(c.list.length:Int)))
   ((ix c.list a).bind λx0=>
   (ix b.list a).bind λx1=>
   (kzo n x0.re x1.re).bind λy2=>
   pIf (!y2)
    (some false)
    (z2d n (IntKind.i64.wrap (a+1)) b.re c.re))
   (some true)
end
def y9s:LSh:=⟨[(4,dB)],[],0,60,[]⟩
noncomputable def z1y:FI dat:=FI.of dat 34 60 0 [dT 1,dT 1] [] [dB] [] true y9s (R:=Bool) Prod.fst (·,()) (λn=>u2 (kzo n))
 (λn=>[(0,⟨⟨[(3,(.ptr 0 0)),(2,(.ptr 1 0)),(40,dB)],[(.st 1),(.st 1)],0,60,[]⟩,u3 (yzp n)⟩),(1,⟨⟨[(5,dI),(3,(.ptr 0 0)),(2,(.ptr 1 0))],[(.st 1),(.st 1)],0,60,[]⟩,u3 (z2d n)⟩)]) (anb [(5,0),(14,1)] f34)
noncomputable def yc2:List (FI dat):=[z1y]++[]
theorem yb8:(z1y).Good prog dat (tb yc2):=FI.kzd (hD:=yz4 _) func34 ntmps34 call34 (by kernel_rfl) (Qac (by kernel_rfl)) (by kernel_rfl) (λn=>by kernel_rfl) (λx=>by kernel_rfl) (λ_=>rfl) ⟨λ_=>rfl,λ_=>rfl,trivial⟩
 (λ_ _=>tr (kzo.eq_2 ..))
 (λn=>⟨λ_=>tr (yzp.eq_2 ..),
  λ_=>tr (z2d.eq_2 ..),
  trivial⟩)
 (λx=>.inl rfl)
theorem y93:OkL prog [z1y]:=yzh (yz4 _) (bs:=[]) trivial ⟨yb8,trivial⟩
theorem zda:FOk prog z1y:=y93.1
def z5q:Nat->Int->Ot Bool
 |0,_=>none
 |n+1,a=>
  pIf (decide (a>=97))
   (some (decide (a<=122)))
   (some false)
def zye:LSh:=⟨[(2,dB)],[],0,9,[]⟩
noncomputable def zlq:FI dat:=FI.of dat 58 9 0 [dU] [] [dB] [] true zye (R:=Bool) Prod.fst (·,()) (λn=>u1 (z5q n))
 (λn=>[]) (anb [] f58)
theorem zvr:FOk prog zlq:=okF (bs:=[]) trivial func58 ntmps58 call58
 (λn=>λ_=>tr (z5q.eq_2 _ n))
 (λn=>trivial)
def z6z:Nat->Int->Ot Bool
 |0,_=>none
 |n+1,a=>
  pIf (decide (a>=48))
   (some (decide (a<=57)))
   (some false)
def y7e:LSh:=⟨[(2,dB)],[],0,9,[]⟩
noncomputable def zok:FI dat:=FI.of dat 59 9 0 [dU] [] [dB] [] true y7e (R:=Bool) Prod.fst (·,()) (λn=>u1 (z6z n))
 (λn=>[]) (anb [] f59)
theorem y0j:FOk prog zok:=okF (bs:=[]) trivial func59 ntmps59 call59
 (λn=>λ_=>tr (z6z.eq_2 _ n))
 (λn=>trivial)
mutual
def z88:Nat->B8->Ot Bool
 |0,_=>none
 |n+1,a=>
  zzj n 0 a
def zzj:Nat->Int->B8->Ot Bool
 |0,_,_=>none
 |n+1,a,b=>
  pIf (decide (a<(b.length:Int)))
   ((ix b a).bind λx0=>
   (z5q n (x0.toNat:Int)).bind λy1=>
   pIf (!y1)
    (pIf (a==0)
      (zzo n b a true)
      ((ix b a).bind λx2=>
      pIf ((x2.toNat:Int) != 45)
       ((ix b a).bind λx3=>
       (z6z n (x3.toNat:Int)).bind λy4=>
       zzo n b a (!y4))
       (zzo n b a false)))
    (zzo n b a false))
   (pIf (decide ((b.length:Int)>=1))
     (some (decide ((b.length:Int)<=40)))
     (some false))
def zzo:Nat->B8->Int->Bool->Ot Bool
 |0,_,_,_=>none
 |n+1,a,b,c=>
  pIf c
   (some false)
   (zzj n (IntKind.i64.wrap (b+1)) a)
end
def yat:LSh:=⟨[(2,dB)],[],0,40,[]⟩
noncomputable def zrz:FI dat:=FI.of dat 44 40 0 [dS] [] [dB] [] true yat (R:=Bool) Prod.fst (·,()) (λn=>u1 (z88 n))
 (λn=>[(0,⟨⟨[(3,dI),(0,dS)],[],0,40,[]⟩,u2 (zzj n)⟩),(1,⟨⟨[(0,dS),(3,dI),(31,dB)],[],0,40,[]⟩,u3 (zzo n)⟩)]) (anb [(6,0),(17,1)] f44)
theorem y6f:FOk prog zrz:=okF (bs:=[zlq,zok]) ⟨zvr,y0j,trivial⟩ func44 ntmps44 call44
 (λ_ _=>tr (z88.eq_2 ..))
 (λn=>⟨λ_=>tr (zzj.eq_2 ..),
  λ_=>tr (zzo.eq_2 ..),
  trivial⟩)
def z5b:Nat->B8->Ot Bool
 |0,_=>none
 |n+1,a=>
  (z88 n a).bind λy0=>
  pIf y0
   (pIf (!(a==[116,114,117,101]))
     (some (!(a==[102,97,108,115,101])))
     (some false))
   (some false)
def y4g:LSh:=⟨[(2,dB)],[],0,13,[]⟩
noncomputable def zdf:FI dat:=FI.of dat 27 13 0 [dS] [] [dB] [] true y4g (R:=Bool) Prod.fst (·,()) (λn=>u1 (z5b n))
 (λn=>[]) (anb [] f27)
theorem zln:FOk prog zdf:=okF (bs:=[zrz]) ⟨y6f,trivial⟩ func27 ntmps27 call27
 (λ_ _=>tr (z5b.eq_2 ..))
 (λn=>trivial)
mutual
def z6j:Nat->zz1->Ot Bool
 |0,_=>none
 |n+1,a=>
  (z8a n a.op).bind λy0=>
  pIf (y0==(-2))
   (z0x n true a.re)
   (pIf (decide (y0>=0))
     (z0x n ((a.args.length:Int) != y0) a.re)
     (z0x n false a.re))
def z0x:Nat->Bool->zz1->Ot Bool
 |0,_,_=>none
 |n+1,a,b=>
  pIf a
   (some false)
   (pIf (b.op==1)
     ((yze n b.value.re).bind λy1=>
     pIf (y1 != 0)
      (kzj n true b.re)
      (pIf (b.value.kind==4)
        (kzj n true b.re)
        (pIf (b.op != 1)
          ((kzo n b.value.re (zz0.mk 0 (yz1.mk 0 0) false [] [])).bind λy2=>
          kzj n (!y2) b.re)
          (kzj n false b.re))))
     (pIf (b.op != 1)
       ((kzo n b.value.re (zz0.mk 0 (yz1.mk 0 0) false [] [])).bind λy3=>
       kzj n (!y3) b.re)
       (kzj n false b.re)))
def kzj:Nat->Bool->zz1->Ot Bool
 |0,_,_=>none
 |n+1,a,b=>
  pIf a
   (some false)
   (pIf (b.op==2)
     ((z5b n b.name).bind λy4=>
     pIf (!y4)
      (yzo n true b.re)
      (pIf (b.op != 2)
        (yzo n (decide ((b.name.length:Int)>0)) b.re)
        (yzo n false b.re)))
     (pIf (b.op != 2)
       (yzo n (decide ((b.name.length:Int)>0)) b.re)
       (yzo n false b.re)))
def yzo:Nat->Bool->zz1->Ot Bool
 |0,_,_=>none
 |n+1,a,b=>
  pIf a
   (some false)
   (z3e n 0 b.re)
def z3e:Nat->Int->zz1->Ot Bool
 |0,_,_=>none
 |n+1,a,b=>
  pIf (decide (a<(b.args.length:Int)))
   ((ix b.args a).bind λx5=>
   (z6j n x5.re).bind λy6=>
   pIf (!y6)
    (some false)
    (z3e n (IntKind.i64.wrap (a+1)) b.re))
   (some true)
end
def y9c:LSh:=⟨[(2,dB)],[],0,82,[]⟩
noncomputable def zca:FI dat:=FI.of dat 43 82 0 [dT 2] [] [dB] [] true y9c (R:=Bool) Prod.fst (·,()) (λn=>u1 (z6j n))
 (λn=>[(0,⟨⟨[(1,(.ptr 0 0)),(20,dB)],[(.st 2)],0,82,[]⟩,u2 (z0x n)⟩),(1,⟨⟨[(1,(.ptr 0 0)),(47,dB)],[(.st 2)],0,82,[]⟩,u2 (kzj n)⟩),(2,⟨⟨[(1,(.ptr 0 0)),(67,dB)],[(.st 2)],0,82,[]⟩,u2 (yzo n)⟩),(3,⟨⟨[(4,dI),(1,(.ptr 0 0))],[(.st 2)],0,82,[]⟩,u2 (z3e n)⟩)]) (anb [(7,0),(15,1),(23,2),(32,3)] f43)
noncomputable def yad:List (FI dat):=[zca]++[zk2,z4q,z1y,zdf]
theorem yc6:(zca).Good prog dat (tb yad):=FI.kzd (hD:=yz4 _) func43 ntmps43 call43 (by kernel_rfl) (Qac (by kernel_rfl)) (by kernel_rfl) (λn=>by kernel_rfl) (λx=>by kernel_rfl) (λ_=>rfl) ⟨λ_=>rfl,λ_=>rfl,λ_=>rfl,λ_=>rfl,trivial⟩
 (λ_ _=>tr (z6j.eq_2 ..))
 (λn=>⟨λ_=>tr (z0x.eq_2 ..),
  λ_=>tr (kzj.eq_2 ..),
  λ_=>tr (yzo.eq_2 ..),
  λ_=>tr (z3e.eq_2 ..),
  trivial⟩)
 (λx=>.inl rfl)
theorem y9h:OkL prog [zca]:=yzh (yz4 _) (bs:=[zk2,z4q,z1y,zdf]) ⟨y6z,z9b,zda,zln,trivial⟩ ⟨yc6,trivial⟩
theorem y4i:FOk prog zca:=y9h.1
mutual
def zzu:Nat->zz1->Ot Int
 |0,_=>none
 |n+1,a=>
  (z3u n a.re).bind λy0=>
  pIf (decide (y0>100))
   (z1b n true a.re)
   ((z6h n a.re).bind λy1=>
   z1b n (decide (y1>12)) a.re)
def z1b:Nat->Bool->zz1->Ot Int
 |0,_,_=>none
 |n+1,a,b=>
  pIf a
   (some 4)
   ((z6j n b.re).bind λy2=>
   pIf (!y2)
    (some 8)
    (some 0))
end
def y5u:LSh:=⟨[(2,dI)],[],0,14,[]⟩
noncomputable def zh8:FI dat:=FI.of dat 26 14 0 [dT 2] [] [dI] [] true y5u (R:=Int) Prod.fst (·,()) (λn=>u1 (zzu n))
 (λn=>[(0,⟨⟨[(1,(.ptr 0 0)),(10,dB)],[(.st 2)],0,14,[]⟩,u2 (z1b n)⟩)]) (anb [(5,0)] f26)
theorem zlr:FOk prog zh8:=okF (bs:=[z8e,zbn,zca]) ⟨zl4,y4f,y4i,trivial⟩ func26 ntmps26 call26
 (λ_ _=>tr (zzu.eq_2 ..))
 (λn=>⟨λ_=>tr (z1b.eq_2 ..),
  trivial⟩)
mutual
def z67:Nat->zz0->Ot zz1
 |0,_=>none
 |n+1,a=>
  pIf (a.kind != 4)
   (some (zz1.mk 1 a.re [] []))
   (z4g n 0 18 0 0 0 false [] [] [] a.re 0 0 0 0 false [] [] [] [] [])
def z4g:Nat->Int->Int->Int->Int->Int->Bool->B8->kz2->B8->zz0->Int->Int->Int->Int->Bool->B8->kz2->B8->yz3->yz3->Ot zz1
 |0,_,_,_,_,_,_,_,_,_,_,_,_,_,_,_,_,_,_,_,_=>none
 |n+1,a,b,c,d,e,f,g,h,i,j,k,l,m,o,p,q,r,s,t,u=>
  pIf (decide (a<(j.list.length:Int)))
   ((ix j.list a).bind λx0=>
   (z67 n x0.re).bind λy1=>
   (ext t [y1.re]).bind λx2=>
   z4g n (IntKind.i64.wrap (a+1)) b c d e f g h i j.re k l m o p q r s x2 u)
   (some (zz1.mk b (zz0.mk c (yz1.mk d e) f g h) i t))
end
def ye6:LSh:=⟨[(2,(.ptr 0 0))],[(.st 2)],0,30,[]⟩
noncomputable def z7i:FI dat:=FI.of dat 47 30 0 [dT 1] [] [dT 2] [] true ye6 (R:=zz1) Prod.fst (·,()) (λn=>u1 (z67 n))
 (λn=>[(0,⟨⟨[(4,dI),(3,(.ptr 0 0)),(1,(.ptr 1 0)),(2,(.ptr 2 0))],[(.cells [dU,dU,dI,dI,dB,dS,dL 1,dS,(.own 3)]),(.st 1),(.cells [dU,dU,dI,dI,dB,dS,dL 1,dS,(.own 4)]),(.acc 29 (.st 2) true),(.acc 29 (.st 2) true)],0,30,[]⟩,λx=>z4g n x.1 x.2.1 x.2.2.1 x.2.2.2.1 x.2.2.2.2.1 x.2.2.2.2.2.1 x.2.2.2.2.2.2.1 x.2.2.2.2.2.2.2.1 x.2.2.2.2.2.2.2.2.1 x.2.2.2.2.2.2.2.2.2.1 x.2.2.2.2.2.2.2.2.2.2.1 x.2.2.2.2.2.2.2.2.2.2.2.1 x.2.2.2.2.2.2.2.2.2.2.2.2.1 x.2.2.2.2.2.2.2.2.2.2.2.2.2.1 x.2.2.2.2.2.2.2.2.2.2.2.2.2.2.1 x.2.2.2.2.2.2.2.2.2.2.2.2.2.2.2.1 x.2.2.2.2.2.2.2.2.2.2.2.2.2.2.2.2.1 x.2.2.2.2.2.2.2.2.2.2.2.2.2.2.2.2.2.1 x.2.2.2.2.2.2.2.2.2.2.2.2.2.2.2.2.2.2.1 x.2.2.2.2.2.2.2.2.2.2.2.2.2.2.2.2.2.2.2.1⟩)]) (anb [(16,0)] f47)
noncomputable def ye0:List (FI dat):=[z7i]++[]
theorem yf3:(z7i).Good prog dat (tb ye0):=FI.kzd (hD:=yz4 _) func47 ntmps47 call47 (by kernel_rfl) (Qac (by kernel_rfl)) (by kernel_rfl) (λn=>by kernel_rfl) (λx=>by kernel_rfl) (λ_=>rfl) ⟨λ_=>rfl,trivial⟩
 (λ_ _=>tr (z67.eq_2 ..))
 (λn=>⟨λ_=>tr (z4g.eq_2 ..),
  trivial⟩)
 (λx=>.inl rfl)
theorem yhw:OkL prog [z7i]:=yzh (yz4 _) (bs:=[]) trivial ⟨yf3,trivial⟩
theorem zqt:FOk prog z7i:=yhw.1
mutual
def z3y:Nat->zz1->B8->zz0->Ot zz1
 |0,_,_,_=>none
 |n+1,a,b,c=>
  pIf (a.op==2)
   (z0q n b (a.name==b) 0 0 0 0 false [] [] [] c.re a.re [])
   (z0q n b false 0 0 0 0 false [] [] [] c.re a.re [])
def z0q:Nat->B8->Bool->Int->Int->Int->Int->Bool->B8->kz2->B8->zz0->zz1->yz3->Ot zz1
 |0,_,_,_,_,_,_,_,_,_,_,_,_,_=>none
 |n+1,a,b,c,d,e,f,g,h,i,j,k,l,m=>
  pIf b
   ((z67 n k.re).bind λy0=>
   some y0.re)
   (z0s n 0 a l.op l.value.kind l.value.num.num l.value.num.den l.value.truth l.value.str l.value.list l.name k.re l.re c d e f g h i j [] m)
def z0s:Nat->Int->B8->Int->Int->Int->Int->Bool->B8->kz2->B8->zz0->zz1->Int->Int->Int->Int->Bool->B8->kz2->B8->yz3->yz3->Ot zz1
 |0,_,_,_,_,_,_,_,_,_,_,_,_,_,_,_,_,_,_,_,_,_,_=>none
 |n+1,a,b,c,d,e,f,g,h,i,j,k,l,m,o,p,q,r,s,t,u,v,w=>
  pIf (decide (a<(l.args.length:Int)))
   ((ix l.args a).bind λx1=>
   (z3y n x1.re b k.re).bind λy2=>
   (ext v [y2.re]).bind λx3=>
   z0s n (IntKind.i64.wrap (a+1)) b c d e f g h i j k.re l.re m o p q r s t u x3 w)
   (some (zz1.mk c (zz0.mk d (yz1.mk e f) g h i) j v))
end
def y1t:LSh:=⟨[(6,(.ptr 0 0))],[(.st 2)],0,43,[]⟩
noncomputable def z96:FI dat:=FI.of dat 29 43 0 [dT 2,dS,dT 1] [] [dT 2] [] true y1t (R:=zz1) Prod.fst (·,()) (λn=>u3 (z3y n))
 (λn=>[(0,⟨⟨[(6,(.ptr 0 0)),(5,(.ptr 1 0)),(1,dS),(3,(.ptr 2 0)),(17,dB)],[(.cells [dU,dU,dI,dI,dB,dS,dL 1,dS,(.own 3)]),(.st 1),(.st 2),(.acc 29 (.st 2) true)],0,43,[]⟩,λx=>z0q n x.1 x.2.1 x.2.2.1 x.2.2.2.1 x.2.2.2.2.1 x.2.2.2.2.2.1 x.2.2.2.2.2.2.1 x.2.2.2.2.2.2.2.1 x.2.2.2.2.2.2.2.2.1 x.2.2.2.2.2.2.2.2.2.1 x.2.2.2.2.2.2.2.2.2.2.1 x.2.2.2.2.2.2.2.2.2.2.2.1 x.2.2.2.2.2.2.2.2.2.2.2.2.1⟩),(1,⟨⟨[(8,dI),(7,(.ptr 0 0)),(5,(.ptr 1 0)),(1,dS),(3,(.ptr 2 0)),(6,(.ptr 3 0))],[(.cells [dU,dU,dI,dI,dB,dS,dL 1,dS,(.own 4)]),(.st 1),(.st 2),(.cells [dU,dU,dI,dI,dB,dS,dL 1,dS,(.own 5)]),(.acc 29 (.st 2) true),(.acc 29 (.st 2) true)],0,43,[]⟩,λx=>z0s n x.1 x.2.1 x.2.2.1 x.2.2.2.1 x.2.2.2.2.1 x.2.2.2.2.2.1 x.2.2.2.2.2.2.1 x.2.2.2.2.2.2.2.1 x.2.2.2.2.2.2.2.2.1 x.2.2.2.2.2.2.2.2.2.1 x.2.2.2.2.2.2.2.2.2.2.1 x.2.2.2.2.2.2.2.2.2.2.2.1 x.2.2.2.2.2.2.2.2.2.2.2.2.1 x.2.2.2.2.2.2.2.2.2.2.2.2.2.1 x.2.2.2.2.2.2.2.2.2.2.2.2.2.2.1 x.2.2.2.2.2.2.2.2.2.2.2.2.2.2.2.1 x.2.2.2.2.2.2.2.2.2.2.2.2.2.2.2.2.1 x.2.2.2.2.2.2.2.2.2.2.2.2.2.2.2.2.2.1 x.2.2.2.2.2.2.2.2.2.2.2.2.2.2.2.2.2.2.1 x.2.2.2.2.2.2.2.2.2.2.2.2.2.2.2.2.2.2.2.1 x.2.2.2.2.2.2.2.2.2.2.2.2.2.2.2.2.2.2.2.2.1 x.2.2.2.2.2.2.2.2.2.2.2.2.2.2.2.2.2.2.2.2.2.1⟩)]) (anb [(5,0),(18,1)] f29)
noncomputable def zxq:List (FI dat):=[z96]++[z7i]
theorem y22:(z96).Good prog dat (tb zxq):=FI.kzd (hD:=yz4 _) func29 ntmps29 call29 (by kernel_rfl) (Qac (by kernel_rfl)) (by kernel_rfl) (λn=>by kernel_rfl) (λx=>by kernel_rfl) (λ_=>rfl) ⟨λ_=>rfl,λ_=>rfl,trivial⟩
 (λ_ _=>tr (z3y.eq_2 ..))
 (λn=>⟨λ_=>tr (z0q.eq_2 ..),
  λ_=>tr (z0s.eq_2 ..),
  trivial⟩)
 (λx=>.inl rfl)
theorem y0y:OkL prog [z96]:=yzh (yz4 _) (bs:=[z7i]) ⟨zqt,trivial⟩ ⟨y22,trivial⟩
theorem zw6:FOk prog z96:=y0y.1
mutual
def z8c:Nat->zz1->B8->zz0->Ot (Int×zz1)
 |0,_,_,_=>none
 |n+1,a,b,c=>
  (zzu n a.re).bind λy0=>
  pIf (y0 != 0)
   ((zzu n a.re).bind λy1=>
   some (y1,(zz1.mk 0 (zz0.mk 0 (yz1.mk 0 0) false [] []) [] [])))
   ((z5b n b).bind λy2=>
   pIf (!y2)
    (z32 n b true (zz1.mk 0 (zz0.mk 0 (yz1.mk 0 0) false [] []) [] []) c.re a.re)
    ((yze n c.re).bind λy3=>
    z32 n b (y3 != 0) (zz1.mk 0 (zz0.mk 0 (yz1.mk 0 0) false [] []) [] []) c.re a.re))
def z32:Nat->B8->Bool->zz1->zz0->zz1->Ot (Int×zz1)
 |0,_,_,_,_,_=>none
 |n+1,a,b,c,d,e=>
  pIf b
   (some (8,(zz1.mk 0 (zz0.mk 0 (yz1.mk 0 0) false [] []) [] [])))
   ((z3y n e.re a d.re).bind λy4=>
   (zzu n y4.re).bind λy5=>
   pIf (y5 != 0)
    ((zzu n y4.re).bind λy6=>
    some (y6,(zz1.mk 0 (zz0.mk 0 (yz1.mk 0 0) false [] []) [] [])))
    (some (0,y4.re)))
end
def yb3:LSh:=⟨[(6,(.ptr 0 0)),(7,dI)],[(.st 2)],0,35,[]⟩
noncomputable def zrt:FI dat:=FI.of dat 8 35 0 [dT 2,dS,dT 1] [] [dT 2,dI] [] true yb3 (R:=Int×zz1) (λx=>(x.1,x.2.1)) (λr=>(r.2,r.1,())) (λn=>u3 (z8c n))
 (λn=>[(0,⟨⟨[(6,(.ptr 0 0)),(5,(.ptr 1 0)),(1,dS),(3,(.ptr 2 0)),(22,dB)],[(.st 2),(.st 1),(.st 2)],0,35,[]⟩,u5 (z32 n)⟩)]) (anb [(13,0)] f8)
theorem y71:FOk prog zrt:=okF (bs:=[zh8,zdf,z4q,z96]) ⟨zlr,zln,z9b,zw6,trivial⟩ func8 ntmps8 call8
 (λ_ _=>tr (z8c.eq_2 ..))
 (λn=>⟨λx=>tr (z32.eq_2 x.1 x.2.1 x.2.2.1 x.2.2.2.1 x.2.2.2.2.1 n),
  trivial⟩)
mutual
def yzf:Nat->B8->(List B8)->Ot (Int×(List B8))
 |0,_,_=>none
 |n+1,a,b=>
  zza n 0 a (b.length:Int) b
def zza:Nat->Int->B8->Int->(List B8)->Ot (Int×(List B8))
 |0,_,_,_,_=>none
 |n+1,a,b,c,d=>
  pIf (decide (a<c))
   ((ix d a).bind λx0=>
   pIf (b==x0)
    (some (a,d))
    (zza n (IntKind.i64.wrap (a+1)) b c d))
   (some ((-1),d))
end
def ze5:LSh:=⟨[(4,dI)],[(.acc 9 .str true)],1,19,[]⟩
noncomputable def z7z:FI dat:=FI.of dat 71 19 1 [(.own 0),dS] [(.acc 9 .str true)] [dI] [(.acc 9 .str true)] false ze5 (R:=Int×(List B8)) (λx=>(x.1,x.2.1)) (λr=>(r.1,r.2,())) (λn=>u2 (yzf n))
 (λn=>[(0,⟨⟨[(8,dI),(0,(.own 0)),(1,dS),(7,dI)],[(.acc 9 .str true)],1,19,[]⟩,u4 (zza n)⟩)]) (anb [(6,0)] f71)
theorem zdo:FOk prog z7z:=okF (bs:=[]) trivial func71 ntmps71 call71
 (λ_ _=>tr (yzf.eq_2 ..))
 (λn=>⟨λ_=>tr (zza.eq_2 ..),
  trivial⟩)
def kzc:Nat->B8->(List B8)->Ot (Bool×(List B8))
 |0,_,_=>none
 |n+1,a,b=>
  (yzf n a b).bind λy0=>
  some ((decide (y0.1>=0)),y0.2)
def zcq:LSh:=⟨[(4,dB)],[(.acc 9 .str true)],1,9,[]⟩
noncomputable def z2a:FI dat:=FI.of dat 61 9 1 [(.own 0),dS] [(.acc 9 .str true)] [dB] [(.acc 9 .str true)] false zcq (R:=Bool×(List B8)) (λx=>(x.1,x.2.1)) (λr=>(r.1,r.2,())) (λn=>u2 (kzc n))
 (λn=>[]) (anb [] f61)
theorem zcd:FOk prog z2a:=okF (bs:=[z7z]) ⟨zdo,trivial⟩ func61 ntmps61 call61
 (λ_ _=>tr (kzc.eq_2 ..))
 (λn=>trivial)
mutual
def z6i:Nat->Int->Int->Int->Int->Bool->B8->kz2->B8->yz3->(List B8)->Ot (yz3×(List B8))
 |0,_,_,_,_,_,_,_,_,_,_=>none
 |n+1,a,b,c,d,e,f,g,h,i,j=>
  pIf (a==2)
   ((kzc n h j).bind λy0=>
   z4t n (!y0.1) i y0.2 a b c d e f g h)
   (z4t n false i j a b c d e f g h)
def z4t:Nat->Bool->yz3->(List B8)->Int->Int->Int->Int->Bool->B8->kz2->B8->Ot (yz3×(List B8))
 |0,_,_,_,_,_,_,_,_,_,_,_=>none
 |n+1,a,b,c,d,e,f,g,h,i,j,k=>
  pIf a
   ((ext c [k]).bind λx1=>
   z2o n b x1 d e f g h i j k)
   (z2o n b c d e f g h i j k)
def z2o:Nat->yz3->(List B8)->Int->Int->Int->Int->Bool->B8->kz2->B8->Ot (yz3×(List B8))
 |0,_,_,_,_,_,_,_,_,_,_=>none
 |n+1,a,b,c,d,e,f,g,h,i,j=>
  z2t n 0 (a.length:Int) a b
def z2t:Nat->Int->Int->yz3->(List B8)->Ot (yz3×(List B8))
 |0,_,_,_,_=>none
 |n+1,a,b,c,d=>
  pIf (decide (a<b))
   ((ix c a).bind λx2=>
   (ix c a).bind λx3=>
   (ix c a).bind λx4=>
   (z6i n x4.op x4.value.kind x4.value.num.num x4.value.num.den x4.value.truth x4.value.str x4.value.list x4.name x3.args d).bind λy5=>
   (ix c a).bind λx6=>
   z2t n (IntKind.i64.wrap (a+1)) b (c.set (Int.toNat a) (zz1.mk x6.op x6.value.re x6.name y5.1)) y5.2)
   (some (c,d))
end
def ydc:LSh:=⟨[],[(.cells [(.own 2)]),(.deep 29 2),(.acc 9 .str true)],1,38,[1]⟩
noncomputable def zbo:FI dat:=FI.of dat 48 38 1 [(.agg [dU,dU,dI,dI,dB,dS,dL 1,dS,(.own 1)]),(.ptr 0 0)] [(.cells [(.own 2)]),(.deep 29 2),(.acc 9 .str true)] [] [(.cells [(.own 2)]),(.deep 29 2),(.acc 9 .str true)] false ydc (R:=yz3×(List B8)) (λx=>(x.1,x.2.1)) (λr=>(r.1,r.2,())) (λn=>u10 (z6i n))
 (λn=>[(0,⟨⟨[(1,(.ptr 0 0)),(2,(.ptr 3 0)),(17,dB)],[(.cells [(.own 2)]),(.deep 29 2),(.acc 9 .str true),(.cells [dU,dU,dI,dI,dB,dS,dL 1,dS,(.own 1)])],1,38,[1]⟩,u11 (z4t n)⟩),(1,⟨⟨[(1,(.ptr 0 0)),(2,(.ptr 3 0))],[(.cells [(.own 2)]),(.deep 29 2),(.acc 9 .str true),(.cells [dU,dU,dI,dI,dB,dS,dL 1,dS,(.own 1)])],1,38,[1]⟩,u10 (z2o n)⟩),(2,⟨⟨[(30,dI),(1,(.ptr 0 0)),(28,(.own 1)),(29,dI)],[(.cells [(.own 2)]),(.deep 29 2),(.acc 9 .str true)],1,38,[1]⟩,u4 (z2t n)⟩)]) (anb [(5,0),(8,1),(11,2)] f48) [1]
noncomputable def y9p:List (FI dat):=[zbo]++[z2a]
theorem yc3:(zbo).Good prog dat (tb y9p):=FI.kzd (hD:=yz4 _) func48 ntmps48 call48 (by kernel_rfl) (Qac (by kernel_rfl)) (by kernel_rfl) (λn=>by kernel_rfl) (λx=>by kernel_rfl) (λ_=>rfl) ⟨λ_=>rfl,λ_=>rfl,λ_=>rfl,trivial⟩
 (λ_ _=>tr (z6i.eq_2 ..))
 (λn=>⟨λ_=>tr (z4t.eq_2 ..),
  λx=>tr (z2o.eq_2 x.1 x.2.1 x.2.2.1 x.2.2.2.1 x.2.2.2.2.1 x.2.2.2.2.2.1 x.2.2.2.2.2.2.1 x.2.2.2.2.2.2.2.1 x.2.2.2.2.2.2.2.2.1 x.2.2.2.2.2.2.2.2.2.1 n),
  λ_=>tr (z2t.eq_2 ..),
  trivial⟩)
 (λx=>.inr (by kernel_rfl))
theorem yc5:OkL prog [zbo]:=yzh (yz4 _) (bs:=[z2a]) ⟨zcd,trivial⟩ ⟨yc3,trivial⟩
theorem y7d:FOk prog zbo:=yc5.1
def z71:Nat->yzt->Int->Int->Int->Int->Bool->B8->kz2->B8->yz3->Ot (Bool×Int×Int×Int×Int×Bool×B8×kz2×B8×yz3)
 |0,_,_,_,_,_,_,_,_,_,_=>none
 |n+1,a,b,c,d,e,f,g,h,i,j=>
  some ((a.name==i),b,c,d,e,f,g,h,i,j)
def y4m:LSh:=⟨[(3,dB)],[(.cells [dU,dU,dI,dI,dB,dS,dL 1,dS,dL 2])],1,9,[]⟩
noncomputable def zop:FI dat:=FI.of dat 73 9 1 [dT 3,(.ptr 0 0)] [(.cells [dU,dU,dI,dI,dB,dS,dL 1,dS,dL 2])] [dB] [(.cells [dU,dU,dI,dI,dB,dS,dL 1,dS,dL 2])] false y4m (R:=Bool×Int×Int×Int×Int×Bool×B8×kz2×B8×yz3) (λx=>(x.1,x.2.1,x.2.2.1,x.2.2.2.1,x.2.2.2.2.1,x.2.2.2.2.2.1,x.2.2.2.2.2.2.1,x.2.2.2.2.2.2.2.1,x.2.2.2.2.2.2.2.2.1,x.2.2.2.2.2.2.2.2.2.1)) (λr=>(r.1,r.2.1,r.2.2.1,r.2.2.2.1,r.2.2.2.2.1,r.2.2.2.2.2.1,r.2.2.2.2.2.2.1,r.2.2.2.2.2.2.2.1,r.2.2.2.2.2.2.2.2.1,r.2.2.2.2.2.2.2.2.2,())) (λn=>u10 (z71 n))
 (λn=>[]) (anb [] f73)
theorem zyg:FOk prog zop:=okF (bs:=[]) trivial func73 ntmps73 call73
 (λn=>λ_=>tr (z71.eq_2 _ _ _ _ _ _ _ _ _ _ n))
 (λn=>trivial)
mutual
def kz9:Nat->yzb->Int->Int->Int->Int->Bool->B8->kz2->B8->yz3->Ot (Int×Int×Int×Int×Int×Bool×B8×kz2×B8×yz3)
 |0,_,_,_,_,_,_,_,_,_,_=>none
 |n+1,a,b,c,d,e,f,g,h,i,j=>
  kz6 n 0 a (a.length:Int) b c d e f g h i j
def kz6:Nat->Int->yzb->Int->Int->Int->Int->Int->Bool->B8->kz2->B8->yz3->Ot (Int×Int×Int×Int×Int×Bool×B8×kz2×B8×yz3)
 |0,_,_,_,_,_,_,_,_,_,_,_,_=>none
 |n+1,a,b,c,d,e,f,g,h,i,j,k,l=>
  pIf (decide (a<c))
   ((ix b a).bind λx0=>
   (z71 n x0.re d e f g h i j k l).bind λy1=>
   pIf y1.1
    (some (a,y1.2.1,y1.2.2.1,y1.2.2.2.1,y1.2.2.2.2.1,y1.2.2.2.2.2.1,y1.2.2.2.2.2.2.1,y1.2.2.2.2.2.2.2.1,y1.2.2.2.2.2.2.2.2.1,y1.2.2.2.2.2.2.2.2.2))
    (kz6 n (IntKind.i64.wrap (a+1)) b c y1.2.1 y1.2.2.1 y1.2.2.2.1 y1.2.2.2.2.1 y1.2.2.2.2.2.1 y1.2.2.2.2.2.2.1 y1.2.2.2.2.2.2.2.1 y1.2.2.2.2.2.2.2.2.1 y1.2.2.2.2.2.2.2.2.2))
   (some ((-1),d,e,f,g,h,i,j,k,l))
end
def zag:LSh:=⟨[(4,dI)],[(.cells [dU,dU,dI,dI,dB,dS,dL 1,dS,dL 2])],1,19,[]⟩
noncomputable def z0b:FI dat:=FI.of dat 72 19 1 [dL 3,(.fn 73 [] [(.ptr 0 0)])] [(.cells [dU,dU,dI,dI,dB,dS,dL 1,dS,dL 2])] [dI] [(.cells [dU,dU,dI,dI,dB,dS,dL 1,dS,dL 2])] false zag (R:=Int×Int×Int×Int×Int×Bool×B8×kz2×B8×yz3) (λx=>(x.1,x.2.1,x.2.2.1,x.2.2.2.1,x.2.2.2.2.1,x.2.2.2.2.2.1,x.2.2.2.2.2.2.1,x.2.2.2.2.2.2.2.1,x.2.2.2.2.2.2.2.2.1,x.2.2.2.2.2.2.2.2.2.1)) (λr=>(r.1,r.2.1,r.2.2.1,r.2.2.2.1,r.2.2.2.2.1,r.2.2.2.2.2.1,r.2.2.2.2.2.2.1,r.2.2.2.2.2.2.2.1,r.2.2.2.2.2.2.2.2.1,r.2.2.2.2.2.2.2.2.2,())) (λn=>u10 (kz9 n))
 (λn=>[(0,⟨⟨[(8,dI),(0,dL 3),(1,(.fn 73 [] [(.ptr 0 0)])),(7,dI)],[(.cells [dU,dU,dI,dI,dB,dS,dL 1,dS,dL 2])],1,19,[]⟩,u12 (kz6 n)⟩)]) (anb [(6,0)] f72)
theorem za7:FOk prog z0b:=okF (bs:=[zop]) ⟨zyg,trivial⟩ func72 ntmps72 call72
 (λ_ _=>tr (kz9.eq_2 ..))
 (λn=>⟨λ_=>tr (kz6.eq_2 ..),
  trivial⟩)
def yzi:Nat->Int->Ot (Res (Int×Unit) Unit)
 |0,_=>none
 |n+1,a=>
  pIf (a != 0)
   (some (Res.pan (a,())))
   (some (Res.ok ()))
def yf4:LSh:=⟨[],[],0,6,[]⟩
noncomputable def z3v:FI dat:=FI.ofP dat 74 6 0 [dI] [] [] [] (.iface 33 dI) [] [] yf4 (R:=Unit) (λx=>()) (λ_=>()) (λn=>u1 (yzi n))
 (λn=>[]) (anb [] f74)
noncomputable def yi9:List (FI dat):=[]
theorem yfb:(z3v).Good prog dat (tb yi9):=FI.zlf (hD:=yz4 _) func74 ntmps74 call74 (by kernel_rfl) (Qac (by kernel_rfl)) (by kernel_rfl) (λn=>by kernel_rfl) trivial (λx=>by kernel_rfl) (λ_=>rfl) trivial
 (λn=>λ_=>tr (yzi.eq_2 _ n))
 (λn=>trivial)
 (λx=>by kernel_rfl)
theorem yeo:OkL prog [z3v]:=zh2 (yz4 _) (bs:=[]) trivial yfb
theorem zev:FOk prog z3v:=yeo.1
mutual
def zze:Nat->Int->kz2->Ot (Res (Int×Unit) Unit)
 |0,_,_=>none
 |n+1,a,b=>
  z4i n 0 a b (b.length:Int)
def z4i:Nat->Int->Int->kz2->Int->Ot (Res (Int×Unit) Unit)
 |0,_,_,_,_=>none
 |n+1,a,b,c,d=>
  pIf (decide (a<d))
   ((ix c a).bind λx0=>
   pIf (x0.kind != b)
    ((yzi n 20).bind λy1=>
    z8n y1 (λr2=>
     z5t n b c d a)
     (λe3=>
     some (Res.pan (e3.1,()))))
    (z5t n b c d a))
   (some (Res.ok ()))
def z5t:Nat->Int->kz2->Int->Int->Ot (Res (Int×Unit) Unit)
 |0,_,_,_,_=>none
 |n+1,a,b,c,d=>
  z4i n (IntKind.i64.wrap (d+1)) a b c
end
def yhh:LSh:=⟨[],[],0,18,[]⟩
noncomputable def z8s:FI dat:=FI.ofP dat 75 18 0 [dU,dL 1] [] [] [] (.iface 33 dI) [] [] yhh (R:=Unit) (λx=>()) (λ_=>()) (λn=>u2 (zze n))
 (λn=>[(0,⟨⟨[(8,dI),(0,dU),(6,dL 1),(7,dI)],[],0,18,[]⟩,u4 (z4i n)⟩),(1,⟨⟨[(0,dU),(6,dL 1),(7,dI),(8,dI)],[],0,18,[]⟩,u4 (z5t n)⟩)]) (anb [(3,0),(19,1)] f75)
noncomputable def yfl:List (FI dat):=[z3v]
theorem yfr:(z8s).Good prog dat (tb yfl):=FI.zlf (hD:=yz4 _) func75 ntmps75 call75 (by kernel_rfl) (Qac (by kernel_rfl)) (by kernel_rfl) (λn=>by kernel_rfl) trivial (λx=>by kernel_rfl) (λ_=>rfl) ⟨λ_=>rfl,λ_=>rfl,trivial⟩
 (λ_ _=>tr (zze.eq_2 ..))
 (λn=>⟨λ_=>tr (z4i.eq_2 ..),
  λ_=>tr (z5t.eq_2 ..),
  trivial⟩)
 (λx=>by kernel_rfl)
theorem yhc:OkL prog [z8s]:=zh2 (yz4 _) (bs:=[z3v]) ⟨zev,trivial⟩ yfr
theorem zqf:FOk prog z8s:=yhc.1
def z6l:Nat->zz0->zz0->Ot Int
 |0,_,_=>none
 |n+1,a,b=>
  (zzl n a.re).bind λy0=>
  pIf (y0 != 0)
   (some y0)
   ((zzl n b.re).bind λy1=>
   some y1)
def yb1:LSh:=⟨[(4,dI)],[],0,13,[]⟩
noncomputable def zji:FI dat:=FI.of dat 106 13 0 [dT 1,dT 1] [] [dI] [] true yb1 (R:=Int) Prod.fst (·,()) (λn=>u2 (z6l n))
 (λn=>[]) (anb [] f106)
theorem zo7:FOk prog zji:=okF (bs:=[z4r]) ⟨z97,trivial⟩ func106 ntmps106 call106
 (λ_ _=>tr (z6l.eq_2 ..))
 (λn=>trivial)
mutual
def z1z:Nat->(List Int)->Ot Int
 |0,_=>none
 |n+1,a=>
  zzy n 0 0 a (a.length:Int)
def zzy:Nat->Int->Int->(List Int)->Int->Ot Int
 |0,_,_,_,_=>none
 |n+1,a,b,c,d=>
  pIf (decide (a<d))
   ((ix c a).bind λx0=>
   pIf (x0 != b)
    (some x0)
    (zzy n (IntKind.i64.wrap (a+1)) b c d))
   (some b)
end
def zpd:LSh:=⟨[(2,dI)],[],0,18,[]⟩
noncomputable def zfm:FI dat:=FI.of dat 121 18 0 [(.d (.sl (.int .i64)))] [] [dI] [] true zpd (R:=Int) Prod.fst (·,()) (λn=>u1 (z1z n))
 (λn=>[(0,⟨⟨[(8,dI),(3,dI),(6,(.d (.sl (.int .i64)))),(7,dI)],[],0,18,[]⟩,u4 (zzy n)⟩)]) (anb [(8,0)] f121)
theorem zno:FOk prog zfm:=okF (bs:=[]) trivial func121 ntmps121 call121
 (λ_ _=>tr (z1z.eq_2 ..))
 (λn=>⟨λ_=>tr (zzy.eq_2 ..),
  trivial⟩)
def z0g:Nat->yz1->yz1->Ot z02
 |0,_,_=>none
 |n+1,a,b=>
  (z1h n a).bind λy0=>
  (z1h n b).bind λy1=>
  (z1z n [y0,y1]).bind λy2=>
  some (z02.mk a b (yz1.mk 0 0) y2)
def y9b:LSh:=⟨[(4,(.ptr 0 0))],[(.st 4)],0,14,[]⟩
noncomputable def z3q:FI dat:=FI.of dat 116 14 0 [dT 0,dT 0] [] [dT 4] [] true y9b (R:=z02) Prod.fst (·,()) (λn=>u2 (z0g n))
 (λn=>[]) (anb [] f116)
theorem zaj:FOk prog z3q:=okF (bs:=[zb0,zfm]) ⟨zfr,zno,trivial⟩ func116 ntmps116 call116
 (λ_ _=>tr (z0g.eq_2 ..))
 (λn=>trivial)
def z74:Nat->yz1->yz1->Ot (Int×Int)
 |0,_,_=>none
 |n+1,a,b=>
  some ((IntKind.i64.wrap ((IntKind.i64.wrap (a.num * b.den))+(IntKind.i64.wrap (b.num * a.den)))),(IntKind.i64.wrap (a.den * b.den)))
def y55:LSh:=⟨[(4,dI),(5,dI)],[],0,22,[]⟩
noncomputable def zhe:FI dat:=FI.of dat 115 22 0 [dT 0,dT 0] [] [dI,dI] [] true y55 (R:=Int×Int) (λx=>(x.1,x.2.1)) (λr=>(r.1,r.2,())) (λn=>u2 (z74 n))
 (λn=>[]) (anb [] f115)
theorem y30:FOk prog zhe:=okF (bs:=[]) trivial func115 ntmps115 call115
 (λn=>λ_=>tr (z74.eq_2 _ _ n))
 (λn=>trivial)
mutual
def z17:Nat->Int->Int->Ot (Int×yz1)
 |0,_,_=>none
 |n+1,a,b=>
  pIf (b==0)
   (some (18,(yz1.mk 0 0)))
   ((z3n n a).bind λy0=>
   (z3n n b).bind λy1=>
   (z7v n y0 y1).bind λy2=>
   (quo .u64 y0 y2).bind λx3=>
   (quo .u64 y1 y2).bind λx4=>
   pIf (decide (x3>1000000000))
    (z2g n b a x4 x3 true (yz1.mk 0 0))
    (z2g n b a x4 x3 (decide (x4>1000000000)) (yz1.mk 0 0)))
def z2g:Nat->Int->Int->Int->Int->Bool->yz1->Ot (Int×yz1)
 |0,_,_,_,_,_,_=>none
 |n+1,a,b,c,d,e,f=>
  pIf e
   (some (16,(yz1.mk 0 0)))
   (pIf (!((decide (b<0))==(decide (a<0))))
     (z2w n f (yz1.mk (IntKind.i64.wrap (0-(IntKind.i64.wrap d))) (IntKind.i64.wrap c)))
     (z2w n f (yz1.mk (IntKind.i64.wrap d) (IntKind.i64.wrap c))))
def z2w:Nat->yz1->yz1->Ot (Int×yz1)
 |0,_,_=>none
 |n+1,a,b=>
  some (0,b)
end
def yaf:LSh:=⟨[(4,(.ptr 0 0)),(5,dI)],[(.st 0)],0,48,[]⟩
noncomputable def zen:FI dat:=FI.of dat 96 48 0 [dI,dI] [] [dT 0,dI] [] true yaf (R:=Int×yz1) (λx=>(x.1,x.2.1)) (λr=>(r.2,r.1,())) (λn=>u2 (z17 n))
 (λn=>[(0,⟨⟨[(4,(.ptr 0 0)),(1,dI),(0,dI),(7,(.d (.int .u64))),(6,(.d (.int .u64))),(31,dB)],[(.st 0)],0,48,[]⟩,u6 (z2g n)⟩),(1,⟨⟨[(4,(.ptr 0 0)),(9,(.ptr 1 0))],[(.st 0),(.st 0)],0,48,[]⟩,u2 (z2w n)⟩)]) (anb [(19,0),(32,1)] f96)
theorem zob:FOk prog zen:=okF (bs:=[zje,zm0]) ⟨zoa,zrg,trivial⟩ func96 ntmps96 call96
 (λ_ _=>tr (z17.eq_2 ..))
 (λn=>⟨λ_=>tr (z2g.eq_2 ..),
  λx=>tr (z2w.eq_2 x.1 x.2.1 n),
  trivial⟩)
def yzs:Nat->Int->Int->z02->Ot z02
 |0,_,_,_=>none
 |n+1,c,d,f=>
  pIf (f.e==0)
   ((z17 n c d).bind λy0=>
   some (z02.mk f.a f.b y0.2 y0.1))
   (some f)
def zty:LSh:=⟨[],[(.st 4)],1,23,[]⟩
noncomputable def kzy:FI dat:=FI.of dat 118 23 1 [(.ptr 0 0),dI,dI] [(.st 4)] [] [(.st 4)] false zty (R:=z02) Prod.fst (·,()) (λn=>u3 (yzs n))
 (λn=>[]) (anb [] f118)
theorem z8i:FOk prog kzy:=okF (bs:=[zen]) ⟨zob,trivial⟩ func118 ntmps118 call118
 (λ_ _=>tr (yzs.eq_2 ..))
 (λn=>trivial)
def zz9:Nat->Int->Int->Int->Int->Int->Int->Int->Int->Int->Int->Ot (Int×Int×Int×Int×Int×Int×Int×Int×Int×Int)
 |0,_,_,_,_,_,_,_,_,_,_=>none
 |n+1,a,b,c,d,e,f,g,h,i,j=>
  some (a,b,c,d,e,f,g,e,f,g)
def zo1:LSh:=⟨[],[(.cells [dI,dI,dI,dI,dI,dI,dI]),(.cells [dI,dI]),(.cells [dI])],3,7,[]⟩
noncomputable def y4k:FI dat:=FI.of dat 117 7 3 [(.ptr 0 0),(.ptr 1 0),(.ptr 2 0)] [(.cells [dI,dI,dI,dI,dI,dI,dI]),(.cells [dI,dI]),(.cells [dI])] [] [(.cells [dI,dI,dI,dI,dI,dI,dI]),(.cells [dI,dI]),(.cells [dI])] false zo1 (R:=Int×Int×Int×Int×Int×Int×Int×Int×Int×Int) (λx=>(x.1,x.2.1,x.2.2.1,x.2.2.2.1,x.2.2.2.2.1,x.2.2.2.2.2.1,x.2.2.2.2.2.2.1,x.2.2.2.2.2.2.2.1,x.2.2.2.2.2.2.2.2.1,x.2.2.2.2.2.2.2.2.2.1)) (λr=>(r.1,r.2.1,r.2.2.1,r.2.2.2.1,r.2.2.2.2.1,r.2.2.2.2.2.1,r.2.2.2.2.2.2.1,r.2.2.2.2.2.2.2.1,r.2.2.2.2.2.2.2.2.1,r.2.2.2.2.2.2.2.2.2,())) (λn=>u10 (zz9 n))
 (λn=>[]) (anb [] f117)
noncomputable def y4z:List (FI dat):=[]
theorem y7b:(y4k).Good prog dat (tb y4z):=FI.kzd (hD:=yz4 _) func117 ntmps117 call117 (by kernel_rfl) (Qac (by kernel_rfl)) (by kernel_rfl) (λn=>by kernel_rfl) (λx=>by kernel_rfl) (λ_=>rfl) trivial
 (λn=>λx=>tr (zz9.eq_2 x.1 x.2.1 x.2.2.1 x.2.2.2.1 x.2.2.2.2.1 x.2.2.2.2.2.1 x.2.2.2.2.2.2.1 x.2.2.2.2.2.2.2.1 x.2.2.2.2.2.2.2.2.1 x.2.2.2.2.2.2.2.2.2.1 n))
 (λn=>trivial)
 (λx=>.inr (by kernel_rfl))
noncomputable def zap:zes dat:={f:=117,args:=[(.ptr 0 0),(.ptr 1 0),(.ptr 2 0)],aos:=[(.cells [dI,dI,dI,dI,dI,dI,dI]),(.cells [dI,dI]),(.cells [dI])],m:=none,ros:=[(.cells [dI,dI,dI,dI,dI,dI,dI]),(.cells [dI,dI]),(.cells [dI])],go:=λx _=>(zz9 9 x.1 x.2.1 x.2.2.1 x.2.2.2.1 x.2.2.2.2.1 x.2.2.2.2.2.1 x.2.2.2.2.2.2.1 x.2.2.2.2.2.2.2.1 x.2.2.2.2.2.2.2.2.1 x.2.2.2.2.2.2.2.2.2.1).bind λr=>some (r.1,r.2.1,r.2.2.1,r.2.2.2.1,r.2.2.2.2.1,r.2.2.2.2.2.1,r.2.2.2.2.2.2.1,r.2.2.2.2.2.2.2.1,r.2.2.2.2.2.2.2.2.1,r.2.2.2.2.2.2.2.2.2,())}
theorem zb7:(zap).Ok prog:=yms (args:=[(.ptr 0 0),(.ptr 1 0),(.ptr 2 0)]) (aos:=[(.cells [dI,dI,dI,dI,dI,dI,dI]),(.cells [dI,dI]),(.cells [dI])]) (ros:=[(.cells [dI,dI,dI,dI,dI,dI,dI]),(.cells [dI,dI]),(.cells [dI])]) (l:=zo1) (pack:=λx=>(x.1,x.2.1,x.2.2.1,x.2.2.2.1,x.2.2.2.2.1,x.2.2.2.2.2.1,x.2.2.2.2.2.2.1,x.2.2.2.2.2.2.2.1,x.2.2.2.2.2.2.2.2.1,x.2.2.2.2.2.2.2.2.2.1)) (un:=λr=>(r.1,r.2.1,r.2.2.1,r.2.2.2.1,r.2.2.2.2.1,r.2.2.2.2.2.1,r.2.2.2.2.2.2.1,r.2.2.2.2.2.2.2.1,r.2.2.2.2.2.2.2.2.1,r.2.2.2.2.2.2.2.2.2,())) (go:=λx=>zz9 9 x.1 x.2.1 x.2.2.1 x.2.2.2.1 x.2.2.2.2.1 x.2.2.2.2.2.1 x.2.2.2.2.2.2.1 x.2.2.2.2.2.2.2.1 x.2.2.2.2.2.2.2.2.1 x.2.2.2.2.2.2.2.2.2.1) (yz4 _) func117 (by kernel_rfl) ntmps117 call117 (Nat.le_of_ble_eq_true (by kernel_rfl)) (Nat.le_of_ble_eq_true (by kernel_rfl)) (Nat.le_of_ble_eq_true (by kernel_rfl)) (by kernel_rfl) (by kernel_rfl) (λx=>by kernel_rfl) (ys3 (yz4 _) y7b trivial 9)
def z5u:Nat->yz1->yz1->Ot (yz1×Int)
 |0,_,_=>none
 |n+1,c,d=>
  (z0g n c d).bind λy0=>
  pIf (y0.e==0)
   ((z74 n y0.a y0.b).bind λy1=>
   (yzs n y1.1 y1.2 y0).bind λy2=>
   (((zz9 9 y2.a.num y2.a.den y2.b.num y2.b.den y2.out.num y2.out.den y2.e 0 0 0).bind λr4=>some (r4.1,r4.2.1,r4.2.2.1,r4.2.2.2.1,r4.2.2.2.2.1,r4.2.2.2.2.2.1,r4.2.2.2.2.2.2.1,r4.2.2.2.2.2.2.2.1,r4.2.2.2.2.2.2.2.2.1,r4.2.2.2.2.2.2.2.2.2,()))).bind λy3=>
   some ((yz1.mk y3.2.2.2.2.2.2.2.1 y3.2.2.2.2.2.2.2.2.1),y3.2.2.2.2.2.2.2.2.2.1))
   ((((zz9 9 y0.a.num y0.a.den y0.b.num y0.b.den y0.out.num y0.out.den y0.e 0 0 0).bind λr6=>some (r6.1,r6.2.1,r6.2.2.1,r6.2.2.2.1,r6.2.2.2.2.1,r6.2.2.2.2.2.1,r6.2.2.2.2.2.2.1,r6.2.2.2.2.2.2.2.1,r6.2.2.2.2.2.2.2.2.1,r6.2.2.2.2.2.2.2.2.2,()))).bind λy5=>
   some ((yz1.mk y5.2.2.2.2.2.2.2.1 y5.2.2.2.2.2.2.2.2.1),y5.2.2.2.2.2.2.2.2.2.1))
def zyi:LSh:=⟨[(6,(.ptr 0 0)),(7,(.ptr 1 0))],[(.st 0),(.cells [dI])],0,27,[]⟩
noncomputable def zbr:FI dat:=FI.ofD dat 108 27 0 [dT 0,dT 0,(.fn 115 [] [])] [] [dT 0,dI] [(.st 0),(.cells [dI])] [zap] zyi (R:=yz1×Int) (λx=>(x.1,x.2.1)) (λr=>(r.1,r.2,r.1,r.2,())) (λn=>u2 (z5u n))
 (λn=>[]) (anb [] f108)
noncomputable def y3b:List (FI dat):=[kzy,z3q,zhe]
theorem y2h:(zbr).Good prog dat (tb y3b):=FI.zlu (hD:=yz4 _) func108 ntmps108 call108 (by kernel_rfl) (Qac (by kernel_rfl)) (by kernel_rfl) (λn=>by kernel_rfl) ⟨zb7,trivial⟩ (λx=>by kernel_rfl) (λ_=>rfl) trivial
 (λ_ _=>tr (z5u.eq_2 ..))
 (λn=>trivial)
 (λx=>by kernel_rfl)
theorem y1p:OkL prog [zbr]:=zh2 (yz4 _) (bs:=[kzy,z3q,zhe]) ⟨z8i,zaj,y30,trivial⟩ y2h
theorem zvw:FOk prog zbr:=y1p.1
def zaa:Nat->yz1->yz1->Ot (Int×yz1)
 |0,_,_=>none
 |n+1,a,b=>
  (z5u n a b).bind λy0=>
  some (y0.2,y0.1)
def yhr:LSh:=⟨[(4,(.ptr 0 0)),(5,dI)],[(.st 0)],0,11,[]⟩
noncomputable def zvi:FI dat:=FI.of dat 107 11 0 [dT 0,dT 0] [] [dT 0,dI] [] true yhr (R:=Int×yz1) (λx=>(x.1,x.2.1)) (λr=>(r.2,r.1,())) (λn=>u2 (zaa n))
 (λn=>[]) (anb [] f107)
theorem ydg:FOk prog zvi:=okF (bs:=[zbr]) ⟨zvw,trivial⟩ func107 ntmps107 call107
 (λ_ _=>tr (zaa.eq_2 ..))
 (λn=>trivial)
mutual
def z25:Nat->zz0->Ot zz0
 |0,_=>none
 |n+1,a=>
  z0u n 0 a.list (a.list.length:Int) [] 0 0 0 false [] a.re []
def z0u:Nat->Int->kz2->Int->kz2->Int->Int->Int->Bool->B8->zz0->kz2->Ot zz0
 |0,_,_,_,_,_,_,_,_,_,_,_=>none
 |n+1,a,b,c,d,e,f,g,h,i,j,k=>
  pIf (decide (a<c))
   ((ix b a).bind λx0=>
   (z25 n x0.re).bind λy1=>
   (ext d [y1.re]).bind λx2=>
   z0u n (IntKind.i64.wrap (a+1)) b c x2 e f g h i j.re k)
   (some (zz0.mk j.kind j.num j.truth j.str d))
end
def y0u:LSh:=⟨[(3,(.ptr 1 0))],[(.cells [(.fn 52 [] [(.ptr 0 0)])]),(.st 1)],1,24,[]⟩
noncomputable def z6w:FI dat:=FI.of dat 52 24 1 [dT 1,(.ptr 0 0)] [(.cells [(.fn 52 [] [(.ptr 0 0)])])] [dT 1] [(.cells [(.fn 52 [] [(.ptr 0 0)])]),(.st 1)] false y0u (R:=zz0) (λx=>x.1) (λr=>(r,r,())) (λn=>u1 (z25 n))
 (λn=>[(0,⟨⟨[(10,dI),(1,(.ptr 0 0)),(4,(.own 1)),(8,dL 1),(3,(.ptr 2 0)),(2,(.ptr 3 0)),(9,dI)],[(.cells [(.fn 52 [] [(.ptr 0 0)])]),(.acc 26 (.st 1) true),(.cells [dU,dI,dI,dB,dS,(.own 4)]),(.st 1),(.acc 26 (.st 1) true)],1,24,[]⟩,u11 (z0u n)⟩)]) (anb [(8,0)] f52)
noncomputable def y0a:List (FI dat):=[z6w]++[]
theorem zxu:(z6w).Good prog dat (tb y0a):=FI.kzd (hD:=yz4 _) func52 ntmps52 call52 (by kernel_rfl) (Qac (by kernel_rfl)) (by kernel_rfl) (λn=>by kernel_rfl) (λx=>by kernel_rfl) (λ_=>rfl) ⟨λ_=>rfl,trivial⟩
 (λ_ _=>tr (z25.eq_2 ..))
 (λn=>⟨λ_=>tr (z0u.eq_2 ..),
  trivial⟩)
 (λx=>.inr (by kernel_rfl))
theorem y38:OkL prog [z6w]:=yzh (yz4 _) (bs:=[]) trivial ⟨zxu,trivial⟩
theorem zkb:FOk prog z6w:=y38.1
mutual
def z2e:Nat->zz0->Ot (Int×Int×Int×Bool×B8×kz2)
 |0,_=>none
 |n+1,a=>
  yzr n 0 a.list (a.list.length:Int) [] 0 0 0 false [] a.re []
def yzr:Nat->Int->kz2->Int->kz2->Int->Int->Int->Bool->B8->zz0->kz2->Ot (Int×Int×Int×Bool×B8×kz2)
 |0,_,_,_,_,_,_,_,_,_,_,_=>none
 |n+1,a,b,c,d,e,f,g,h,i,j,k=>
  pIf (decide (a<c))
   ((ix b a).bind λx0=>
   (z25 n x0.re).bind λy1=>
   (ext d [y1.re]).bind λx2=>
   yzr n (IntKind.i64.wrap (a+1)) b c x2 e f g h i j.re k)
   (some (j.kind,j.num.num,j.num.den,j.truth,j.str,d))
end
def zqx:LSh:=⟨[(3,(.ptr 1 0))],[(.cells [(.fn 52 [] [(.ptr 0 0)])]),(.cells [dU,dI,dI,dB,dS,(.own 2)]),(.acc 26 (.st 1) true)],1,24,[]⟩
noncomputable def zgh:FI dat:=FI.of dat 52 24 1 [dT 1,(.ptr 0 0)] [(.cells [(.fn 52 [] [(.ptr 0 0)])])] [(.agg [dU,dI,dI,dB,dS,(.own 2)])] [(.cells [(.fn 52 [] [(.ptr 0 0)])]),(.cells [dU,dI,dI,dB,dS,(.own 2)]),(.acc 26 (.st 1) true)] false zqx (R:=Int×Int×Int×Bool×B8×kz2) (λx=>(x.1,x.2.1,x.2.2.1,x.2.2.2.1,x.2.2.2.2.1,x.2.2.2.2.2.1)) (λr=>(r.1,r.2.1,r.2.2.1,r.2.2.2.1,r.2.2.2.2.1,r.1,r.2.1,r.2.2.1,r.2.2.2.1,r.2.2.2.2.1,r.2.2.2.2.2,())) (λn=>u1 (z2e n))
 (λn=>[(0,⟨⟨[(10,dI),(1,(.ptr 0 0)),(4,(.own 1)),(8,dL 1),(3,(.ptr 2 0)),(2,(.ptr 3 0)),(9,dI)],[(.cells [(.fn 52 [] [(.ptr 0 0)])]),(.acc 26 (.st 1) true),(.cells [dU,dI,dI,dB,dS,(.own 4)]),(.st 1),(.acc 26 (.st 1) true)],1,24,[]⟩,u11 (yzr n)⟩)]) (anb [(8,0)] f52)
theorem zpm:FOk prog zgh:=okF (bs:=[z6w]) ⟨zkb,trivial⟩ func52 ntmps52 call52
 (λ_ _=>tr (z2e.eq_2 ..))
 (λn=>⟨λ_=>tr (yzr.eq_2 ..),
  trivial⟩)
def z33:Nat->zz0->Ot (Int×Int×Int×Bool×B8×kz2)
 |0,_=>none
 |n+1,a=>
  (z2e n a.re).bind λy0=>
  some (y0.1,y0.2.1,y0.2.2.1,y0.2.2.2.1,y0.2.2.2.2.1,y0.2.2.2.2.2)
def zwq:LSh:=⟨[(2,(.ptr 0 0))],[(.cells [dU,dI,dI,dB,dS,(.own 1)]),(.acc 26 (.st 1) true)],0,8,[]⟩
noncomputable def zkm:FI dat:=FI.of dat 33 8 0 [dT 1] [] [(.agg [dU,dI,dI,dB,dS,(.own 1)])] [(.cells [dU,dI,dI,dB,dS,(.own 1)]),(.acc 26 (.st 1) true)] false zwq (R:=Int×Int×Int×Bool×B8×kz2) (λx=>(x.1,x.2.1,x.2.2.1,x.2.2.2.1,x.2.2.2.2.1,x.2.2.2.2.2.1)) (λr=>(r.1,r.2.1,r.2.2.1,r.2.2.2.1,r.2.2.2.2.1,r.1,r.2.1,r.2.2.1,r.2.2.2.1,r.2.2.2.2.1,r.2.2.2.2.2,())) (λn=>u1 (z33 n))
 (λn=>[]) (anb [] f33)
theorem zt3:FOk prog zkm:=okF (bs:=[zgh]) ⟨zpm,trivial⟩ func33 ntmps33 call33
 (λ_ _=>tr (z33.eq_2 ..))
 (λn=>trivial)
mutual
def z9y:Nat->zz0->zz0->Ot (Int×zz0)
 |0,_,_=>none
 |n+1,a,b=>
  (z6l n a.re b.re).bind λy0=>
  pIf (y0 != 0)
   (some (y0,(zz0.mk 0 (yz1.mk 0 0) false [] [])))
   (pIf (a.kind != b.kind)
     (some (20,(zz0.mk 0 (yz1.mk 0 0) false [] [])))
     (pIf (a.kind==1)
       ((zaa n a.num b.num).bind λy1=>
       pIf (y1.1 != 0)
        (some (y1.1,(zz0.mk 0 (yz1.mk 0 0) false [] [])))
        (z29 n 0 0 0 false [] a.kind y1.2.num y1.2.den false [] [] []))
       (pIf (a.kind==3)
         ((cat a.str b.str).bind λx2=>
         pIf (decide ((x2.length:Int)>60))
          (some (4,(zz0.mk 0 (yz1.mk 0 0) false [] [])))
          (z29 n 0 0 0 false [] a.kind 0 0 false x2 [] []))
         (pIf (a.kind==4)
           ((kzz n a.re).bind λy3=>
           (kzz n b.re).bind λy4=>
           pIf (decide ((IntKind.i64.wrap ((IntKind.i64.wrap (y3.1+y4.1))-1))>100))
            (some (4,(zz0.mk 0 (yz1.mk 0 0) false [] [])))
            ((z33 n a.re).bind λy5=>
            (z33 n b.re).bind λy6=>
            (ext y5.2.2.2.2.2 y6.2.2.2.2.2).bind λx7=>
            z29 n 0 0 0 false [] a.kind 0 0 false [] [] x7))
           (some (20,(zz0.mk 0 (yz1.mk 0 0) false [] [])))))))
def z29:Nat->Int->Int->Int->Bool->B8->Int->Int->Int->Bool->B8->kz2->kz2->Ot (Int×zz0)
 |0,_,_,_,_,_,_,_,_,_,_,_,_=>none
 |n+1,a,b,c,d,e,f,g,h,i,j,k,l=>
  some (0,(zz0.mk f (yz1.mk g h) i j l))
end
def yff:LSh:=⟨[(4,(.ptr 0 0)),(5,dI)],[(.st 1)],0,89,[]⟩
noncomputable def zlz:FI dat:=FI.of dat 88 89 0 [dT 1,dT 1] [] [dT 1,dI] [] true yff (R:=Int×zz0) (λx=>(x.1,x.2.1)) (λr=>(r.2,r.1,())) (λn=>u2 (z9y n))
 (λn=>[(0,⟨⟨[(4,(.ptr 0 0)),(7,(.ptr 1 0))],[(.cells [dU,dI,dI,dB,dS,(.own 2)]),(.cells [dU,dI,dI,dB,dS,(.own 3)]),(.acc 26 (.st 1) true),(.acc 26 (.st 1) true)],0,89,[]⟩,u12 (z29 n)⟩)]) (anb [(71,0)] f88)
theorem yce:FOk prog zlz:=okF (bs:=[zkm,zji,zvi,z5s]) ⟨zt3,zo7,ydg,zik,trivial⟩ func88 ntmps88 call88
 (λ_ _=>tr (z9y.eq_2 ..))
 (λn=>⟨λx=>tr (z29.eq_2 x.1 x.2.1 x.2.2.1 x.2.2.2.1 x.2.2.2.2.1 x.2.2.2.2.2.1 x.2.2.2.2.2.2.1 x.2.2.2.2.2.2.2.1 x.2.2.2.2.2.2.2.2.1 x.2.2.2.2.2.2.2.2.2.1 x.2.2.2.2.2.2.2.2.2.2.1 x.2.2.2.2.2.2.2.2.2.2.2.1 n),
  trivial⟩)
end Go.Proofs.YtcaehabdaleamaaGreat
