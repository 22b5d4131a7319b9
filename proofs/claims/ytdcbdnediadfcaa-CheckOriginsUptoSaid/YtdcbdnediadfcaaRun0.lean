/-
  THE GO STRUCTS AS LEAN STRUCTURES, by a program of this repo (types.py).
-/
import Derived.Test.YtdcbdnediadfcaaLib2
import Derived.Test.YtdcbdnediadfcaaProg
import Derived.Test.YtdcbdnediadfcaaLib4
import Derived.Test.YtdcbdnediadfcaaLib9
import Derived.KernelRfl
import Derived.Shelf.Sort.Plain
import Derived.Shelf.Slices.In.SortNone
import Derived.Shelf.Strings.Count
import Derived.Shelf.Strings.Search2
import Derived.Ground.NamesProg
import Derived.RangeFuncBox
import Derived.RangeFuncLeaves
import Derived.RangeFuncFrom
import Derived.RangeFuncCalls
import Derived.Shelf.Abstract
import Derived.WalkKit
import Derived.OwnWalkIn
import Derived.TacticsInMore
import Derived.LoopNIn
import Derived.LoopIn
import Derived.Shelf.RegionOpen
import Derived.Test.YtdcbdnediadfcaaLib10
namespace Go.Ab
open Go
set_option linter.unusedVariables false
set_option linter.unusedSimpArgs false
structure zz0 where
 x:Int
 y:Int
 z:Int
def zz0.el(x:zz0):V:=.agg [.int .i64 x.x,.int .i64 x.y,.int .i64 x.z]
def zz0.size(x:zz0):Nat:=1+1+1+1
def zz0.wf(x:zz0):Prop:=(IntKind.i64.min<=x.x∧x.x<=IntKind.i64.max)∧(IntKind.i64.min<=x.y∧x.y<=IntKind.i64.max)∧(IntKind.i64.min<=x.z∧x.z<=IntKind.i64.max)
theorem zz0.kz6(x:zz0):x.el = .agg [.int .i64 x.x,.int .i64 x.y,.int .i64 x.z]:=by rw[zz0.el]
theorem zz0.size_eq(x:zz0):x.size=1+1+1+1:=by rw[zz0.size]
theorem zz0.z80(x:zz0):x.wf=((IntKind.i64.min<=x.x∧x.x<=IntKind.i64.max)∧(IntKind.i64.min<=x.y∧x.y<=IntKind.i64.max)∧(IntKind.i64.min<=x.z∧x.z<=IntKind.i64.max)):=by rw[zz0.wf]
theorem zz0.yzy(x:zz0):x.el.cells.length=3:=by rw[zz0.kz6];rfl
theorem zz0.zc2(x:zz0):x.el = .agg x.el.cells:=by rw[zz0.kz6];rfl
theorem zz0.kin{D:Nat->Nat->Prop}(x:zz0):V.kin D x.el:=by rw[zz0.kz6];simp only[V.kin,V.z3h,and_true,true_and]
def zz0.ty:Ty zz0:=⟨zz0.el,3,zz0.size,zz0.wf,zz0.yzy⟩
structure kz7 where
 lo:zz0
 hi:zz0
def kz7.el(x:kz7):V:=.agg [.int .i64 x.lo.x,.int .i64 x.lo.y,.int .i64 x.lo.z,.int .i64 x.hi.x,.int .i64 x.hi.y,.int .i64 x.hi.z]
def kz7.size(x:kz7):Nat:=x.lo.size+x.hi.size+1
def kz7.wf(x:kz7):Prop:=x.lo.wf∧x.hi.wf
theorem kz7.kz6(x:kz7):x.el = .agg [.int .i64 x.lo.x,.int .i64 x.lo.y,.int .i64 x.lo.z,.int .i64 x.hi.x,.int .i64 x.hi.y,.int .i64 x.hi.z]:=by rw[kz7.el]
theorem kz7.size_eq(x:kz7):x.size=x.lo.size+x.hi.size+1:=by rw[kz7.size]
theorem kz7.z80(x:kz7):x.wf=(x.lo.wf∧x.hi.wf):=by rw[kz7.wf]
theorem kz7.yzy(x:kz7):x.el.cells.length=6:=by rw[kz7.kz6];rfl
theorem kz7.zc2(x:kz7):x.el = .agg x.el.cells:=by rw[kz7.kz6];rfl
theorem kz7.kin{D:Nat->Nat->Prop}(x:kz7):V.kin D x.el:=by rw[kz7.kz6];simp only[V.kin,V.z3h,and_true,true_and]
def kz7.ty:Ty kz7:=⟨kz7.el,6,kz7.size,kz7.wf,kz7.yzy⟩
structure zzg where
 kind:Int
 name:B8
 other:B8
 min:Int
 max:Int
def zzg.el(x:zzg):V:=.agg [.int .u8 x.kind,.str x.name,.str x.other,.int .i64 x.min,.int .i64 x.max]
def zzg.size(x:zzg):Nat:=1+(x.name.length+1)+(x.other.length+1)+1+1+1
def zzg.wf(x:zzg):Prop:=(IntKind.u8.min<=x.kind∧x.kind<=IntKind.u8.max)∧True∧True∧(IntKind.i64.min<=x.min∧x.min<=IntKind.i64.max)∧(IntKind.i64.min<=x.max∧x.max<=IntKind.i64.max)
theorem zzg.kz6(x:zzg):x.el = .agg [.int .u8 x.kind,.str x.name,.str x.other,.int .i64 x.min,.int .i64 x.max]:=by rw[zzg.el]
theorem zzg.size_eq(x:zzg):x.size=1+(x.name.length+1)+(x.other.length+1)+1+1+1:=by rw[zzg.size]
theorem zzg.z80(x:zzg):x.wf=((IntKind.u8.min<=x.kind∧x.kind<=IntKind.u8.max)∧True∧True∧(IntKind.i64.min<=x.min∧x.min<=IntKind.i64.max)∧(IntKind.i64.min<=x.max∧x.max<=IntKind.i64.max)):=by rw[zzg.wf]
theorem zzg.yzy(x:zzg):x.el.cells.length=5:=by rw[zzg.kz6];rfl
theorem zzg.zc2(x:zzg):x.el = .agg x.el.cells:=by rw[zzg.kz6];rfl
theorem zzg.kin{D:Nat->Nat->Prop}(x:zzg):V.kin D x.el:=by rw[zzg.kz6];simp only[V.kin,V.z3h,and_true,true_and]
def zzg.ty:Ty zzg:=⟨zzg.el,5,zzg.size,zzg.wf,zzg.yzy⟩
structure kz5 where
 z15:Int
 at_:zz0
def kz5.el(x:kz5):V:=.agg [.int .u8 x.z15,.int .i64 x.at_.x,.int .i64 x.at_.y,.int .i64 x.at_.z]
def kz5.size(x:kz5):Nat:=1+x.at_.size+1
def kz5.wf(x:kz5):Prop:=(IntKind.u8.min<=x.z15∧x.z15<=IntKind.u8.max)∧x.at_.wf
theorem kz5.kz6(x:kz5):x.el = .agg [.int .u8 x.z15,.int .i64 x.at_.x,.int .i64 x.at_.y,.int .i64 x.at_.z]:=by rw[kz5.el]
theorem kz5.size_eq(x:kz5):x.size=1+x.at_.size+1:=by rw[kz5.size]
theorem kz5.z80(x:kz5):x.wf=((IntKind.u8.min<=x.z15∧x.z15<=IntKind.u8.max)∧x.at_.wf):=by rw[kz5.wf]
theorem kz5.yzy(x:kz5):x.el.cells.length=4:=by rw[kz5.kz6];rfl
theorem kz5.zc2(x:kz5):x.el = .agg x.el.cells:=by rw[kz5.kz6];rfl
theorem kz5.kin{D:Nat->Nat->Prop}(x:kz5):V.kin D x.el:=by rw[kz5.kz6];simp only[V.kin,V.z3h,and_true,true_and]
def kz5.ty:Ty kz5:=⟨kz5.el,4,kz5.size,kz5.wf,kz5.yzy⟩
structure zz5 where
 frame:kz5
 size_:zz0
def zz5.el(x:zz5):V:=.agg [.int .u8 x.frame.z15,.int .i64 x.frame.at_.x,.int .i64 x.frame.at_.y,.int .i64 x.frame.at_.z,.int .i64 x.size_.x,.int .i64 x.size_.y,.int .i64 x.size_.z]
def zz5.size(x:zz5):Nat:=x.frame.size+x.size_.size+1
def zz5.wf(x:zz5):Prop:=x.frame.wf∧x.size_.wf
theorem zz5.kz6(x:zz5):x.el = .agg [.int .u8 x.frame.z15,.int .i64 x.frame.at_.x,.int .i64 x.frame.at_.y,.int .i64 x.frame.at_.z,.int .i64 x.size_.x,.int .i64 x.size_.y,.int .i64 x.size_.z]:=by rw[zz5.el]
theorem zz5.size_eq(x:zz5):x.size=x.frame.size+x.size_.size+1:=by rw[zz5.size]
theorem zz5.z80(x:zz5):x.wf=(x.frame.wf∧x.size_.wf):=by rw[zz5.wf]
theorem zz5.yzy(x:zz5):x.el.cells.length=7:=by rw[zz5.kz6];rfl
theorem zz5.zc2(x:zz5):x.el = .agg x.el.cells:=by rw[zz5.kz6];rfl
theorem zz5.kin{D:Nat->Nat->Prop}(x:zz5):V.kin D x.el:=by rw[zz5.kz6];simp only[V.kin,V.z3h,and_true,true_and]
def zz5.ty:Ty zz5:=⟨zz5.el,7,zz5.size,zz5.wf,zz5.yzy⟩
structure yz7 where
 num:Int
 den:Int
def yz7.el(x:yz7):V:=.agg [.int .i64 x.num,.int .i64 x.den]
def yz7.size(x:yz7):Nat:=1+1+1
def yz7.wf(x:yz7):Prop:=(IntKind.i64.min<=x.num∧x.num<=IntKind.i64.max)∧(IntKind.i64.min<=x.den∧x.den<=IntKind.i64.max)
theorem yz7.kz6(x:yz7):x.el = .agg [.int .i64 x.num,.int .i64 x.den]:=by rw[yz7.el]
theorem yz7.size_eq(x:yz7):x.size=1+1+1:=by rw[yz7.size]
theorem yz7.z80(x:yz7):x.wf=((IntKind.i64.min<=x.num∧x.num<=IntKind.i64.max)∧(IntKind.i64.min<=x.den∧x.den<=IntKind.i64.max)):=by rw[yz7.wf]
theorem yz7.yzy(x:yz7):x.el.cells.length=2:=by rw[yz7.kz6];rfl
theorem yz7.zc2(x:yz7):x.el = .agg x.el.cells:=by rw[yz7.kz6];rfl
theorem yz7.kin{D:Nat->Nat->Prop}(x:yz7):V.kin D x.el:=by rw[yz7.kz6];simp only[V.kin,V.z3h,and_true,true_and]
def yz7.ty:Ty yz7:=⟨yz7.el,2,yz7.size,yz7.wf,yz7.yzy⟩
structure kz3 where
 kind:Int
 num:yz7
 truth:Bool
 str:B8
 list:List kz3
theorem kz3.zhl{x y:kz3}(h:y∈x.list):SizeOf.sizeOf y<SizeOf.sizeOf x:=by cases x;have:=List.sizeOf_lt_of_mem h;simp at this ⊢;omega
def kz3.el(x:kz3):V:=.agg [.int .u8 x.kind,.int .i64 x.num.num,.int .i64 x.num.den,.bool x.truth,.str x.str,.sl 6 (x.list.map kz3.el) false]
 termination_by x
 decreasing_by all_goals first|exact kz3.zhl ‹_›
def kz3.size(x:kz3):Nat:=1+x.num.size+1+(x.str.length+1)+((x.list.map kz3.size).sum+1)+1
 termination_by x
 decreasing_by all_goals first|exact kz3.zhl ‹_›
def kz3.wf(x:kz3):Prop:=(IntKind.u8.min<=x.kind∧x.kind<=IntKind.u8.max)∧x.num.wf∧True∧True∧(∀y∈x.list,y.wf)
 termination_by x
 decreasing_by all_goals first|exact kz3.zhl ‹_›
theorem kz3.kz6(x:kz3):x.el = .agg [.int .u8 x.kind,.int .i64 x.num.num,.int .i64 x.num.den,.bool x.truth,.str x.str,.sl 6 (x.list.map kz3.el) false]:=by rw[kz3.el]
theorem kz3.size_eq(x:kz3):x.size=1+x.num.size+1+(x.str.length+1)+((x.list.map kz3.size).sum+1)+1:=by rw[kz3.size]
theorem kz3.z80(x:kz3):x.wf=((IntKind.u8.min<=x.kind∧x.kind<=IntKind.u8.max)∧x.num.wf∧True∧True∧(∀y∈x.list,y.wf)):=by rw[kz3.wf]
theorem kz3.yzy(x:kz3):x.el.cells.length=6:=by rw[kz3.kz6];rfl
theorem kz3.zc2(x:kz3):x.el = .agg x.el.cells:=by rw[kz3.kz6];rfl
theorem kz3.kin{D:Nat->Nat->Prop}(x:kz3):V.kin D x.el:=by rw[kz3.kz6];simp only[V.kin,V.z3h,and_true,true_and];exact zuh λy hy=>kz3.kin y
 termination_by x
 decreasing_by all_goals first|exact kz3.zhl ‹_›
def kz3.ty:Ty kz3:=⟨kz3.el,6,kz3.size,kz3.wf,kz3.yzy⟩
structure zz9 where
 path:B8
 rule_:B8
 args:List kz3
 scope:zz5
 leaf:B8
 fault:Int
 open_:Bool
def zz9.el(x:zz9):V:=.agg [.str x.path,.str x.rule_,.sl 6 (x.args.map kz3.el) false,.int .u8 x.scope.frame.z15,.int .i64 x.scope.frame.at_.x,.int .i64 x.scope.frame.at_.y,.int .i64 x.scope.frame.at_.z,.int .i64 x.scope.size_.x,.int .i64 x.scope.size_.y,.int .i64 x.scope.size_.z,.str x.leaf,.int .i64 x.fault,.bool x.open_]
def zz9.size(x:zz9):Nat:=(x.path.length+1)+(x.rule_.length+1)+((x.args.map kz3.size).sum+1)+x.scope.size+(x.leaf.length+1)+1+1+1
def zz9.wf(x:zz9):Prop:=True∧True∧(∀y∈x.args,y.wf)∧x.scope.wf∧True∧(IntKind.i64.min<=x.fault∧x.fault<=IntKind.i64.max)∧True
theorem zz9.kz6(x:zz9):x.el = .agg [.str x.path,.str x.rule_,.sl 6 (x.args.map kz3.el) false,.int .u8 x.scope.frame.z15,.int .i64 x.scope.frame.at_.x,.int .i64 x.scope.frame.at_.y,.int .i64 x.scope.frame.at_.z,.int .i64 x.scope.size_.x,.int .i64 x.scope.size_.y,.int .i64 x.scope.size_.z,.str x.leaf,.int .i64 x.fault,.bool x.open_]:=by rw[zz9.el]
theorem zz9.size_eq(x:zz9):x.size=(x.path.length+1)+(x.rule_.length+1)+((x.args.map kz3.size).sum+1)+x.scope.size+(x.leaf.length+1)+1+1+1:=by rw[zz9.size]
theorem zz9.z80(x:zz9):x.wf=(True∧True∧(∀y∈x.args,y.wf)∧x.scope.wf∧True∧(IntKind.i64.min<=x.fault∧x.fault<=IntKind.i64.max)∧True):=by rw[zz9.wf]
theorem zz9.yzy(x:zz9):x.el.cells.length=13:=by rw[zz9.kz6];rfl
theorem zz9.zc2(x:zz9):x.el = .agg x.el.cells:=by rw[zz9.kz6];rfl
theorem zz9.kin{D:Nat->Nat->Prop}(x:zz9):V.kin D x.el:=by rw[zz9.kz6];simp only[V.kin,V.z3h,and_true,true_and];exact zuh λy hy=>kz3.kin y
def zz9.ty:Ty zz9:=⟨zz9.el,13,zz9.size,zz9.wf,zz9.yzy⟩
structure yz8 where
 name:B8
 index:Int
def yz8.el(x:yz8):V:=.agg [.str x.name,.int .i64 x.index]
def yz8.size(x:yz8):Nat:=(x.name.length+1)+1+1
def yz8.wf(x:yz8):Prop:=True∧(IntKind.i64.min<=x.index∧x.index<=IntKind.i64.max)
theorem yz8.kz6(x:yz8):x.el = .agg [.str x.name,.int .i64 x.index]:=by rw[yz8.el]
theorem yz8.size_eq(x:yz8):x.size=(x.name.length+1)+1+1:=by rw[yz8.size]
theorem yz8.z80(x:yz8):x.wf=(True∧(IntKind.i64.min<=x.index∧x.index<=IntKind.i64.max)):=by rw[yz8.wf]
theorem yz8.yzy(x:yz8):x.el.cells.length=2:=by rw[yz8.kz6];rfl
theorem yz8.zc2(x:yz8):x.el = .agg x.el.cells:=by rw[yz8.kz6];rfl
theorem yz8.kin{D:Nat->Nat->Prop}(x:yz8):V.kin D x.el:=by rw[yz8.kz6];simp only[V.kin,V.z3h,and_true,true_and]
def yz8.ty:Ty yz8:=⟨yz8.el,2,yz8.size,yz8.wf,yz8.yzy⟩
abbrev GVec_l:=List zz0
abbrev z1y:=List kz7
abbrev zeb:=List zzg
abbrev GFrame_l:=List kz5
abbrev GScope_l:=List zz5
abbrev GRatio_l:=List yz7
abbrev z7g:=List kz3
abbrev zz6:=List zz9
abbrev GStepT_l:=List yz8
end Go.Ab
namespace Go.Proofs.Try
open Go Go.Ab
set_option linter.unusedSimpArgs false
@[simp] theorem zu5:Program.cellsOf Try.prog 2=1:=by kernel_rfl
@[simp] theorem zh0:Program.cellsOf Try.prog 3=1:=by kernel_rfl
@[simp] theorem zuf:Program.cellsOf Try.prog 4=1:=by kernel_rfl
@[simp] theorem zv3:Program.cellsOf Try.prog 5=1:=by kernel_rfl
@[simp] theorem zhw:Program.cellsOf Try.prog 9=1:=by kernel_rfl
@[simp] theorem zau:Program.cellsOf Try.prog 24=3:=by kernel_rfl
@[simp] theorem y0h:Program.cellsOf Try.prog 26=6:=by kernel_rfl
@[simp] theorem zqi:Program.cellsOf Try.prog 59=1:=by kernel_rfl
@[simp] theorem zq7:Program.cellsOf Try.prog 61=4:=by kernel_rfl
@[simp] theorem zqo:Program.cellsOf Try.prog 63=7:=by kernel_rfl
@[simp] theorem zr3:Program.cellsOf Try.prog 65=13:=by kernel_rfl
@[simp] theorem zqv:Program.cellsOf Try.prog 83=2:=by kernel_rfl
@[simp] theorem zit:Program.cellsOf Try.prog 85=6:=by kernel_rfl
theorem y7f(n:Nat):Reads Try.prog n 83 yz7.ty:=(z3m Try.underlying83 zqv (λm hm=>(yzc rfl zu5 (z5o Try.underlying2 m) (yzc rfl zu5 (z5o Try.underlying2 m) z5c)))).conv (λx=>(⟨x.1,x.2.1⟩:yz7)) (λx=>by show yz7.el _=_;rw[yz7.kz6];simp[Ty.struct,Ty.pair,Ty.unit,Ty.int,Ty.bool,Ty.str,Ty.slice,V.cells,yz7.ty,yz7.kz6,kz3.ty,kz3.kz6,zz0.ty,zz0.kz6,kz5.ty,kz5.kz6,zz5.ty,zz5.kz6,zz9.ty,zz9.kz6,kz7.ty,kz7.kz6]) rfl (λx h=>by simp only[yz7.ty];rw[yz7.z80];simp only[Ty.struct,Ty.pair,Ty.unit,Ty.int,Ty.bool,Ty.str,Ty.slice,yz7.ty,kz3.ty,zz0.ty,kz5.ty,zz5.ty,zz9.ty,kz7.ty]at h ⊢;simpa using h) (λx=>by simp only[Ty.struct,Ty.pair,Ty.unit,Ty.int,Ty.bool,Ty.str,Ty.slice,yz7.ty,kz3.ty,zz0.ty,kz5.ty,zz5.ty,zz9.ty,kz7.ty];rw[yz7.size_eq];(try dsimp only);omega)
theorem y7n:∀n,Reads Try.prog n 85 kz3.ty:=λn=>by
 induction n using Nat.strongRecOn with
 |ind n ih=>exact(z3m Try.underlying85 zit (λm hm=>(yzc rfl zv3 (z5o Try.underlying5 m) (yzc rfl zqv (y7f m) (yzc rfl zuf (znn Try.underlying4 m) (yzc rfl zhw (zb5 Try.underlying9 m) (yzc rfl zqi (ze6 Try.underlying59 zit (by decide) (λk hk=>(ih k (by omega)))) z5c))))))).conv (λx=>(⟨x.1,x.2.1,x.2.2.1,x.2.2.2.1,x.2.2.2.2.1⟩:kz3)) (λx=>by show kz3.el _=_;rw[kz3.kz6];simp[Ty.struct,Ty.pair,Ty.unit,Ty.int,Ty.bool,Ty.str,Ty.slice,V.cells,yz7.ty,yz7.kz6,kz3.ty,kz3.kz6,zz0.ty,zz0.kz6,kz5.ty,kz5.kz6,zz5.ty,zz5.kz6,zz9.ty,zz9.kz6,kz7.ty,kz7.kz6]) rfl (λx h=>by simp only[kz3.ty];rw[kz3.z80];simp only[Ty.struct,Ty.pair,Ty.unit,Ty.int,Ty.bool,Ty.str,Ty.slice,yz7.ty,kz3.ty,zz0.ty,kz5.ty,zz5.ty,zz9.ty,kz7.ty]at h ⊢;simpa using h) (λx=>by simp only[Ty.struct,Ty.pair,Ty.unit,Ty.int,Ty.bool,Ty.str,Ty.slice,yz7.ty,kz3.ty,zz0.ty,kz5.ty,zz5.ty,zz9.ty,kz7.ty];rw[kz3.size_eq];(try dsimp only);omega)
theorem zlo(n:Nat):Reads Try.prog n 24 zz0.ty:=(z3m Try.underlying24 zau (λm hm=>(yzc rfl zh0 (z5o Try.underlying3 m) (yzc rfl zh0 (z5o Try.underlying3 m) (yzc rfl zh0 (z5o Try.underlying3 m) z5c))))).conv (λx=>(⟨x.1,x.2.1,x.2.2.1⟩:zz0)) (λx=>by show zz0.el _=_;rw[zz0.kz6];simp[Ty.struct,Ty.pair,Ty.unit,Ty.int,Ty.bool,Ty.str,Ty.slice,V.cells,yz7.ty,yz7.kz6,kz3.ty,kz3.kz6,zz0.ty,zz0.kz6,kz5.ty,kz5.kz6,zz5.ty,zz5.kz6,zz9.ty,zz9.kz6,kz7.ty,kz7.kz6]) rfl (λx h=>by simp only[zz0.ty];rw[zz0.z80];simp only[Ty.struct,Ty.pair,Ty.unit,Ty.int,Ty.bool,Ty.str,Ty.slice,yz7.ty,kz3.ty,zz0.ty,kz5.ty,zz5.ty,zz9.ty,kz7.ty]at h ⊢;simpa using h) (λx=>by simp only[Ty.struct,Ty.pair,Ty.unit,Ty.int,Ty.bool,Ty.str,Ty.slice,yz7.ty,kz3.ty,zz0.ty,kz5.ty,zz5.ty,zz9.ty,kz7.ty];rw[zz0.size_eq];(try dsimp only);omega)
theorem y8a(n:Nat):Reads Try.prog n 61 kz5.ty:=(z3m Try.underlying61 zq7 (λm hm=>(yzc rfl zv3 (z5o Try.underlying5 m) (yzc rfl zau (zlo m) z5c)))).conv (λx=>(⟨x.1,x.2.1⟩:kz5)) (λx=>by show kz5.el _=_;rw[kz5.kz6];simp[Ty.struct,Ty.pair,Ty.unit,Ty.int,Ty.bool,Ty.str,Ty.slice,V.cells,yz7.ty,yz7.kz6,kz3.ty,kz3.kz6,zz0.ty,zz0.kz6,kz5.ty,kz5.kz6,zz5.ty,zz5.kz6,zz9.ty,zz9.kz6,kz7.ty,kz7.kz6]) rfl (λx h=>by simp only[kz5.ty];rw[kz5.z80];simp only[Ty.struct,Ty.pair,Ty.unit,Ty.int,Ty.bool,Ty.str,Ty.slice,yz7.ty,kz3.ty,zz0.ty,kz5.ty,zz5.ty,zz9.ty,kz7.ty]at h ⊢;simpa using h) (λx=>by simp only[Ty.struct,Ty.pair,Ty.unit,Ty.int,Ty.bool,Ty.str,Ty.slice,yz7.ty,kz3.ty,zz0.ty,kz5.ty,zz5.ty,zz9.ty,kz7.ty];rw[kz5.size_eq];(try dsimp only);omega)
theorem y82(n:Nat):Reads Try.prog n 63 zz5.ty:=(z3m Try.underlying63 zqo (λm hm=>(yzc rfl zq7 (y8a m) (yzc rfl zau (zlo m) z5c)))).conv (λx=>(⟨x.1,x.2.1⟩:zz5)) (λx=>by show zz5.el _=_;rw[zz5.kz6];simp[Ty.struct,Ty.pair,Ty.unit,Ty.int,Ty.bool,Ty.str,Ty.slice,V.cells,yz7.ty,yz7.kz6,kz3.ty,kz3.kz6,zz0.ty,zz0.kz6,kz5.ty,kz5.kz6,zz5.ty,zz5.kz6,zz9.ty,zz9.kz6,kz7.ty,kz7.kz6]) rfl (λx h=>by simp only[zz5.ty];rw[zz5.z80];simp only[Ty.struct,Ty.pair,Ty.unit,Ty.int,Ty.bool,Ty.str,Ty.slice,yz7.ty,kz3.ty,zz0.ty,kz5.ty,zz5.ty,zz9.ty,kz7.ty]at h ⊢;simpa using h) (λx=>by simp only[Ty.struct,Ty.pair,Ty.unit,Ty.int,Ty.bool,Ty.str,Ty.slice,yz7.ty,kz3.ty,zz0.ty,kz5.ty,zz5.ty,zz9.ty,kz7.ty];rw[zz5.size_eq];(try dsimp only);omega)
theorem y7z(n:Nat):Reads Try.prog n 65 zz9.ty:=(z3m Try.underlying65 zr3 (λm hm=>(yzc rfl zhw (zb5 Try.underlying9 m) (yzc rfl zhw (zb5 Try.underlying9 m) (yzc rfl zqi (ze6 Try.underlying59 zit (by decide) (λk hk=>(y7n k))) (yzc rfl zqo (y82 m) (yzc rfl zhw (zb5 Try.underlying9 m) (yzc rfl zh0 (z5o Try.underlying3 m) (yzc rfl zuf (znn Try.underlying4 m) z5c))))))))).conv (λx=>(⟨x.1,x.2.1,x.2.2.1,x.2.2.2.1,x.2.2.2.2.1,x.2.2.2.2.2.1,x.2.2.2.2.2.2.1⟩:zz9)) (λx=>by show zz9.el _=_;rw[zz9.kz6];simp[Ty.struct,Ty.pair,Ty.unit,Ty.int,Ty.bool,Ty.str,Ty.slice,V.cells,yz7.ty,yz7.kz6,kz3.ty,kz3.kz6,zz0.ty,zz0.kz6,kz5.ty,kz5.kz6,zz5.ty,zz5.kz6,zz9.ty,zz9.kz6,kz7.ty,kz7.kz6]) rfl (λx h=>by simp only[zz9.ty];rw[zz9.z80];simp only[Ty.struct,Ty.pair,Ty.unit,Ty.int,Ty.bool,Ty.str,Ty.slice,yz7.ty,kz3.ty,zz0.ty,kz5.ty,zz5.ty,zz9.ty,kz7.ty]at h ⊢;simpa using h) (λx=>by simp only[Ty.struct,Ty.pair,Ty.unit,Ty.int,Ty.bool,Ty.str,Ty.slice,yz7.ty,kz3.ty,zz0.ty,kz5.ty,zz5.ty,zz9.ty,kz7.ty];rw[zz9.size_eq];(try dsimp only);omega)
theorem y87(n:Nat):Reads Try.prog n 26 kz7.ty:=(z3m Try.underlying26 y0h (λm hm=>(yzc rfl zau (zlo m) (yzc rfl zau (zlo m) z5c)))).conv (λx=>(⟨x.1,x.2.1⟩:kz7)) (λx=>by show kz7.el _=_;rw[kz7.kz6];simp[Ty.struct,Ty.pair,Ty.unit,Ty.int,Ty.bool,Ty.str,Ty.slice,V.cells,yz7.ty,yz7.kz6,kz3.ty,kz3.kz6,zz0.ty,zz0.kz6,kz5.ty,kz5.kz6,zz5.ty,zz5.kz6,zz9.ty,zz9.kz6,kz7.ty,kz7.kz6]) rfl (λx h=>by simp only[kz7.ty];rw[kz7.z80];simp only[Ty.struct,Ty.pair,Ty.unit,Ty.int,Ty.bool,Ty.str,Ty.slice,yz7.ty,kz3.ty,zz0.ty,kz5.ty,zz5.ty,zz9.ty,kz7.ty]at h ⊢;simpa using h) (λx=>by simp only[Ty.struct,Ty.pair,Ty.unit,Ty.int,Ty.bool,Ty.str,Ty.slice,yz7.ty,kz3.ty,zz0.ty,kz5.ty,zz5.ty,zz9.ty,kz7.ty];rw[kz7.size_eq];(try dsimp only);omega)
theorem arg22:ztw Try.prog 22 (Ty.slice zz9.ty):=zv1 (λn=>(ze6 Try.underlying22 zr3 (by decide) (λk hk=>(y7z k)))) (λ_=>rfl) (by rw[Try.underlying22])
theorem arg9:ztw Try.prog 9 Ty.str:=zv1 (λn=>(zb5 Try.underlying9 n)) (λ_=>rfl) (by rw[Try.underlying9])
theorem y8i:ztw Try.prog 26 kz7.ty:=zxg Try.underlying26 y87 kz7.zc2
end Go.Proofs.Try
namespace Go.Ab
open Go
set_option linter.unusedVariables false
structure z2o where
 e0:Int
 e1:Int
 e2:Int
def z2o.el(x:z2o):V:=.agg [.int .i64 x.e0,.int .i64 x.e1,.int .i64 x.e2]
theorem z2o.kz6(x:z2o):x.el = .agg [.int .i64 x.e0,.int .i64 x.e1,.int .i64 x.e2]:=rfl
theorem z2o.kin{Dm:Nat->Nat->Prop}(x:z2o):V.kin Dm x.el:=by simp[z2o.el,V.kin,V.z3h]
structure kz0 where
 e0:zz0
 e1:zz0
 e2:zz0
 e3:zz0
 e4:zz0
 e5:zz0
 e6:zz0
 e7:zz0
def kz0.el(x:kz0):V:=.agg [.int .i64 x.e0.x,.int .i64 x.e0.y,.int .i64 x.e0.z,.int .i64 x.e1.x,.int .i64 x.e1.y,.int .i64 x.e1.z,.int .i64 x.e2.x,.int .i64 x.e2.y,.int .i64 x.e2.z,.int .i64 x.e3.x,.int .i64 x.e3.y,.int .i64 x.e3.z,.int .i64 x.e4.x,.int .i64 x.e4.y,.int .i64 x.e4.z,.int .i64 x.e5.x,.int .i64 x.e5.y,.int .i64 x.e5.z,.int .i64 x.e6.x,.int .i64 x.e6.y,.int .i64 x.e6.z,.int .i64 x.e7.x,.int .i64 x.e7.y,.int .i64 x.e7.z]
theorem kz0.kz6(x:kz0):x.el = .agg [.int .i64 x.e0.x,.int .i64 x.e0.y,.int .i64 x.e0.z,.int .i64 x.e1.x,.int .i64 x.e1.y,.int .i64 x.e1.z,.int .i64 x.e2.x,.int .i64 x.e2.y,.int .i64 x.e2.z,.int .i64 x.e3.x,.int .i64 x.e3.y,.int .i64 x.e3.z,.int .i64 x.e4.x,.int .i64 x.e4.y,.int .i64 x.e4.z,.int .i64 x.e5.x,.int .i64 x.e5.y,.int .i64 x.e5.z,.int .i64 x.e6.x,.int .i64 x.e6.y,.int .i64 x.e6.z,.int .i64 x.e7.x,.int .i64 x.e7.y,.int .i64 x.e7.z]:=rfl
theorem kz0.kin{Dm:Nat->Nat->Prop}(x:kz0):V.kin Dm x.el:=by simp[kz0.el,V.kin,V.z3h]
structure kzl where
 e0:zz0
 e1:zz0
 e2:zz0
def kzl.el(x:kzl):V:=.agg [.int .i64 x.e0.x,.int .i64 x.e0.y,.int .i64 x.e0.z,.int .i64 x.e1.x,.int .i64 x.e1.y,.int .i64 x.e1.z,.int .i64 x.e2.x,.int .i64 x.e2.y,.int .i64 x.e2.z]
theorem kzl.kz6(x:kzl):x.el = .agg [.int .i64 x.e0.x,.int .i64 x.e0.y,.int .i64 x.e0.z,.int .i64 x.e1.x,.int .i64 x.e1.y,.int .i64 x.e1.z,.int .i64 x.e2.x,.int .i64 x.e2.y,.int .i64 x.e2.z]:=rfl
theorem kzl.kin{Dm:Nat->Nat->Prop}(x:kzl):V.kin Dm x.el:=by simp[kzl.el,V.kin,V.z3h]
def kz3.re(x:kz3):kz3:=⟨x.kind,x.num,x.truth,x.str,x.list⟩
@[simp] theorem kz3.zc9 (x:kz3):x.re=x:=by cases x;simp[kz3.re]
def datT:Nat->Type
 |0=>z2o
 |1=>kz0
 |2=>kzl
 |3=>zz0
 |4=>kz7
 |5=>zzg
 |6=>kz5
 |7=>zz5
 |8=>yz7
 |9=>kz3
 |10=>zz9
 |11=>yz8
 |_=>Unit
def zb3:Nat->List DTy
 |0=>[.int .i64,.int .i64,.int .i64]
 |1=>[.int .i64,.int .i64,.int .i64,.int .i64,.int .i64,.int .i64,.int .i64,.int .i64,.int .i64,.int .i64,.int .i64,.int .i64,.int .i64,.int .i64,.int .i64,.int .i64,.int .i64,.int .i64,.int .i64,.int .i64,.int .i64,.int .i64,.int .i64,.int .i64]
 |2=>[.int .i64,.int .i64,.int .i64,.int .i64,.int .i64,.int .i64,.int .i64,.int .i64,.int .i64]
 |3=>[.int .i64,.int .i64,.int .i64]
 |4=>[.int .i64,.int .i64,.int .i64,.int .i64,.int .i64,.int .i64]
 |5=>[.int .u8,.str,.str,.int .i64,.int .i64]
 |6=>[.int .u8,.int .i64,.int .i64,.int .i64]
 |7=>[.int .u8,.int .i64,.int .i64,.int .i64,.int .i64,.int .i64,.int .i64]
 |8=>[.int .i64,.int .i64]
 |9=>[.int .u8,.int .i64,.int .i64,.bool,.str,.sl (.st 9)]
 |10=>[.str,.str,.sl (.st 9),.int .u8,.int .i64,.int .i64,.int .i64,.int .i64,.int .i64,.int .i64,.str,.int .i64,.bool]
 |11=>[.str,.int .i64]
 |_=>[]
def y2s:List (Nat×DTy):=[(2,.int .i64),(3,.int .i64),(4,.bool),(5,.int .u8),(6,.int .u8),(9,.str),(10,.str),(11,.str),(12,.int .u64),(21,.int .i32),(22,.sl (.st 10)),(24,.st 3),(26,.st 4),(28,.sl .str),(29,.int .i64),(36,.sl (.st 5)),(39,.st 5),(44,.sl (.st 4)),(45,.sl .bool),(50,.sl (.int .i64)),(56,.st 0),(59,.sl (.st 9)),(61,.st 6),(63,.st 7),(65,.st 10),(83,.st 8),(85,.st 9),(86,.st 1),(93,.st 11),(100,.int .u64),(119,.int .i64),(127,.int .u32),(129,.int .u64),(134,.st 2),(136,.int .u64),(160,.int .u8),(161,.int .u8),(164,.int .i32),(165,.int .i32)]
def dat:Dat where
 T:=datT
 fl:=zb3
 get:=λi=>match i with
  |0=>λ(x:z2o)=>(x.e0,x.e1,x.e2,())
  |1=>λ(x:kz0)=>(x.e0.x,x.e0.y,x.e0.z,x.e1.x,x.e1.y,x.e1.z,x.e2.x,x.e2.y,x.e2.z,x.e3.x,x.e3.y,x.e3.z,x.e4.x,x.e4.y,x.e4.z,x.e5.x,x.e5.y,x.e5.z,x.e6.x,x.e6.y,x.e6.z,x.e7.x,x.e7.y,x.e7.z,())
  |2=>λ(x:kzl)=>(x.e0.x,x.e0.y,x.e0.z,x.e1.x,x.e1.y,x.e1.z,x.e2.x,x.e2.y,x.e2.z,())
  |3=>λ(x:zz0)=>(x.x,x.y,x.z,())
  |4=>λ(x:kz7)=>(x.lo.x,x.lo.y,x.lo.z,x.hi.x,x.hi.y,x.hi.z,())
  |5=>λ(x:zzg)=>(x.kind,x.name,x.other,x.min,x.max,())
  |6=>λ(x:kz5)=>(x.z15,x.at_.x,x.at_.y,x.at_.z,())
  |7=>λ(x:zz5)=>(x.frame.z15,x.frame.at_.x,x.frame.at_.y,x.frame.at_.z,x.size_.x,x.size_.y,x.size_.z,())
  |8=>λ(x:yz7)=>(x.num,x.den,())
  |9=>λ(x:kz3)=>(x.kind,x.num.num,x.num.den,x.truth,x.str,x.list,())
  |10=>λ(x:zz9)=>(x.path,x.rule_,x.args,x.scope.frame.z15,x.scope.frame.at_.x,x.scope.frame.at_.y,x.scope.frame.at_.z,x.scope.size_.x,x.scope.size_.y,x.scope.size_.z,x.leaf,x.fault,x.open_,())
  |11=>λ(x:yz8)=>(x.name,x.index,())
  |_+12=>λ_=>()
 make:=λi=>match i with
  |0=>λx=>z2o.mk x.1 x.2.1 x.2.2.1
  |1=>λx=>kz0.mk (zz0.mk x.1 x.2.1 x.2.2.1) (zz0.mk x.2.2.2.1 x.2.2.2.2.1 x.2.2.2.2.2.1) (zz0.mk x.2.2.2.2.2.2.1 x.2.2.2.2.2.2.2.1 x.2.2.2.2.2.2.2.2.1) (zz0.mk x.2.2.2.2.2.2.2.2.2.1 x.2.2.2.2.2.2.2.2.2.2.1 x.2.2.2.2.2.2.2.2.2.2.2.1) (zz0.mk x.2.2.2.2.2.2.2.2.2.2.2.2.1 x.2.2.2.2.2.2.2.2.2.2.2.2.2.1 x.2.2.2.2.2.2.2.2.2.2.2.2.2.2.1) (zz0.mk x.2.2.2.2.2.2.2.2.2.2.2.2.2.2.2.1 x.2.2.2.2.2.2.2.2.2.2.2.2.2.2.2.2.1 x.2.2.2.2.2.2.2.2.2.2.2.2.2.2.2.2.2.1) (zz0.mk x.2.2.2.2.2.2.2.2.2.2.2.2.2.2.2.2.2.2.1 x.2.2.2.2.2.2.2.2.2.2.2.2.2.2.2.2.2.2.2.1 x.2.2.2.2.2.2.2.2.2.2.2.2.2.2.2.2.2.2.2.2.1) (zz0.mk x.2.2.2.2.2.2.2.2.2.2.2.2.2.2.2.2.2.2.2.2.2.1 x.2.2.2.2.2.2.2.2.2.2.2.2.2.2.2.2.2.2.2.2.2.2.1 x.2.2.2.2.2.2.2.2.2.2.2.2.2.2.2.2.2.2.2.2.2.2.2.1)
  |2=>λx=>kzl.mk (zz0.mk x.1 x.2.1 x.2.2.1) (zz0.mk x.2.2.2.1 x.2.2.2.2.1 x.2.2.2.2.2.1) (zz0.mk x.2.2.2.2.2.2.1 x.2.2.2.2.2.2.2.1 x.2.2.2.2.2.2.2.2.1)
  |3=>λx=>zz0.mk x.1 x.2.1 x.2.2.1
  |4=>λx=>kz7.mk (zz0.mk x.1 x.2.1 x.2.2.1) (zz0.mk x.2.2.2.1 x.2.2.2.2.1 x.2.2.2.2.2.1)
  |5=>λx=>zzg.mk x.1 x.2.1 x.2.2.1 x.2.2.2.1 x.2.2.2.2.1
  |6=>λx=>kz5.mk x.1 (zz0.mk x.2.1 x.2.2.1 x.2.2.2.1)
  |7=>λx=>zz5.mk (kz5.mk x.1 (zz0.mk x.2.1 x.2.2.1 x.2.2.2.1)) (zz0.mk x.2.2.2.2.1 x.2.2.2.2.2.1 x.2.2.2.2.2.2.1)
  |8=>λx=>yz7.mk x.1 x.2.1
  |9=>λx=>kz3.mk x.1 (yz7.mk x.2.1 x.2.2.1) x.2.2.2.1 x.2.2.2.2.1 x.2.2.2.2.2.1
  |10=>λx=>zz9.mk x.1 x.2.1 x.2.2.1 (zz5.mk (kz5.mk x.2.2.2.1 (zz0.mk x.2.2.2.2.1 x.2.2.2.2.2.1 x.2.2.2.2.2.2.1)) (zz0.mk x.2.2.2.2.2.2.2.1 x.2.2.2.2.2.2.2.2.1 x.2.2.2.2.2.2.2.2.2.1)) x.2.2.2.2.2.2.2.2.2.2.1 x.2.2.2.2.2.2.2.2.2.2.2.1 x.2.2.2.2.2.2.2.2.2.2.2.2.1
  |11=>λx=>yz8.mk x.1 x.2.1
  |_+12=>λ_=>()
 enc:=λi=>match i with
  |0=>z2o.el
  |1=>kz0.el
  |2=>kzl.el
  |3=>zz0.el
  |4=>kz7.el
  |5=>zzg.el
  |6=>kz5.el
  |7=>zz5.el
  |8=>yz7.el
  |9=>kz3.el
  |10=>zz9.el
  |11=>yz8.el
  |_+12=>λ_=>.agg []
 ty:=fnd y2s
theorem z9g(P:Program):dat.Ok P where
 enc:=λi=>match i with
  |0=>λx=>z2o.kz6 x
  |1=>λx=>kz0.kz6 x
  |2=>λx=>kzl.kz6 x
  |3=>λx=>zz0.kz6 x
  |4=>λx=>kz7.kz6 x
  |5=>λx=>zzg.kz6 x
  |6=>λx=>kz5.kz6 x
  |7=>λx=>zz5.kz6 x
  |8=>λx=>yz7.kz6 x
  |9=>λx=>kz3.kz6 x
  |10=>λx=>zz9.kz6 x
  |11=>λx=>yz8.kz6 x
  |_+12=>λ_=>rfl
 getMake:=λi=>match i with
  |0=>λx=>rfl
  |1=>λx=>rfl
  |2=>λx=>rfl
  |3=>λx=>rfl
  |4=>λx=>rfl
  |5=>λx=>rfl
  |6=>λx=>rfl
  |7=>λx=>rfl
  |8=>λx=>rfl
  |9=>λx=>rfl
  |10=>λx=>rfl
  |11=>λx=>rfl
  |_+12=>λ_=>rfl
 flat:=λi=>match i with
  |0=>λt h=>by simp only[dat,zb3,Qbi,List.not_mem_nil,or_false]at h;rcases h with rfl|rfl|rfl <;> trivial
  |1=>λt h=>by simp only[dat,zb3,Qbi,List.not_mem_nil,or_false]at h;rcases h with rfl|rfl|rfl|rfl|rfl|rfl|rfl|rfl|rfl|rfl|rfl|rfl|rfl|rfl|rfl|rfl|rfl|rfl|rfl|rfl|rfl|rfl|rfl|rfl <;> trivial
  |2=>λt h=>by simp only[dat,zb3,Qbi,List.not_mem_nil,or_false]at h;rcases h with rfl|rfl|rfl|rfl|rfl|rfl|rfl|rfl|rfl <;> trivial
  |3=>λt h=>by simp only[dat,zb3,Qbi,List.not_mem_nil,or_false]at h;rcases h with rfl|rfl|rfl <;> trivial
  |4=>λt h=>by simp only[dat,zb3,Qbi,List.not_mem_nil,or_false]at h;rcases h with rfl|rfl|rfl|rfl|rfl|rfl <;> trivial
  |5=>λt h=>by simp only[dat,zb3,Qbi,List.not_mem_nil,or_false]at h;rcases h with rfl|rfl|rfl|rfl|rfl <;> trivial
  |6=>λt h=>by simp only[dat,zb3,Qbi,List.not_mem_nil,or_false]at h;rcases h with rfl|rfl|rfl|rfl <;> trivial
  |7=>λt h=>by simp only[dat,zb3,Qbi,List.not_mem_nil,or_false]at h;rcases h with rfl|rfl|rfl|rfl|rfl|rfl|rfl <;> trivial
  |8=>λt h=>by simp only[dat,zb3,Qbi,List.not_mem_nil,or_false]at h;rcases h with rfl|rfl <;> trivial
  |9=>λt h=>by simp only[dat,zb3,Qbi,List.not_mem_nil,or_false]at h;rcases h with rfl|rfl|rfl|rfl|rfl|rfl <;> trivial
  |10=>λt h=>by simp only[dat,zb3,Qbi,List.not_mem_nil,or_false]at h;rcases h with rfl|rfl|rfl|rfl|rfl|rfl|rfl|rfl|rfl|rfl|rfl|rfl|rfl <;> trivial
  |11=>λt h=>by simp only[dat,zb3,Qbi,List.not_mem_nil,or_false]at h;rcases h with rfl|rfl <;> trivial
  |_+12=>λt h=>by cases h
 ty:=λe t h=>by
  have:=z1w h;simp only[y2s,Qbi,Qbt,List.not_mem_nil,or_false]at this
  rcases this with ⟨_,rfl⟩|⟨_,rfl⟩|⟨_,rfl⟩|⟨_,rfl⟩|⟨_,rfl⟩|⟨_,rfl⟩|⟨_,rfl⟩|⟨_,rfl⟩|⟨_,rfl⟩|⟨_,rfl⟩|⟨_,rfl⟩|⟨_,rfl⟩|⟨_,rfl⟩|⟨_,rfl⟩|⟨_,rfl⟩|⟨_,rfl⟩|⟨_,rfl⟩|⟨_,rfl⟩|⟨_,rfl⟩|⟨_,rfl⟩|⟨_,rfl⟩|⟨_,rfl⟩|⟨_,rfl⟩|⟨_,rfl⟩|⟨_,rfl⟩|⟨_,rfl⟩|⟨_,rfl⟩|⟨_,rfl⟩|⟨_,rfl⟩|⟨_,rfl⟩|⟨_,rfl⟩|⟨_,rfl⟩|⟨_,rfl⟩|⟨_,rfl⟩|⟨_,rfl⟩|⟨_,rfl⟩|⟨_,rfl⟩|⟨_,rfl⟩|⟨_,rfl⟩ <;> simp
 kin:=λi=>match i with
  |0=>λx _=>z2o.kin x
  |1=>λx _=>kz0.kin x
  |2=>λx _=>kzl.kin x
  |3=>λx _=>zz0.kin x
  |4=>λx _=>kz7.kin x
  |5=>λx _=>zzg.kin x
  |6=>λx _=>kz5.kin x
  |7=>λx _=>zz5.kin x
  |8=>λx _=>yz7.kin x
  |9=>λx _=>kz3.kin x
  |10=>λx _=>zz9.kin x
  |11=>λx _=>yz8.kin x
  |_+12=>λ_ _=>by simp only[dat,V.kin,V.z3h]
def anb(l:List (Nat×Nat))(f:Func):AC:=(ann l (f.body.getD .skip) 0).1
abbrev dI:Sh:=.d (.int .i64)
abbrev dB:Sh:=.d .bool
abbrev dS:Sh:=.d .str
abbrev dU:Sh:=.d (.int .u8)
abbrev dA:Sh:=.d (.sl .str)
abbrev dT(i:Nat):Sh:=.d (.st i)
abbrev dL(i:Nat):Sh:=.d (.sl (.st i))
abbrev Ot:=Option
theorem tr{α:Type}{a b c:α}(h:a=b)(k:b=c:=by kernel_rfl):a=c:=h.trans k
def u1{a r x:Type}(f:a->r)(y:a×x):r:=f y.1
def u2{a b r x:Type}(f:a->b->r)(y:a×b×x):r:=u1 (f y.1) y.2
def u3{a b c r x:Type}(f:a->b->c->r)(y:a×b×c×x):r:=u2 (f y.1) y.2
def u4{a b c d r x:Type}(f:a->b->c->d->r)(y:a×b×c×d×x):r:=u3 (f y.1) y.2
def u5{a b c d e r x:Type}(f:a->b->c->d->e->r)(y:a×b×c×d×e×x):r:=u4 (f y.1) y.2
def u6{a b c d e g r x:Type}(f:a->b->c->d->e->g->r)(y:a×b×c×d×e×g×x):r:=u5 (f y.1) y.2
def u7{a b c d e g h r x:Type}(f:a->b->c->d->e->g->h->r)(y:a×b×c×d×e×g×h×x):r:=u6 (f y.1) y.2
def u8{a b c d e g h i r x:Type}(f:a->b->c->d->e->g->h->i->r)(y:a×b×c×d×e×g×h×i×x):r:=u7 (f y.1) y.2
def u9{a b c d e g h i j r x:Type}(f:a->b->c->d->e->g->h->i->j->r)(y:a×b×c×d×e×g×h×i×j×x):r:=u8 (f y.1) y.2
def u10{a b c d e g h i j k r x:Type}(f:a->b->c->d->e->g->h->i->j->k->r)(y:a×b×c×d×e×g×h×i×j×k×x):r:=u9 (f y.1) y.2
def u11{a b c d e g h i j k l r x:Type}(f:a->b->c->d->e->g->h->i->j->k->l->r)(y:a×b×c×d×e×g×h×i×j×k×l×x):r:=u10 (f y.1) y.2
theorem okG{R:Type}{P:Program}{D:Dat}{hD:D.Ok P}{f nt p:Nat}{args:List Sh}{aos:List OSh}{outs:List Sh}{ros:List OSh}{pure:Bool}{l:LSh}{pack:HL D.T l.tys->R}{un:R->HL D.T (Sh.kzs outs++zzl ros)}
  {go:Nat->HL D.T (Sh.kzs args++zzl aos)->Option R} {z16:Nat->List (Nat×Lb D R)}{c:AC}{gs:List Nat}{fn:Func}{bs:List (FI D)}(hbs:OkL P bs)
  (hf:P.funcs[f]? = some fn) (hnt:fn.ntmps=nt) (hent:∀args w,(callFunc f args).run P w = .ok (.enter f args) w)
  (hs:∀n x,go (n+1) x=run P D (tb bs n) (jump D (z16 n)) c (entry D args aos nt gs x) (zl0 D l pack))
  (hls:∀n,zjg (λj lb=>∀x,lb.go x=zih P D (tb bs n) (jump D (z16 n)) j c (zl0 D l pack) (lb.sh.bld D x)) (z16 (n+1)))
  (hb:fn.body=some c.erase) (hnd:decide c.labels.Nodup=true) (hchk:chkB p nt args outs aos ros pure l c gs=true) (hp:∀n,zmx p (z16 n)=true)
  (hout:∀x,zg9 P D (l.bld D x) fn.results.toList=some (yzu D (λk=>k) outs (HL.fst _ (un (pack x)))))
  (hz:∀x,go 0 x=none) (hlz:zjg (λ_ lb=>∀x,lb.go x=none) (z16 0))
  (hros:∀x,pure=true∨(l.bld D x).o=z0c D (λk=>k) ros 0 (HL.snd _ (un (pack x)))) (hrng:c.zbp=[]) :
  FOk P (FI.of D f nt p args aos outs ros pure l pack un go z16 c gs) :=
 (y3j hD hbs (FI.zro (hD:=hD) hf hnt hent hb (Qac hnd) hchk hp hout hz hlz hs hls hros hrng)).1
theorem okF{R:Type}{f nt p:Nat}{args:List Sh}{aos:List OSh}{outs:List Sh}{ros:List OSh}{pure:Bool}{l:LSh}{pack:HL dat.T l.tys->R}{un:R->HL dat.T (Sh.kzs outs++zzl ros)}
  {go:Nat->HL dat.T (Sh.kzs args++zzl aos)->Option R} {z16:Nat->List (Nat×Lb dat R)}{c:AC}{gs:List Nat}{fn:Func}{P:Program}{bs:List (FI dat)}(hbs:OkL P bs)
  (hf:P.funcs[f]? = some fn) (hnt:fn.ntmps=nt) (hent:∀args w,(callFunc f args).run P w = .ok (.enter f args) w)
  (hs:∀n x,go (n+1) x=run P dat (tb bs n) (jump dat (z16 n)) c (entry dat args aos nt gs x) (zl0 dat l pack))
  (hls:∀n,zjg (λj lb=>∀x,lb.go x=zih P dat (tb bs n) (jump dat (z16 n)) j c (zl0 dat l pack) (lb.sh.bld dat x)) (z16 (n+1)))
  (hb:fn.body=some c.erase:=by kernel_rfl) (hnd:decide c.labels.Nodup=true:=by kernel_rfl) (hchk:chkB p nt args outs aos ros pure l c gs=true:=by kernel_rfl) (hp:∀n,zmx p (z16 n)=true:=by exact λn=>by kernel_rfl)
  (hout:∀x,zg9 P dat (l.bld dat x) fn.results.toList=some (yzu dat (λk=>k) outs (HL.fst _ (un (pack x)))):=by exact λx=>by kernel_rfl)
  (hz:∀x,go 0 x=none:=by exact λ_=>rfl) (hlz:zjg (λ_ lb=>∀x,lb.go x=none) (z16 0):=by repeat (first|exact trivial|refine⟨λ_=>rfl,?_⟩))
  (hros:∀x,pure=true∨(l.bld dat x).o=z0c dat (λk=>k) ros 0 (HL.snd _ (un (pack x))):=by first|exact λx=>.inl rfl|exact λx=>.inr (by kernel_rfl)) (hrng:c.zbp=[]:=by kernel_rfl) :
  FOk P (FI.of dat f nt p args aos outs ros pure l pack un go z16 c gs) :=
 okG (hD:=z9g P) hbs hf hnt hent hs hls hb hnd hchk hp hout hz hlz hros hrng
end Go.Ab
namespace Go.Proofs
open Go.Shelf
def Try.zun:Go.Shelf.Ren:=⟨λ|190=>22|125=>35|258=>34|128=>63|129=>64|302=>54|303=>55|304=>56|305=>57|306=>58|307=>59|308=>60|309=>61|310=>62|333=>77|329=>78|330=>79|334=>80|335=>81|336=>82|344=>95|n=>n,λ|31=>28|9=>9|3=>3|46=>100|0=>0|51=>127|53=>129|4=>4|183=>120|182=>119|131=>43|5=>5|218=>136|222=>140|228=>147|229=>52|n=>n,λ|n=>n⟩
theorem Try.zyo:Go.Proofs.Lays.n190 Try.prog Try.zun:={
 mixed:=by kernel_rfl
 f125:=Try.func35.trans (congrArg some (by kernel_rfl))
 f128:=Try.func63.trans (congrArg some (by kernel_rfl))
 f129:=Try.func64.trans (congrArg some (by kernel_rfl))
 f190:=Try.func22.trans (congrArg some (by kernel_rfl))
 f258:=Try.func34.trans (congrArg some (by kernel_rfl))
 f302:=Try.func54.trans (congrArg some (by kernel_rfl))
 f303:=Try.func55.trans (congrArg some (by kernel_rfl))
 f304:=Try.func56.trans (congrArg some (by kernel_rfl))
 f305:=Try.func57.trans (congrArg some (by kernel_rfl))
 f306:=Try.func58.trans (congrArg some (by kernel_rfl))
 f307:=Try.func59.trans (congrArg some (by kernel_rfl))
 f308:=Try.func60.trans (congrArg some (by kernel_rfl))
 f309:=Try.func61.trans (congrArg some (by kernel_rfl))
 f310:=Try.func62.trans (congrArg some (by kernel_rfl))
 f329:=Try.func78.trans (congrArg some (by kernel_rfl))
 f330:=Try.func79.trans (congrArg some (by kernel_rfl))
 f333:=Try.func77.trans (congrArg some (by kernel_rfl))
 f334:=Try.func80.trans (congrArg some (by kernel_rfl))
 f335:=Try.func81.trans (congrArg some (by kernel_rfl))
 f336:=Try.func82.trans (congrArg some (by kernel_rfl))
 f344:=Try.func95.trans (congrArg some (by kernel_rfl))
 t0:=Try.underlying0
 a0:=Try.isAgg0
 z0:=Try.sizeOf0
 v0:=Try.zeroValue0
 t3:=Try.underlying3
 a3:=Try.isAgg3
 z3:=Try.sizeOf3
 v3:=Try.zeroValue3
 t4:=Try.underlying4
 a4:=Try.isAgg4
 z4:=Try.sizeOf4
 v4:=Try.zeroValue4
 t5:=Try.underlying5
 a5:=Try.isAgg5
 z5:=Try.sizeOf5
 v5:=Try.zeroValue5
 t9:=Try.underlying9
 a9:=Try.isAgg9
 z9:=Try.sizeOf9
 v9:=Try.zeroValue9
 t31:=Try.underlying28
 a31:=Try.isAgg28
 z31:=Try.sizeOf28
 v31:=Try.zeroValue28
 t46:=Try.underlying100
 a46:=Try.isAgg100
 z46:=Try.sizeOf100
 v46:=Try.zeroValue100
 t51:=Try.underlying127
 a51:=Try.isAgg127
 z51:=Try.sizeOf127
 v51:=Try.zeroValue127
 t53:=Try.underlying129
 a53:=Try.isAgg129
 z53:=Try.sizeOf129
 v53:=Try.zeroValue129
 t131:=Try.underlying43
 a131:=Try.isAgg43
 z131:=Try.sizeOf43
 v131:=Try.zeroValue43
 t182:=Try.underlying119
 a182:=Try.isAgg119
 z182:=Try.sizeOf119
 v182:=Try.zeroValue119
 t183:=Try.underlying120
 a183:=Try.isAgg120
 z183:=Try.sizeOf120
 v183:=Try.zeroValue120
 t218:=Try.underlying136
 a218:=Try.isAgg136
 z218:=Try.sizeOf136
 v218:=Try.zeroValue136
 t222:=Try.underlying140
 a222:=Try.isAgg140
 z222:=Try.sizeOf140
 v222:=Try.zeroValue140
 t228:=Try.underlying147
 a228:=Try.isAgg147
 z228:=Try.sizeOf147
 v228:=Try.zeroValue147
 t229:=Try.underlying52
 a229:=Try.isAgg52
 z229:=Try.sizeOf52
 v229:=Try.zeroValue52}
def Try.zvp:Go.Shelf.Ren:=⟨λ|138=>30|195=>46|218=>47|143=>48|219=>73|217=>90|225=>91|224=>92|267=>93|266=>99|314=>100|n=>n,λ|9=>9|3=>3|4=>4|5=>5|0=>0|46=>100|146=>151|51=>127|n=>n,λ|1=>0|n=>n⟩
theorem Try.y7i:Go.Proofs.Lays.n138 Try.prog Try.zvp:={
 mixed:=by kernel_rfl
 f138:=Try.func30.trans (congrArg some (by kernel_rfl))
 f143:=Try.func48.trans (congrArg some (by kernel_rfl))
 f195:=Try.func46.trans (congrArg some (by kernel_rfl))
 f217:=Try.func90.trans (congrArg some (by kernel_rfl))
 f218:=Try.func47.trans (congrArg some (by kernel_rfl))
 f219:=Try.func73.trans (congrArg some (by kernel_rfl))
 f224:=Try.func92.trans (congrArg some (by kernel_rfl))
 f225:=Try.func91.trans (congrArg some (by kernel_rfl))
 f266:=Try.func99.trans (congrArg some (by kernel_rfl))
 f267:=Try.func93.trans (congrArg some (by kernel_rfl))
 f314:=Try.func100.trans (congrArg some (by kernel_rfl))
 t0:=Try.underlying0
 a0:=Try.isAgg0
 z0:=Try.sizeOf0
 v0:=Try.zeroValue0
 t3:=Try.underlying3
 a3:=Try.isAgg3
 z3:=Try.sizeOf3
 v3:=Try.zeroValue3
 t4:=Try.underlying4
 a4:=Try.isAgg4
 z4:=Try.sizeOf4
 v4:=Try.zeroValue4
 t5:=Try.underlying5
 a5:=Try.isAgg5
 z5:=Try.sizeOf5
 v5:=Try.zeroValue5
 t9:=Try.underlying9
 a9:=Try.isAgg9
 z9:=Try.sizeOf9
 v9:=Try.zeroValue9
 t46:=Try.underlying100
 a46:=Try.isAgg100
 z46:=Try.sizeOf100
 v46:=Try.zeroValue100
 t51:=Try.underlying127
 a51:=Try.isAgg127
 z51:=Try.sizeOf127
 v51:=Try.zeroValue127
 t146:=Try.underlying151
 a146:=Try.isAgg151
 z146:=Try.sizeOf151
 v146:=Try.zeroValue151
 g1:=by kernel_rfl}
def Try.zui:Go.Shelf.Ren:=⟨λ|219=>73|217=>90|225=>91|224=>92|267=>93|266=>99|314=>100|n=>n,λ|9=>9|3=>3|4=>4|5=>5|46=>100|146=>151|51=>127|n=>n,λ|1=>0|n=>n⟩
theorem Try.y7q:Go.Proofs.Lays.n219 Try.prog Try.zui:={
 mixed:=by kernel_rfl
 f217:=Try.func90.trans (congrArg some (by kernel_rfl))
 f219:=Try.func73.trans (congrArg some (by kernel_rfl))
 f224:=Try.func92.trans (congrArg some (by kernel_rfl))
 f225:=Try.func91.trans (congrArg some (by kernel_rfl))
 f266:=Try.func99.trans (congrArg some (by kernel_rfl))
 f267:=Try.func93.trans (congrArg some (by kernel_rfl))
 f314:=Try.func100.trans (congrArg some (by kernel_rfl))
 t3:=Try.underlying3
 a3:=Try.isAgg3
 z3:=Try.sizeOf3
 v3:=Try.zeroValue3
 t4:=Try.underlying4
 a4:=Try.isAgg4
 z4:=Try.sizeOf4
 v4:=Try.zeroValue4
 t5:=Try.underlying5
 a5:=Try.isAgg5
 z5:=Try.sizeOf5
 v5:=Try.zeroValue5
 t9:=Try.underlying9
 a9:=Try.isAgg9
 z9:=Try.sizeOf9
 v9:=Try.zeroValue9
 t46:=Try.underlying100
 a46:=Try.isAgg100
 z46:=Try.sizeOf100
 v46:=Try.zeroValue100
 t51:=Try.underlying127
 a51:=Try.isAgg127
 z51:=Try.sizeOf127
 v51:=Try.zeroValue127
 t146:=Try.underlying151
 a146:=Try.isAgg151
 z146:=Try.sizeOf151
 v146:=Try.zeroValue151
 g1:=by kernel_rfl}
end Go.Proofs
namespace Go.Proofs.Ytdcbdnediadfcaa
open Go Go.Ab Go.Proofs
set_option linter.unusedVariables false
def z0q:Nat->B8->B8->Option Int:=λ_ s t=>match t with
 |[c]=>some (Lib.indexByte s c)
 |_=>none
def z7m:LSh:=⟨[(4,(.d (.int .i64)))],[],0,143,[]⟩
noncomputable def z3o:FI dat:=FI.of dat 73 143 0 [(.d .str),(.d .str)] [] [(.d (.int .i64))] [] true z7m (R:=Int) (λx=>x.1) (λr=>(r,())) (λn x=>z0q n x.1 x.2.1)
 (λn=>[]) .skip
theorem y8s(s:B8)(c:UInt8):zd6 Try.prog 73 [.str s,.str [c]] (.int .i64 (Lib.indexByte s c)):=λH W g cargs hG hA=>by
 obtain⟨x,y,rfl,h0,h1⟩:=args2 hA;cases h0;cases h1;have c:=Any.stringslite_Index_one Try.y7q ⟨s.toArray⟩ c W;refine .inl ⟨Try.call73 _ _,c.mono λe W' ⟨h1,h2⟩ =>?_⟩;subst h1;subst h2;exact⟨_,g,rfl,.refl _ _ _,hG,.int _ _⟩
theorem z7i:FOk Try.prog z3o:=λn R x k kp r h=>by
 obtain⟨s,t,u⟩:=x;obtain⟨y,hy,h⟩:=Qbx.1 (show(z0q n s t).bind (λr=>k (r,()))=some r from h)
 match t,hy with
 |[c],hy=>
  have hy:some (Lib.indexByte s c)=some y:=hy;injection hy with hy;subst hy;refine⟨(_,()),h,rfl,rfl,rfl,λlv vargs ha=>⟨[.int .i64 (Lib.indexByte s c)],λρ lv' =>?_,?_⟩⟩;show VRL dat ρ lv' [TV.int .i64 (Lib.indexByte s c)] _;simp only[VRL,VR];exact⟨_,_,rfl,rfl,rfl⟩;have ha:VRL dat [] lv [TV.str s,TV.str [c]] vargs:=ha;simp only[VRL,VR]at ha;obtain⟨v,r1,rfl,rfl,v2,r2,rfl,rfl,rfl⟩:=ha;exact y8s _ _
end Go.Proofs.Ytdcbdnediadfcaa
namespace Go.Proofs.Ytdcbdnediadfcaa
open Go Go.Ab
set_option linter.unusedVariables false
set_option maxRecDepth 100000
set_option maxHeartbeats 4000000
def kzy:Nat->B8->B8->Ot (B8×B8×Bool)
 |0,_,_=>none
 |n+1,a,b=>
  (z0q n a b).bind λy0=>
  pIf (decide (y0>=0))
   ((sub a 0 y0).bind λx1=>
   (sub a (IntKind.i64.wrap (y0+(b.length:Int))) (a.length:Int)).bind λx2=>
   some (x1,x2,true))
   (some (a,[],false))
def z8u:LSh:=⟨[(4,dS),(5,dS),(6,dB)],[],0,23,[]⟩
noncomputable def z4e:FI dat:=FI.of dat 74 23 0 [dS,dS] [] [dS,dS,dB] [] true z8u (R:=B8×B8×Bool) (λx=>(x.1,x.2.1,x.2.2.1)) (λr=>(r.1,r.2.1,r.2.2,())) (λn=>u2 (kzy n))
 (λn=>[]) (anb [] Try.f74)
theorem z83:FOk Try.prog z4e:=okF (bs:=[z3o]) ⟨z7i,trivial⟩ Try.func74 Try.ntmps74 Try.call74
 (λ_ _=>tr (kzy.eq_2 ..))
 (λn=>trivial)
def z0t:Nat->B8->B8->Ot (B8×B8×Bool)
 |0,_,_=>none
 |n+1,a,b=>
  (kzy n a b).bind λy0=>
  some (y0.1,y0.2.1,y0.2.2)
def zoj:LSh:=⟨[(4,dS),(5,dS),(6,dB)],[],0,13,[]⟩
noncomputable def zft:FI dat:=FI.of dat 50 13 0 [dS,dS] [] [dS,dS,dB] [] true zoj (R:=B8×B8×Bool) (λx=>(x.1,x.2.1,x.2.2.1)) (λr=>(r.1,r.2.1,r.2.2,())) (λn=>u2 (z0t n))
 (λn=>[]) (anb [] Try.f50)
theorem zdr:FOk Try.prog zft:=okF (bs:=[z4e]) ⟨z83,trivial⟩ Try.func50 Try.ntmps50 Try.call50
 (λ_ _=>tr (z0t.eq_2 ..))
 (λn=>trivial)
mutual
def z2q:Nat->B8->Ot Bool
 |0,_=>none
 |n+1,a=>
  pIf ((a.length:Int)==0)
   (z1n n a true)
   (z1n n a (decide ((a.length:Int)>40)))
def z1n:Nat->B8->Bool->Ot Bool
 |0,_,_=>none
 |n+1,a,b=>
  pIf b
   (some false)
   (zzn n a 0)
def zzn:Nat->B8->Nat->Ot Bool
 |0,_,_=>none
 |n+1,a,b=>
  pIf (decide (b<a.length))
   (pIf (decide (((z43 a b).1:Int)>=97))
     (z0m n ((z43 a b).1:Int) (b:Int) (decide (((z43 a b).1:Int)<=122)) a (b+(z43 a b).2))
     (z0m n ((z43 a b).1:Int) (b:Int) false a (b+(z43 a b).2)))
   (some true)
def z0m:Nat->Int->Int->Bool->B8->Nat->Ot Bool
 |0,_,_,_,_,_=>none
 |n+1,a,b,c,d,e=>
  pIf (!c)
   (pIf (b==0)
     (kzj n true d e)
     (pIf (a != 45)
       (pIf (decide (a<48))
         (kzj n true d e)
         (kzj n (decide (a>57)) d e))
       (kzj n false d e)))
   (kzj n false d e)
def kzj:Nat->Bool->B8->Nat->Ot Bool
 |0,_,_,_=>none
 |n+1,a,b,c=>
  pIf a
   (some false)
   (zzn n b c)
end
def zte:LSh:=⟨[(2,dB)],[],0,44,[]⟩
noncomputable def zht:FI dat:=FI.of dat 51 44 0 [dS] [] [dB] [] true zte (R:=Bool) Prod.fst (·,()) (λn=>u1 (z2q n))
 (λn=>[(0,⟨⟨[(0,dS),(13,dB)],[],0,44,[]⟩,u2 (z1n n)⟩),(1,⟨⟨[(15,(.ptr 0 0))],[.siter],0,44,[]⟩,u2 (zzn n)⟩),(2,⟨⟨[(15,(.ptr 0 0)),(4,(.d (.int .i32))),(3,dI),(5,dB)],[.siter],0,44,[]⟩,u5 (z0m n)⟩),(3,⟨⟨[(15,(.ptr 0 0)),(43,dB)],[.siter],0,44,[]⟩,u3 (kzj n)⟩)]) (anb [(5,0),(14,1),(26,2),(28,3)] Try.f51)
theorem zpr:FOk Try.prog zht:=okF (bs:=[]) trivial Try.func51 Try.ntmps51 Try.call51
 (λ_ _=>tr (z2q.eq_2 ..))
 (λn=>⟨λ_=>tr (z1n.eq_2 ..),
  λ_=>tr (zzn.eq_2 ..),
  λ_=>tr (z0m.eq_2 ..),
  λ_=>tr (kzj.eq_2 ..),
  trivial⟩)
def yzb:Nat->B8->B8->Ot Bool
 |0,_,_=>none
 |n+1,a,b=>
  pIf (decide ((a.length:Int)>=(b.length:Int)))
   ((sub a (IntKind.i64.wrap ((a.length:Int)-(b.length:Int))) (a.length:Int)).bind λx0=>
   some (x0==b))
   (some false)
def z6e:LSh:=⟨[(4,dB)],[],0,21,[]⟩
noncomputable def z2e:FI dat:=FI.of dat 94 21 0 [dS,dS] [] [dB] [] true z6e (R:=Bool) Prod.fst (·,()) (λn=>u2 (yzb n))
 (λn=>[]) (anb [] Try.f94)
theorem z5p:FOk Try.prog z2e:=okF (bs:=[]) trivial Try.func94 Try.ntmps94 Try.call94
 (λn=>λ_=>tr (yzb.eq_2 _ _ n))
 (λn=>trivial)
def kzb:Nat->B8->B8->Ot (B8×Bool)
 |0,_,_=>none
 |n+1,a,b=>
  (yzb n a b).bind λy0=>
  pIf (!y0)
   (some (a,false))
   ((sub a 0 (IntKind.i64.wrap ((a.length:Int)-(b.length:Int)))).bind λx1=>
   some (x1,true))
def z68:LSh:=⟨[(4,dS),(5,dB)],[],0,18,[]⟩
noncomputable def z2g:FI dat:=FI.of dat 75 18 0 [dS,dS] [] [dS,dB] [] true z68 (R:=B8×Bool) (λx=>(x.1,x.2.1)) (λr=>(r.1,r.2,())) (λn=>u2 (kzb n))
 (λn=>[]) (anb [] Try.f75)
theorem z5t:FOk Try.prog z2g:=okF (bs:=[z2e]) ⟨z5p,trivial⟩ Try.func75 Try.ntmps75 Try.call75
 (λ_ _=>tr (kzb.eq_2 ..))
 (λn=>trivial)
def zzy:Nat->B8->B8->Ot (B8×Bool)
 |0,_,_=>none
 |n+1,a,b=>
  (kzb n a b).bind λy0=>
  some (y0.1,y0.2)
def zex:LSh:=⟨[(4,dS),(5,dB)],[],0,11,[]⟩
noncomputable def z7y:FI dat:=FI.of dat 52 11 0 [dS,dS] [] [dS,dB] [] true zex (R:=B8×Bool) (λx=>(x.1,x.2.1)) (λr=>(r.1,r.2,())) (λn=>u2 (zzy n))
 (λn=>[]) (anb [] Try.f52)
theorem zd9:FOk Try.prog z7y:=okF (bs:=[z2g]) ⟨z5t,trivial⟩ Try.func52 Try.ntmps52 Try.call52
 (λ_ _=>tr (zzy.eq_2 ..))
 (λn=>trivial)
mutual
def yzg:Nat->B8->Ot (Bool×yz8)
 |0,_=>none
 |n+1,a=>
  (z0t n a [91]).bind λy0=>
  (z2q n y0.1).bind λy1=>
  pIf (!y1)
   (z0g n y0.1 y0.2.2 y0.2.1 true (yz8.mk [] 0))
   (z0g n y0.1 y0.2.2 y0.2.1 (!y0.2.2) (yz8.mk [] 0))
def z0g:Nat->B8->Bool->B8->Bool->yz8->Ot (Bool×yz8)
 |0,_,_,_,_,_=>none
 |n+1,a,b,c,d,e=>
  pIf d
   (pIf (!b)
     ((z2q n a).bind λy2=>
     some (y2,(yz8.mk a (-1))))
     (some (false,(yz8.mk a (-1)))))
   ((zzy n c [93]).bind λy3=>
   pIf (!y3.2)
    (yzl n a y3.1 true e)
    (pIf ((y3.1.length:Int)==0)
      (yzl n a y3.1 true e)
      (pIf (decide ((y3.1.length:Int)>4))
        (yzl n a y3.1 true e)
        ((ix y3.1 0).bind λx4=>
        pIf ((x4.toNat:Int)==48)
         (yzl n a y3.1 (decide ((y3.1.length:Int)>1)) e)
         (yzl n a y3.1 false e)))))
def yzl:Nat->B8->B8->Bool->yz8->Ot (Bool×yz8)
 |0,_,_,_,_=>none
 |n+1,a,b,c,d=>
  pIf c
   (some (false,(yz8.mk [] 0)))
   (z0j n 0 a d b 0)
def z0j:Nat->Int->B8->yz8->B8->Nat->Ot (Bool×yz8)
 |0,_,_,_,_,_=>none
 |n+1,a,b,c,d,e=>
  pIf (decide (e<d.length))
   (pIf (decide (((z43 d e).1:Int)<48))
     (z0e n b ((z43 d e).1:Int) a true c d (e+(z43 d e).2))
     (z0e n b ((z43 d e).1:Int) a (decide (((z43 d e).1:Int)>57)) c d (e+(z43 d e).2)))
   (some (true,(yz8.mk b a)))
def z0e:Nat->B8->Int->Int->Bool->yz8->B8->Nat->Ot (Bool×yz8)
 |0,_,_,_,_,_,_,_=>none
 |n+1,a,b,c,d,e,f,g=>
  pIf d
   (some (false,(yz8.mk [] 0)))
   (z0j n (IntKind.i64.wrap ((IntKind.i64.wrap (10 * c))+(IntKind.i64.wrap (IntKind.i32.wrap (b-48))))) a e f g)
end
def zrr:LSh:=⟨[(2,(.ptr 0 0)),(3,dB)],[(.st 11)],0,82,[]⟩
noncomputable def zr6:FI dat:=FI.of dat 32 82 0 [dS] [] [dT 11,dB] [] true zrr (R:=Bool×yz8) (λx=>(x.1,x.2.1)) (λr=>(r.2,r.1,())) (λn=>u1 (yzg n))
 (λn=>[(0,⟨⟨[(2,(.ptr 0 0)),(4,dS),(6,dB),(5,dS),(24,dB)],[(.st 11)],0,82,[]⟩,u5 (z0g n)⟩),(1,⟨⟨[(2,(.ptr 0 0)),(4,dS),(7,dS),(59,dB)],[(.st 11)],0,82,[]⟩,u4 (yzl n)⟩),(2,⟨⟨[(2,(.ptr 0 0)),(9,dI),(4,dS),(62,(.ptr 1 0))],[(.st 11),.siter],0,82,[]⟩,u5 (z0j n)⟩),(3,⟨⟨[(2,(.ptr 0 0)),(4,dS),(62,(.ptr 1 0)),(11,(.d (.int .i32))),(9,dI),(71,dB)],[(.st 11),.siter],0,82,[]⟩,u7 (z0e n)⟩)]) (anb [(7,0),(17,1),(28,2),(41,3)] Try.f32)
theorem zop:FOk Try.prog zr6:=okF (bs:=[zft,zht,z7y]) ⟨zdr,zpr,zd9,trivial⟩ Try.func32 Try.ntmps32 Try.call32
 (λ_ _=>tr (yzg.eq_2 ..))
 (λn=>⟨λ_=>tr (z0g.eq_2 ..),
  λ_=>tr (yzl.eq_2 ..),
  λ_=>tr (z0j.eq_2 ..),
  λ_=>tr (z0e.eq_2 ..),
  trivial⟩)
end Go.Proofs.Ytdcbdnediadfcaa
namespace Go.Proofs.Ytdcbdnediadfcaa
open Go Go.Ab Go.Proofs
open Go.RowKit
set_option linter.unusedVariables false
set_option linter.unusedSimpArgs false
attribute [local go_sem] Oper.semAt_some
namespace OHand
open Go.Ab (B8)
open Go.Ab (Qbq)
theorem zkf{c:UInt8}{s:B8}(hb:s.length<=1048576):Ev (λn=>z0t n s [c]) (cutAt c s):=by
 refine .succ (λn=>by rw[z0t]) ?_;refine .bind (y:=cutAt c s) ?_ (.pure rfl);refine .succ (λn=>by rw[kzy]) ?_;refine .bind (y:=Lib.indexByte s c) (.pure rfl) ?_;rw[zvu];cases h:s.any (· == c);rw[zxe h];exact .pf rfl (.pure rfl);obtain⟨h1,h2,h3⟩:=zre h;simp only[if_true];refine .pt (by simp) ?_;refine .opt (y:=s.takeWhile (· != c)) (by rw[z8n (by omega),h2]) ?_
 refine .opt (y:=(s.dropWhile (· != c)).tail) (by
  have e:IntKind.i64.wrap ((s.takeWhile (· != c)).length+([c].length:Int))=(((s.takeWhile (· != c)).length+1:Nat):Int):=by rw[show([c].length:Int)=1 from rfl];exact wrk (by omega)
  rw[e,zbw (by omega) (Qbq _),List.take_length,h3]) ?_
 exact .pure (by simp only[cutAt,h])
theorem y93(n:Nat)(s t:B8)(r:B8×B8×Bool)(h:z0t n s t=some r):zd6 Try.prog 50 [.str s,.str t] (.tup [.str r.1,.str r.2.1,.bool r.2.2]):=by
 obtain⟨y,h1,_,_,_,h2⟩:=zdr n _ (s,t,()) (λy=>some (y.1,y.2.1,y.2.2.1)) (λ_=>none) r (by show(z0t n s t).bind (λr=>some (r.1,r.2.1,r.2.2))=some r;rw[h];rfl);obtain⟨vs,k1,k2⟩:=h2 0 [.str s,.str t] (by show VRL dat [] 0 [TV.str s,TV.str t] _;simp only[VRL,VR];exact⟨_,_,rfl,rfl,_,_,rfl,rfl,rfl⟩);injection h1 with h1;subst h1;have:=k1 [] 0
 replace this:VRL dat [] 0 [TV.str y.1,TV.str y.2.1,TV.bool y.2.2.1] vs:=this;simp only[VRL,VR]at this;obtain⟨_,_,rfl,rfl,_,_,rfl,rfl,_,_,rfl,rfl,rfl⟩:=this;exact k2
theorem y7r(n:Nat)(s:B8)(r:Bool×yz8)(h:yzg n s=some r):zd6 Try.prog 32 [.str s] (.tup [.agg [.str r.2.name,.int .i64 r.2.index],.bool r.1]):=by
 obtain⟨y,h1,_,_,_,h2⟩:=zop n _ (s,()) (λy=>some (y.2.1,y.1)) (λ_=>none) r (by show(yzg n s).bind (λr=>some (r.1,r.2))=some r;rw[h];rfl);obtain⟨vs,k1,k2⟩:=h2 0 [.str s] (by show VRL dat [] 0 [TV.str s] _;simp only[VRL,VR];exact⟨_,_,rfl,rfl,rfl⟩);injection h1 with h1;subst h1;have:=k1 [] 0;replace this:VRL dat [] 0 [TV.agg [TV.str y.1.name,TV.int .i64 y.1.index],TV.bool y.2.1] vs:=this
 simp only[VRL,VR]at this;obtain⟨_,_,rfl,⟨_,rfl,_,_,rfl,rfl,_,_,rfl,rfl,rfl⟩,_,_,rfl,rfl,rfl⟩:=this;exact k2
theorem pc{f n:Nat}{vargs:List V}{r:V}{cargs:Array Value}{W:World}(h:zd6 Try.prog f vargs r)(hent:∀args w,(callFunc f args).run Try.prog w = .ok (.enter f args) w)(ha:z84 W g0 H0 vargs cargs) :
  CallsIn Fence.wide n Try.prog f cargs W λe W'=>∃c,e = .returned c∧RowKit.Below W.heap.size W W'∧∃g',Rel W' g' H0 r c:=by
 refine callsIn_wide.2 ?_
 rcases h H0 W g0 cargs (y8f W ⟨λk cs h=>(by cases h),λk h=>(by cases h)⟩) ha with ⟨_,hc⟩|⟨c,W',g',hc,_⟩
 exact hc.mono λe W' ⟨c,g',he,hs,_,hr⟩=>⟨c,he,zfp hs,g',hr⟩
 rw[hent]at hc;cases hc
def fx(N:Nat)(x:B8):B8:=if (yzg (N+10) x).isSome then x else []
def rd(N:Nat)(x:B8):Bool×yz8:=(yzg (N+10) (fx N x)).getD (false,⟨[],0⟩)
theorem rd_some{N:Nat}(x:B8):yzg (N+10) (fx N x)=some (rd N x):=by
 have h:(yzg (N+10) (fx N x)).isSome=true:=by
  unfold fx;split
  assumption
  exact rfl
 unfold rd
 cases hx:yzg (N+10) (fx N x)with
 |none=>rw[hx]at h;cases h
 |some y=>rfl
theorem relA1{W:World}{s:B8}:z84 W g0 H0 [.str s] #[.string ⟨s.toArray⟩]:=zsx (cs:=[.string ⟨s.toArray⟩]) rfl λj v hj=>by
 cases j with
 |zero=>simp at hj;subst hj;exact⟨_,rfl,.str _⟩
 |succ j=>simp at hj
theorem relA2{W:World}{s t:B8}:z84 W g0 H0 [.str s,.str t] #[.string ⟨s.toArray⟩,.string ⟨t.toArray⟩]:=zsx (cs:=[.string ⟨s.toArray⟩,.string ⟨t.toArray⟩]) rfl λj v hj=>by
 match j with
 |0=>simp at hj;subst hj;exact⟨_,rfl,.str _⟩
 |1=>simp at hj;subst hj;exact⟨_,rfl,.str _⟩
 |j+2=>simp at hj
theorem grown{W W':World}(h:RowKit.Below W.heap.size W W'):W.grownBy W' none:=⟨h.os,h.tape,h.output,h.size,λk hk _=>h.block k hk⟩
abbrev S(s:B8):Value:=.string ⟨s.toArray⟩
theorem y9a(n:Nat)(s:B8)(hb:s.length<=1048576)(W:World):CallsIn Fence.wide n Try.prog 50 #[S s,S [47]] W λe W'=>
  e = .returned (.tuple #[S (cutAt 47 s).1,S (cutAt 47 s).2.1,.bool (cutAt 47 s).2.2])∧W.grownBy W' none:=by
 obtain⟨k,hk⟩:=(zkf (c:=47) hb).get;refine(pc (y93 k s [47] _ hk) (λ_ _=>Try.call50 _ _) relA2).mono ?_
 rintro e W' ⟨c,rfl,hB,g',hr⟩
 refine⟨?_,grown hB⟩
 cases hr with
 |tup vs cs hn h=>
  have e0:=h 0 _ rfl;have e1:=h 1 _ rfl;have e2:=h 2 _ rfl
  have hs:cs = #[cs.getD 0 undef,cs.getD 1 undef,cs.getD 2 undef]:=by
   obtain⟨l⟩:=cs
   match l,hn with
   |[a,b,c],_=>rfl
  cases hz0:cs.getD 0 undef <;> rw[hz0]at e0 <;> cases e0
  cases hz1:cs.getD 1 undef <;> rw[hz1]at e1 <;> cases e1
  cases hz2:cs.getD 2 undef <;> rw[hz2]at e2 <;> cases e2
  rw[hs,hz0,hz1,hz2]
theorem y80{N:Nat}(n:Nat)(s:B8){y:Bool×yz8}(hy:yzg (N+10) s=some y)(W:World):CallsIn Fence.wide n Try.prog 32 #[S s] W λe W'=>
  ∃nm ix,e = .returned (.tuple #[.agg #[S nm,.int .i64 ix],.bool y.1])∧RowKit.Below W.heap.size W W':=by
 refine(pc (y7r (N+10) s _ hy) (λ_ _=>Try.call32 _ _) relA1).mono ?_
 rintro e W' ⟨c,rfl,hB,g',hr⟩
 refine⟨y.2.name,y.2.index,?_,hB⟩
 cases hr with
 |tup vs cs hn h=>
  have e0:=h 0 _ rfl;have e1:=h 1 _ rfl
  have hs:cs = #[cs.getD 0 undef,cs.getD 1 undef]:=by
   obtain⟨l⟩:=cs
   match l,hn with
   |[a,b],_=>rfl
  cases hz1:cs.getD 1 undef <;> rw[hz1]at e1 <;> cases e1
  cases hz0:cs.getD 0 undef <;> rw[hz0]at e0 <;> try (cases e0;done)
  rename_i ds
  cases e0 with
  |agg _ _ hn' h1' hr'=>
   have f0:=hr' 0 _ rfl;have f1:=hr' 1 _ rfl
   have hs':ds = #[ds.getD 0 undef,ds.getD 1 undef]:=by
    obtain⟨l⟩:=ds
    match l,hn' with
    |[a,b],_=>rfl
   cases hy0:ds.getD 0 undef <;> rw[hy0]at f0 <;> cases f0
   cases hy1:ds.getD 1 undef <;> rw[hy1]at f1 <;> cases f1
   rw[hs,hz0,hz1,hs',hy0,hy1]
theorem y4c(n:Nat)(s:B8)(W:World):CallsIn Fence.wide n Try.prog 30 #[S s,S [47]] W λe W'=>
  e = .returned (.int .i64 (s.countP (· == 47):Int))∧RowKit.Below W.heap.size W W':=by
 refine callsIn_wide.2 ?_;refine(Any.strings_Count_one Try.y7i ⟨s.toArray⟩ 47 W).mono λe w' ⟨a1,a2⟩=>⟨?_,by rw[a2];exact RowKit.Below.refl _ _⟩
 rw[a1];rfl
theorem zwi{s:B8}{k:Nat}{rest:B8}(h:(steps s).drop k=parts 47 rest) :
  (steps s).take (k+1)=(steps s).take k++[(cutAt 47 rest).1]∧(steps s).drop (k+1)=if (cutAt 47 rest).2.2 then parts 47 (cutAt 47 rest).2.1 else []:=by
 rw[parts_eq]at h
 have hk:(steps s)[k]? = some (cutAt 47 rest).1:=by
  have:=congrArg List.head? h;rw[List.head?_drop]at this;simpa using this
 refine⟨?_,?_⟩;rw[List.take_add_one,hk];rfl;have:=congrArg List.tail h;rw[List.tail_drop]at this;simpa using this
def ztc:Value->Nat
 |.string b=>b.size
 |_=>0
def zsg:Value->Nat
 |.bool true=>1
 |_=>0
end OHand
open OHand
def z9f(N:Nat)(s:B8):Int :=
 if 4000<s.length then 4 else if 40<(steps s).length then 4 else if (steps s).all (λx=>(rd N x).1)then 0 else 12
def z1p:Nat->B8->Option Int:=λN s=>if (steps s).all (λx=>(yzg (N+10) x).isSome)then some (z9f N s)else none
set_option maxRecDepth 100000 in
set_option maxHeartbeats 2000000 in
theorem y2g{N:Nat}(n:Nat)(hn:1<=n)(l Bs:Nat)(s:B8)(hb:s.length<=1048576)(J Jx:List B8->World->Prop)
  (hY:∀pre x W,J pre W->pre.length<s.length+1->YieldAt Fence.wide (n-1) Try.prog l #[S (fx N x)] W λe W'=>
   (e = .returned (.bool true)∧J (pre++[x]) W'∧True)∨(e = .returned (.bool false)∧Jx (pre++[x]) W'))
  (h4:s.length<=4000) (hfx:∀x∈steps s,(fx N) x=x) (W:World) (hJ:AbidesFrom W.heap.size J) (hBs:W.cell? ⟨Bs,0,none⟩=some (S s)) (h0:J [] W) :
  CallsIn Fence.wide n Try.prog 49 #[.func (.yield l) #[] #[],.pointer (some ⟨Bs,0,none⟩)] W λe W'=>(∃v,e = .returned v) ∧
   ((∃ys,ys=steps s∧J ys W')∨(∃pre,(∃k,pre=(steps s).take k)∧Jx pre W')):=by
 refine callsIn_of_wp Try.func49 rfl trivial ?_ rfl;simp only[Try.ntmps49,List.size_toArray,List.length_cons,List.length_nil,Nat.reduceAdd,Nat.reduceSub,Array.replicate_succ,Array.replicate_zero,List.push_toArray,List.append_toArray,List.nil_append,List.cons_append];have hmx:Try.prog.follows .mixedOrders=true:=by kernel_rfl
 gi_wp2
 gi_region_o
 all_goals gi_wp2
 gi_loopw [3,4] (λr m wr=>∃(k:Nat) (rest:B8),r=S rest∧k+rest.length<=s.length+1 ∧
   ((m = .bool true∧k+rest.length<=s.length∧(steps s).drop k=parts 47 rest)∨(m = .bool false∧(steps s).drop k=[]))∧J ((steps s).take k) wr)
  (λr m _=>ztc r+zsg m)
 case atStart=>
  refine⟨0,s,rfl,by omega,?_,hJ _ _ _ none h0 ⟨rfl,rfl,rfl,Qbq _,λ_ _ _=>rfl⟩ (λr e=>by cases e)⟩
  cases s with
  |nil=>exact .inr ⟨rfl,rfl⟩
  |cons c t=>exact .inl ⟨rfl,by omega,rfl⟩
 case round=>
  obtain⟨k,rest,rfl,hkr,hm,hJs⟩:=hrel
  rcases hm with ⟨rfl,hkr,hd⟩|⟨rfl,hd⟩
  ·obtain⟨hs1,hs2⟩:=zwi hd;have hx4:(fx N) (cutAt 47 rest).1=(cutAt 47 rest).1:=hfx _ (List.mem_of_mem_take (i:=k+1) (by rw[hs1];simp))
   gi_wp2_with (refine⟨trivial,?_⟩;gi_at_call 50;refine(y9a _ rest (by omega) _).mono ?_;rintro e w2 ⟨rfl,hg⟩;have hJ2:=hJ _ _ _ none hJs hg (λr e=>by cases e);obtain⟨fn,tmps,assign,body,hy,hR⟩:=hY _ (cutAt 47 rest).1 w2 hJ2 (by rw[Qay];omega);rw[hx4]at hy)
   refine hR.mono ?_
   rintro e W3 (⟨rfl,hJ3,_⟩|⟨rfl,hJx3⟩)
   ·gi_wp2
    go_roundw
    case rel=>
     refine⟨k+1,(cutAt 47 rest).2.1,rfl,?_,?_,by rw[hs1];exact hJ3⟩;have:=zgp 47 rest;omega;cases hc:(cutAt 47 rest).2.2;exact .inr ⟨rfl,by rw[hs2,hc];rfl⟩;exact .inl ⟨rfl,by have:=zge hc;omega,by rw[hs2,hc];rfl⟩
    case measure=>
     have h1:=zgp 47 rest;cases hc:(cutAt 47 rest).2.2;simp[ztc,zsg,ByteArray.size];omega;have:=zge hc;simp[ztc,zsg,ByteArray.size];omega
   ·gi_wp2
    refine bodyPost_ret (results_none rfl _ _ _) rfl ?_;exact⟨⟨_,rfl⟩,.inr ⟨_,⟨k+1,hs1.symm⟩,hJx3⟩⟩
  ·gi_wp2
   go_end0
   refine⟨⟨_,rfl⟩,.inl ⟨_,rfl,?_⟩⟩
   have:(steps s).take k=steps s:=by
    have:=List.take_append_drop k (steps s);rw[hd,List.append_nil]at this;exact this
   rw[<-this];exact hJs
theorem y3p(n:Nat)(s:B8)(w:World) :
  CallsIn Fence.wide n Try.prog 31 #[S s] w λe w'=>e = .returned (.func (.func 49) #[] #[.pointer (some ⟨w.heap.size,0,none⟩)])∧w'=w.alloc (.cells #[S s] 9):=by
 refine callsIn_of_wp Try.func31 rfl trivial ?_ rfl;simp only[Try.ntmps31,List.size_toArray,List.length_cons,List.length_nil,Nat.reduceAdd,Nat.reduceSub,Array.replicate_succ,Array.replicate_zero,List.push_toArray,List.append_toArray,List.nil_append,List.cons_append]
 gi_wp2
 go_ret
 exact⟨rfl,rfl⟩
theorem zvd{N:Nat}(n:Nat)(hn:1<=n)(Bs:Nat)(s:B8)(h4:s.length<=4000)(hfx:∀x∈steps s,(fx N) x=x)(w:World)(hBs:Bs<w.heap.size)(hc:w.cell? ⟨Bs,0,none⟩=some (S s)) :
  SeqStopsK Fence.wide n Try.prog 49 #[.pointer (some ⟨Bs,0,none⟩)] (λx:B8 => #[S (fx N x)]) (λ_ _=>True) (λys=>ys=steps s) (λpre=>∃k,pre=(steps s).take k) (s.length+1) w:=λl J Jx W hW hJ _ hY h0=>
 y2g n hn l Bs s (by omega) J Jx hY h4 hfx W hJ ((hW.cell (p:=⟨Bs,0,none⟩) hBs).trans hc) h0
theorem y0d{tmps:Array Value}{w:World}{B:Nat}{v:Value}(hp:tmps.getD 2 undef = .pointer (some ⟨B,0,none⟩))(hc:w.cell? ⟨B,0,none⟩=some v):(results Try.f20 tmps).run Try.prog w = .ok v w:=by
 have hp':tmps[2]?.getD undef = .pointer (some ⟨B,0,none⟩):=by simpa using hp
 simp[results,Try.f20,hp',asAddr,go_sem,hc]
set_option maxRecDepth 100000 in
set_option maxHeartbeats 2000000 in
theorem y5q{N:Nat}(s:B8)(hfx:∀x∈steps s,(fx N) x=x)(w:World):CallsIn Fence.wide 3 Try.prog 20 #[S s] w λe w'=>e = .returned (.int .i64 (z9f N s))∧RowKit.Below w.heap.size w w':=by
 refine callsIn_of_wp_marks Try.func20 rfl trivial ?_ rfl;simp only[Try.ntmps20,List.size_toArray,List.length_cons,List.length_nil,Nat.reduceAdd,Nat.reduceSub,Array.replicate_succ,Array.replicate_zero,List.push_toArray,List.append_toArray,List.nil_append,List.cons_append];have hB0:RowKit.Below w.heap.size w (w.alloc (.cells #[.int .i64 0] 29)):=(RowKit.Below.refl _ w).alloc (Qbq _) _
 by_cases h4:(4000:Int)<(s.length:Int)
 ·gi_wp2
  refine⟨trivial,?_⟩
  gi_wp2
  refine⟨.int .i64 4,y0d (B:=w.heap.size) rfl (by simp),?_,(RowKit.Below.refl _ w).alloc (Qbq _) _⟩;have h4':4000<s.length:=by omega
  simp[z9f,h4']
 ·have hB2:∀w2,RowKit.Below (w.alloc (.cells #[.int .i64 0] 29)).heap.size (w.alloc (.cells #[.int .i64 0] 29)) w2->RowKit.Below w.heap.size w w2:=λw2 h=>hB0.trans (h.mono (by simp))
  gi_wp2_with (first|(refine⟨trivial,?_⟩;gi_at_call 30;refine(y4c _ s _).mono ?_;rintro e w2 ⟨rfl,hg⟩;have hc2:w2.cell? ⟨w.heap.size,0,none⟩=some (.int .i64 0):=(hg.cell (p:=⟨w.heap.size,0,none⟩) (by simp)).trans (by simp);have hf2:w2.frozen? ⟨w.heap.size,0,none⟩=false:=(hg.frozen (p:=⟨w.heap.size,0,none⟩) (by simp)).trans (by simp);have hsz:=hg.size;rw[World.size_alloc]at hsz)|(refine⟨trivial,?_⟩;gi_at_call 31;refine(y3p _ s _).mono ?_;rintro e w3 ⟨rfl,rfl⟩))
  rename_i h39;refine⟨.int .i64 4,y0d (B:=w.heap.size) rfl (World.cell?_setCell_same' _ _ _ (by rw[hc2];rfl)),?_,(hB2 _ hg).setCell (Qbq _) _⟩;have h4':¬4000<s.length:=by omega
  have hs:40<(steps s).length:=by
   cases s with
   |nil=>simp at h39
   |cons c t=>rw[show steps (c::t)=parts 47 (c::t)from rfl,zdf];omega
  simp only[z9f,h4',hs,if_false,if_true]
  ·rename_i h39 _ _ _
   have hs40:¬40<(steps s).length:=by
    cases s with
    |nil=>simp[steps]
    |cons c t=>rw[show steps (c::t)=parts 47 (c::t)from rfl,zdf];omega
   have hBA:RowKit.Below w2.heap.size w2 (w2.alloc (.cells #[S s] 9)):=(RowKit.Below.refl _ w2).alloc (Qbq _) _
   refine wpIn_rangeFunc_ownF rfl (by omega) (gf:=49) (lb := #[.pointer (some ⟨w2.heap.size,0,none⟩)]) rfl trivial (enters_of Try.func49 (by kernel_rfl) rfl)
    (zvd _ (by omega) w2.heap.size s (by omega) hfx _ (by simp) (by simp)) (λ_ _=>trivial) (λ_ _ _ _ _ _ _ _=>trivial) (RowKit.Below.refl _ _) (λ_=>rfl)
    (λpre W=>(pre.all λx=>(rd N x).1)=true∧W.cell? ⟨w.heap.size,0,none⟩=some (.int .i64 0)∧W.frozen? ⟨w.heap.size,0,none⟩=false∧RowKit.Below w.heap.size w W)
    (λc pre W=>c = .ret∧(pre.all λx=>(rd N x).1)=false∧W.cell? ⟨w.heap.size,0,none⟩=some (.int .i64 12)∧RowKit.Below w.heap.size w W)
    (λs A B row hs hg hr =>?_) (λc s A B row hs hg hr =>?_)
    ⟨rfl,(hBA.cell (p:=⟨w.heap.size,0,none⟩) (by show w.heap.size<_;omega)).trans hc2,(hBA.frozen (p:=⟨w.heap.size,0,none⟩) (by show w.heap.size<_;omega)).trans hf2,(hB2 _ hg).alloc (by omega) _⟩
    (λx=>{tmps := #[S s,undef,.pointer (some ⟨w.heap.size,0,none⟩),S (fx N x),undef,undef,S s,.int .i64 s.length,.bool false,.bool false,S s,.int .i64 (s.countP (· == 47):Int),.bool (decide (39<(s.countP (· == 47):Int))),.bool (decide (39<(s.countP (· == 47):Int))),S s,.func (.func 49) #[] #[.pointer (some ⟨w2.heap.size,0,none⟩)],S (fx N x),undef,undef,undef,undef,undef,undef,undef],defers:=[]}) ?assign ?body ?done ?stop
   exact⟨hs.1,cell_kept hs.2.1 hg (λr e=>(hr r e).2),(frozen_kept hs.2.1 hg (λr e=>(hr r e).2)).trans hs.2.2.1,hs.2.2.2.grown hg hs.2.2.2.size (λk e=>by have:=(hr k e).1;simp at this;omega)⟩;exact⟨hs.1,hs.2.1,cell_kept hs.2.2.1 hg (λr e=>(hr r e).2),hs.2.2.2.grown hg hs.2.2.2.size (λk e=>by have:=(hr k e).1;simp at this;omega)⟩
   case assign=>
    intro l x W K hK
    gi_wp2
    exact hK
   case body=>
    rintro l pre x W ⟨hp,hc,hf,hB⟩ _
    have hlt:w.heap.size<W.heap.size:=by
     obtain⟨o,ho,_⟩:=cells_of_cell hc;exact(Qbk.1 ho).1
    gi_wp2_with (refine⟨trivial,?_⟩;gi_at_call 32;refine(CallsIn.inRound l (y80 _ (fx N x) (rd_some (N:=N) x) _)).mono ?_;rintro e w4 ⟨nm,ix,rfl,hg4⟩;have hc4:w4.cell? ⟨w.heap.size,0,none⟩=some (.int .i64 0):=(hg4.cell (p:=⟨w.heap.size,0,none⟩) hlt).trans hc;have hf4:w4.frozen? ⟨w.heap.size,0,none⟩=false:=(hg4.frozen (p:=⟨w.heap.size,0,none⟩) hlt).trans hf;have hlt4:=Qbg hlt hg4.size;have hc5:∀o,(w4.alloc o).cell? ⟨w.heap.size,0,none⟩=some (.int .i64 0):=λo=>((((RowKit.Below.refl w4.heap.size w4).alloc (Qbq _) o).cell (p:=⟨w.heap.size,0,none⟩) hlt4).trans hc4);have hf5:∀o,(w4.alloc o).frozen? ⟨w.heap.size,0,none⟩=false:=λo=>((((RowKit.Below.refl w4.heap.size w4).alloc (Qbq _) o).frozen (p:=⟨w.heap.size,0,none⟩) hlt4).trans hf4))
    rename_i hx;have hB5:RowKit.Below w.heap.size w (w4.setCell ⟨w.heap.size,0,none⟩ (.int .i64 12)):=(hB.trans (hg4.mono (Nat.le_of_lt hlt))).setCell (Qbq _) _;have hlt5:w.heap.size<(w4.setCell ⟨w.heap.size,0,none⟩ (.int .i64 12)).heap.size:=by rw[World.size_setCell];exact hlt4
    refine⟨(KeepsOthers.of_grownBy (grown hg4) (λj o e=>by cases e)).trans ((KeepsOthers.setCell _ _ _).trans (KeepsOthers.alloc _ _)),rfl,?_,?_,hB5.alloc (Nat.le_of_lt hlt5) _⟩;simp[hp];simpa using hx
    exact((((RowKit.Below.refl _ _).alloc (Qbq _) _).cell (p:=⟨w.heap.size,0,none⟩) hlt5).trans (World.cell?_setCell_same' _ _ _ (by rw[hc4];rfl)));rename_i hx;refine⟨(KeepsOthers.of_grownBy (grown hg4) (λj o e=>by cases e)).trans (KeepsOthers.alloc _ _),trivial,?_,hc5 _,hf5 _,(hB.trans (hg4.mono (Nat.le_of_lt hlt))).alloc (Nat.le_of_lt hlt4) _⟩;simp[hp];simpa using hx
   case done=>
    rintro D xs W hD rfl ⟨hp,hc,hf,hB⟩ hK
    gi_wp2
    have hDw:w.heap.size<D:=by simp at hD;omega
    refine⟨by simp,.inl ⟨_,_,rfl,run_takeDeferred (w:=W.setCell ⟨w.heap.size,0,none⟩ (.int .i64 0)) ((Below.heap_setCell _ _ _ _ (by show D≠w.heap.size;omega)).trans hK),?_⟩⟩
    refine⟨.int .i64 0,y0d (B:=w.heap.size) rfl ((World.cell?_of_block (World.putObj_heap_other (by show w.heap.size≠D;omega))).trans (World.cell?_setCell_same' _ _ _ (by rw[hc];rfl))),?_,(hB.setCell (Qbq _) _).grown (grownBy_putObj' _ _ _) (hB.setCell (p:=⟨w.heap.size,0,none⟩) (Qbq _) _).size (λk e=>by cases e;omega)⟩;have h4':¬4000<s.length:=by omega
    have hs:¬40<(steps s).length:=hs40;simp only[z9f,h4',hs,hp,if_false,if_true]
   case stop=>
    rintro D c pre W hD ⟨k,rfl⟩ ⟨rfl,hp,hc,hB⟩ hK
    gi_wp2
    have hDw:w.heap.size<D:=by simp at hD;omega
    refine⟨by simp,.inl ⟨_,_,rfl,run_takeDeferred hK,?_⟩⟩;refine⟨.int .i64 12,y0d (B:=w.heap.size) rfl ((World.cell?_of_block (World.putObj_heap_other (by show w.heap.size≠D;omega))).trans hc),?_,hB.grown (grownBy_putObj' _ _ _) hB.size (λk e=>by cases e;omega)⟩;have h4':¬4000<s.length:=by omega
    have hs:¬40<(steps s).length:=hs40
    have hall:((steps s).all λx=>(rd N x).1)=false:=by
     cases ha:(steps s).all λx=>(rd N x).1 with
     |false=>rfl
     |true=>
      rw[Qat]at ha;rw[Qat.2 λx hx=>ha x (List.mem_of_mem_take hx)]at hp;cases hp
    simp only[z9f,h4',hs,hall,if_false,Bool.false_eq_true]
theorem zhh(n:Nat)(a0:B8)(r:Int)(h:z1p n a0=some r):zd6 Try.prog 20 [.str a0] (.int .i64 r):=by
 rw[z1p]at h;split at h
 case isFalse=>cases h
 rename_i hall
 have hfx:∀x∈steps a0,(fx n) x=x:=λx hx=>by
  have:=Qat.1 hall x hx;unfold fx;rw[Qbr this]
 injection h with h;subst h;intro H W g cargs hG hA;refine .inl ⟨Try.call20 _ _,?_⟩;obtain⟨hn,hr⟩:=hA;have e0:=hr 0 _ rfl
 have hs:cargs = #[cargs.getD 0 undef]:=by
  obtain⟨l⟩:=cargs
  match l,hn with
  |[a],_=>rfl
 cases hz:cargs.getD 0 undef <;> rw[hz]at e0 <;> cases e0
 rw[hs,hz];refine(callsIn_wide.1 (y5q (N:=n) a0 hfx W)).mono ?_
 rintro e W' ⟨rfl,hB⟩
 have hg:Grow W W':=⟨hB.os,hB.tape,hB.output,hB.size,hB.block⟩;exact⟨_,g,rfl,hg.step,hG.grow hg,.int _ _⟩
end Go.Proofs.Ytdcbdnediadfcaa
namespace Go.Proofs.Ytdcbdnediadfcaa
open Go Go.Ab Go.Proofs Go.RowKit
set_option linter.unusedVariables false
set_option linter.unusedSimpArgs false
def kzm:Nat->List B8->Option (List B8):=λ_ xs=>if xs.length<4611686018427387904 then some (zc8 xs)else none
noncomputable def z14:FI dat:=zxv dat 22 9 kzm
theorem z7t:FOk Try.prog z14:=by
 have e:kzm=λ_ xs=>if xs.length<4611686018427387904 then some (z0o xs)else none:=by funext n xs;simp only[kzm,zup]
 unfold z14;rw[e];exact y7h (λ_ _=>Try.call22 _ _) (λblk cap ss w h1 h2 h3=>Any.slices_Sort_string Try.zyo blk 0 cap ss w h1 h2 h3) (λp cap w=>Any.slices_Sort_string_none Try.zyo p cap w)
noncomputable def z77:FI dat :=
 {R:=Int,ent:=λn=>{f:=20,p:=0,args:=[.d .str],aos:=[],outs:=[.d (.int .i64)],ros:=[],pan:=.nilp,pos:=[],pure:=true,go:=λx k _=>(z1p n x.1).bind λr=>k (r,())},
   c:=.skip,K:=⟨λ_=>none,[],λ_=>none,λ_ _=>none⟩,p:=0,args:=[],aos:=[],nt:=0,z16:=λ_=>[],go:=λ_ _=>none}
theorem zdl:FOk Try.prog z77:=λn R x k kp r h=>by
 obtain⟨y,hy,h⟩:=Qbx.1 (show(z1p n x.1).bind (λr=>k (r,()))=some r from h);refine⟨(y,()),h,rfl,rfl,rfl,λlv vargs ha=>⟨[.int .i64 y],λρ lv' =>?_,?_⟩⟩;show VRL dat ρ lv' [TV.int .i64 y] _;simp only[VRL,VR];exact⟨_,_,rfl,rfl,rfl⟩;have ha:VRL dat [] lv [TV.str x.1] vargs:=ha;simp only[VRL,VR]at ha;obtain⟨v,r1,rfl,rfl,rfl⟩:=ha;exact zhh n x.1 y hy
end Go.Proofs.Ytdcbdnediadfcaa
namespace Go.Proofs.Ytdcbdnediadfcaa
open Go Go.Ab
set_option linter.unusedVariables false
set_option maxRecDepth 100000
set_option maxHeartbeats 4000000
mutual
def z1s:Nat->kz3->Int->Ot Bool
 |0,_,_=>none
 |n+1,a,b=>
  pIf (b==0)
   (zzt n b true a.re)
   (pIf (decide ((a.str.length:Int)>200))
     (zzt n b true a.re)
     (zzt n b (decide ((a.list.length:Int)>150)) a.re))
def zzt:Nat->Int->Bool->kz3->Ot Bool
 |0,_,_,_=>none
 |n+1,a,b,c=>
  pIf b
   (some true)
   (z03 n 0 a c.re)
def z03:Nat->Int->Int->kz3->Ot Bool
 |0,_,_,_=>none
 |n+1,a,b,c=>
  pIf (decide (a<(c.list.length:Int)))
   ((ix c.list a).bind λx0=>
   (z1s n x0.re (IntKind.i64.wrap (b-1))).bind λy1=>
   pIf y1
    (some true)
    (z03 n (IntKind.i64.wrap (a+1)) b c.re))
   (some false)
end
def zpf:LSh:=⟨[(4,dB)],[],0,35,[]⟩
noncomputable def z4z:FI dat:=FI.of dat 41 35 0 [dT 9,dI] [] [dB] [] true zpf (R:=Bool) Prod.fst (·,()) (λn=>u2 (z1s n))
 (λn=>[(0,⟨⟨[(1,dI),(2,(.ptr 0 0)),(19,dB)],[(.st 9)],0,35,[]⟩,u3 (zzt n)⟩),(1,⟨⟨[(5,dI),(1,dI),(2,(.ptr 0 0))],[(.st 9)],0,35,[]⟩,u3 (z03 n)⟩)]) (anb [(5,0),(14,1)] Try.f41)
noncomputable def zp5:List (FI dat):=[z4z]++[]
theorem zos:(z4z).Good Try.prog dat (tb zp5):=FI.zro (hD:=z9g _) Try.func41 Try.ntmps41 Try.call41 (by kernel_rfl) (Qac (by kernel_rfl)) (by kernel_rfl) (λn=>by kernel_rfl) (λx=>by kernel_rfl) (λ_=>rfl) ⟨λ_=>rfl,λ_=>rfl,trivial⟩
 (λ_ _=>tr (z1s.eq_2 ..))
 (λn=>⟨λ_=>tr (zzt.eq_2 ..),
  λ_=>tr (z03.eq_2 ..),
  trivial⟩)
 (λx=>.inl rfl)
theorem zpa:OkL Try.prog [z4z]:=y09 (z9g _) (bs:=[]) trivial ⟨zos,trivial⟩
theorem zn3:FOk Try.prog z4z:=zpa.1
mutual
def z1q:Nat->kz3->Ot Int
 |0,_=>none
 |n+1,a=>
  kzz n 0 1 a.re
def kzz:Nat->Int->Int->kz3->Ot Int
 |0,_,_,_=>none
 |n+1,a,b,c=>
  pIf (decide (a<(c.list.length:Int)))
   (yzz n a b (c.kind==4) c.re)
   (yzz n a b false c.re)
def yzz:Nat->Int->Int->Bool->kz3->Ot Int
 |0,_,_,_,_=>none
 |n+1,a,b,c,d=>
  pIf c
   ((ix d.list a).bind λx0=>
   (z1q n x0.re).bind λy1=>
   kzz n (IntKind.i64.wrap (a+1)) (IntKind.i64.wrap (b+y1)) d.re)
   (some b)
end
def zpq:LSh:=⟨[(2,dI)],[],0,26,[]⟩
noncomputable def z4x:FI dat:=FI.of dat 42 26 0 [dT 9] [] [dI] [] true zpq (R:=Int) Prod.fst (·,()) (λn=>u1 (z1q n))
 (λn=>[(0,⟨⟨[(4,dI),(1,(.ptr 0 0)),(3,dI)],[(.st 9)],0,26,[]⟩,u3 (kzz n)⟩),(1,⟨⟨[(1,(.ptr 0 0)),(4,dI),(3,dI),(14,dB)],[(.st 9)],0,26,[]⟩,u4 (yzz n)⟩)]) (anb [(8,0),(12,1)] Try.f42)
noncomputable def zpw:List (FI dat):=[z4x]++[]
theorem zom:(z4x).Good Try.prog dat (tb zpw):=FI.zro (hD:=z9g _) Try.func42 Try.ntmps42 Try.call42 (by kernel_rfl) (Qac (by kernel_rfl)) (by kernel_rfl) (λn=>by kernel_rfl) (λx=>by kernel_rfl) (λ_=>rfl) ⟨λ_=>rfl,λ_=>rfl,trivial⟩
 (λ_ _=>tr (z1q.eq_2 ..))
 (λn=>⟨λ_=>tr (kzz.eq_2 ..),
  λ_=>tr (yzz.eq_2 ..),
  trivial⟩)
 (λx=>.inl rfl)
theorem zq3:OkL Try.prog [z4x]:=y09 (z9g _) (bs:=[]) trivial ⟨zom,trivial⟩
theorem znq:FOk Try.prog z4x:=zq3.1
def z36:Nat->kz3->Ot Bool
 |0,_=>none
 |n+1,a=>
  (z1s n a.re 10).bind λy0=>
  pIf y0
   (some true)
   ((z1q n a.re).bind λy1=>
   some (decide (y1>150)))
def zp1:LSh:=⟨[(2,dB)],[],0,10,[]⟩
noncomputable def zfa:FI dat:=FI.of dat 28 10 0 [dT 9] [] [dB] [] true zp1 (R:=Bool) Prod.fst (·,()) (λn=>u1 (z36 n))
 (λn=>[]) (anb [] Try.f28)
theorem zo0:FOk Try.prog zfa:=okF (bs:=[z4z,z4x]) ⟨zn3,znq,trivial⟩ Try.func28 Try.ntmps28 Try.call28
 (λ_ _=>tr (z36.eq_2 ..))
 (λn=>trivial)
mutual
def z0d:Nat->z7g->Ot Bool
 |0,_=>none
 |n+1,a=>
  zzp n 0 a
def zzp:Nat->Int->z7g->Ot Bool
 |0,_,_=>none
 |n+1,a,b=>
  pIf (decide (a<(b.length:Int)))
   ((ix b a).bind λx0=>
   (z36 n x0.re).bind λy1=>
   pIf y1
    (some true)
    (zzp n (IntKind.i64.wrap (a+1)) b))
   (some (decide ((b.length:Int)>10)))
end
def zh6:LSh:=⟨[(2,dB)],[],0,18,[]⟩
noncomputable def z9s:FI dat:=FI.of dat 18 18 0 [dL 9] [] [dB] [] true zh6 (R:=Bool) Prod.fst (·,()) (λn=>u1 (z0d n))
 (λn=>[(0,⟨⟨[(3,dI),(0,dL 9)],[],0,18,[]⟩,u2 (zzp n)⟩)]) (anb [(6,0)] Try.f18)
theorem zgb:FOk Try.prog z9s:=okF (bs:=[zfa]) ⟨zo0,trivial⟩ Try.func18 Try.ntmps18 Try.call18
 (λ_ _=>tr (z0d.eq_2 ..))
 (λn=>⟨λ_=>tr (zzp.eq_2 ..),
  trivial⟩)
mutual
def z01:Nat->zz6->Ot Bool
 |0,_=>none
 |n+1,a=>
  z06 n 0 a
def z06:Nat->Int->zz6->Ot Bool
 |0,_,_=>none
 |n+1,a,b=>
  pIf (decide (a<(b.length:Int)))
   ((ix b a).bind λx0=>
   pIf (decide ((x0.path.length:Int)>5000))
    (yzp n b a true)
    ((ix b a).bind λx1=>
    pIf (decide ((x1.rule_.length:Int)>100))
     (yzp n b a true)
     ((ix b a).bind λx2=>
     pIf (decide ((x2.leaf.length:Int)>200))
      (yzp n b a true)
      ((ix b a).bind λx3=>
      (z0d n x3.args).bind λy4=>
      yzp n b a y4))))
   (some (decide ((b.length:Int)>2100)))
def yzp:Nat->zz6->Int->Bool->Ot Bool
 |0,_,_,_=>none
 |n+1,a,b,c=>
  pIf c
   (some true)
   (z06 n (IntKind.i64.wrap (b+1)) a)
end
def zol:LSh:=⟨[(2,dB)],[],0,46,[]⟩
noncomputable def zfd:FI dat:=FI.of dat 9 46 0 [dL 10] [] [dB] [] true zol (R:=Bool) Prod.fst (·,()) (λn=>u1 (z01 n))
 (λn=>[(0,⟨⟨[(3,dI),(0,dL 10)],[],0,46,[]⟩,u2 (z06 n)⟩),(1,⟨⟨[(0,dL 10),(3,dI),(42,dB)],[],0,46,[]⟩,u3 (yzp n)⟩)]) (anb [(6,0),(17,1)] Try.f9)
theorem znm:FOk Try.prog zfd:=okF (bs:=[z9s]) ⟨zgb,trivial⟩ Try.func9 Try.ntmps9 Try.call9
 (λ_ _=>tr (z01.eq_2 ..))
 (λn=>⟨λ_=>tr (z06.eq_2 ..),
  λ_=>tr (yzp.eq_2 ..),
  trivial⟩)
mutual
def z3b:Nat->zz6->zeb->Ot Bool
 |0,_,_=>none
 |n+1,a,b=>
  pIf (decide ((a.length:Int)>120))
   (pIf (decide ((a.length:Int)<=2000))
     (yz9 n b true)
     (pIf (decide ((b.length:Int)>10))
       (pIf (decide ((b.length:Int)<=60))
         (yz9 n b true)
         (pIf (decide ((b.length:Int)>70))
           (yz9 n b true)
           ((z01 n a).bind λy0=>
           yz9 n b y0)))
       (pIf (decide ((b.length:Int)>70))
         (yz9 n b true)
         ((z01 n a).bind λy1=>
         yz9 n b y1))))
   (pIf (decide ((b.length:Int)>10))
     (pIf (decide ((b.length:Int)<=60))
       (yz9 n b true)
       (pIf (decide ((b.length:Int)>70))
         (yz9 n b true)
         ((z01 n a).bind λy2=>
         yz9 n b y2)))
     (pIf (decide ((b.length:Int)>70))
       (yz9 n b true)
       ((z01 n a).bind λy3=>
       yz9 n b y3)))
def yz9:Nat->zeb->Bool->Ot Bool
 |0,_,_=>none
 |n+1,a,b=>
  pIf b
   (some true)
   (z05 n 0 a)
def z05:Nat->Int->zeb->Ot Bool
 |0,_,_=>none
 |n+1,a,b=>
  pIf (decide (a<(b.length:Int)))
   ((ix b a).bind λx4=>
   pIf (decide ((x4.name.length:Int)>200))
    (z3w n b a true)
    ((ix b a).bind λx5=>
    z3w n b a (decide ((x5.other.length:Int)>200))))
   (some false)
def z3w:Nat->zeb->Int->Bool->Ot Bool
 |0,_,_,_=>none
 |n+1,a,b,c=>
  pIf c
   (some true)
   (z05 n (IntKind.i64.wrap (b+1)) a)
end
def zov:LSh:=⟨[(4,dB)],[],0,55,[]⟩
noncomputable def zfh:FI dat:=FI.of dat 4 55 0 [dL 10,dL 5] [] [dB] [] true zov (R:=Bool) Prod.fst (·,()) (λn=>u2 (z3b n))
 (λn=>[(0,⟨⟨[(1,dL 5),(32,dB)],[],0,55,[]⟩,u2 (yz9 n)⟩),(1,⟨⟨[(5,dI),(1,dL 5)],[],0,55,[]⟩,u2 (z05 n)⟩),(2,⟨⟨[(1,dL 5),(5,dI),(54,dB)],[],0,55,[]⟩,u3 (z3w n)⟩)]) (anb [(5,0),(14,1),(25,2)] Try.f4)
theorem zo9:FOk Try.prog zfh:=okF (bs:=[zfd]) ⟨znm,trivial⟩ Try.func4 Try.ntmps4 Try.call4
 (λ_ _=>tr (z3b.eq_2 ..))
 (λn=>⟨λ_=>tr (yz9.eq_2 ..),
  λ_=>tr (z05.eq_2 ..),
  λ_=>tr (z3w.eq_2 ..),
  trivial⟩)
def kz2:Nat->zz0->Int->Ot Bool
 |0,_,_=>none
 |n+1,a,b=>
  pIf (decide ((mnI (mnI a.x a.y) a.z)>=b))
   (some (decide ((mxI (mxI a.x a.y) a.z)<=1000000)))
   (some false)
def ztf:LSh:=⟨[(4,dB)],[],0,24,[]⟩
noncomputable def z8k:FI dat:=FI.of dat 45 24 0 [dT 3,dI] [] [dB] [] true ztf (R:=Bool) Prod.fst (·,()) (λn=>u2 (kz2 n))
 (λn=>[]) (anb [] Try.f45)
theorem zab:FOk Try.prog z8k:=okF (bs:=[]) trivial Try.func45 Try.ntmps45 Try.call45
 (λn=>λ_=>tr (kz2.eq_2 _ _ n))
 (λn=>trivial)
mutual
def z2y:Nat->kz5->Ot Int
 |0,_=>none
 |n+1,a=>
  pIf (decide (a.z15>=24))
   (z0v n true)
   ((kz2 n a.at_ (-1000000)).bind λy0=>
   z0v n (!y0))
def z0v:Nat->Bool->Ot Int
 |0,_=>none
 |n+1,a=>
  pIf a
   (some 8)
   (some 0)
end
def zq4:LSh:=⟨[(2,dI)],[],0,12,[]⟩
noncomputable def zfm:FI dat:=FI.of dat 70 12 0 [dT 6] [] [dI] [] true zq4 (R:=Int) Prod.fst (·,()) (λn=>u1 (z2y n))
 (λn=>[(0,⟨⟨[(11,dB)],[],0,12,[]⟩,u1 (z0v n)⟩)]) (anb [(5,0)] Try.f70)
theorem zns:FOk Try.prog zfm:=okF (bs:=[z8k]) ⟨zab,trivial⟩ Try.func70 Try.ntmps70 Try.call70
 (λ_ _=>tr (z2y.eq_2 ..))
 (λn=>⟨λ_=>tr (z0v.eq_2 _ n),
  trivial⟩)
mutual
def z1l:Nat->zz5->Ot Int
 |0,_=>none
 |n+1,a=>
  (z2y n a.frame).bind λy0=>
  pIf (y0 != 0)
   (z0a n true)
   ((kz2 n a.size_ 0).bind λy1=>
   z0a n (!y1))
def z0a:Nat->Bool->Ot Int
 |0,_=>none
 |n+1,a=>
  pIf a
   (some 8)
   (some 0)
end
def zkr:LSh:=⟨[(2,dI)],[],0,13,[]⟩
noncomputable def zch:FI dat:=FI.of dat 43 13 0 [dT 7] [] [dI] [] true zkr (R:=Int) Prod.fst (·,()) (λn=>u1 (z1l n))
 (λn=>[(0,⟨⟨[(12,dB)],[],0,13,[]⟩,u1 (z0a n)⟩)]) (anb [(5,0)] Try.f43)
theorem zjh:FOk Try.prog zch:=okF (bs:=[zfm,z8k]) ⟨zns,zab,trivial⟩ Try.func43 Try.ntmps43 Try.call43
 (λ_ _=>tr (z1l.eq_2 ..))
 (λn=>⟨λ_=>tr (z0a.eq_2 _ n),
  trivial⟩)
def z3k:Nat->Int->Ot zz0
 |0,_=>none
 |n+1,a=>
  (rem .u8 a 2).bind λx0=>
  (quo .u8 a 2).bind λx1=>
  pIf (x1==0)
   (some (zz0.mk (IntKind.i64.wrap (1-(IntKind.i64.wrap (2 * (IntKind.i64.wrap x0))))) 0 0))
   (pIf (x1==1)
     (some (zz0.mk 0 (IntKind.i64.wrap (1-(IntKind.i64.wrap (2 * (IntKind.i64.wrap x0))))) 0))
     (some (zz0.mk 0 0 (IntKind.i64.wrap (1-(IntKind.i64.wrap (2 * (IntKind.i64.wrap x0))))))))
def zhq:LSh:=⟨[(2,(.ptr 0 0))],[(.st 3)],0,21,[]⟩
noncomputable def z9r:FI dat:=FI.of dat 88 21 0 [dU] [] [dT 3] [] true zhq (R:=zz0) Prod.fst (·,()) (λn=>u1 (z3k n))
 (λn=>[]) (anb [] Try.f88)
theorem zgm:FOk Try.prog z9r:=okF (bs:=[]) trivial Try.func88 Try.ntmps88 Try.call88
 (λn=>λ_=>tr (z3k.eq_2 _ n))
 (λn=>trivial)
def z8y:Nat->zz0->zz0->Ot zz0
 |0,_,_=>none
 |n+1,a,b=>
  some (zz0.mk (IntKind.i64.wrap ((IntKind.i64.wrap (a.y * b.z))-(IntKind.i64.wrap (a.z * b.y)))) (IntKind.i64.wrap ((IntKind.i64.wrap (a.z * b.x))-(IntKind.i64.wrap (a.x * b.z)))) (IntKind.i64.wrap ((IntKind.i64.wrap (a.x * b.y))-(IntKind.i64.wrap (a.y * b.x)))))
def zpn:LSh:=⟨[(4,(.ptr 0 0))],[(.st 3)],0,39,[]⟩
noncomputable def zf5:FI dat:=FI.of dat 89 39 0 [dT 3,dT 3] [] [dT 3] [] true zpn (R:=zz0) Prod.fst (·,()) (λn=>u2 (z8y n))
 (λn=>[]) (anb [] Try.f89)
theorem zmt:FOk Try.prog zf5:=okF (bs:=[]) trivial Try.func89 Try.ntmps89 Try.call89
 (λn=>λ_=>tr (z8y.eq_2 _ _ n))
 (λn=>trivial)
mutual
def z3t:Nat->Int->Ot kzl
 |0,_=>none
 |n+1,a=>
  (quo .u8 a 4).bind λx0=>
  (rem .u8 a 4).bind λx1=>
  (quo .u8 x0 2).bind λx2=>
  pIf (decide (x1>=(IntKind.u8.wrap (x2 * 2))))
   (z4l n (IntKind.u8.wrap (x1+2)) x0 (kzl.mk (zz0.mk 0 0 0) (zz0.mk 0 0 0) (zz0.mk 0 0 0)))
   (z4l n x1 x0 (kzl.mk (zz0.mk 0 0 0) (zz0.mk 0 0 0) (zz0.mk 0 0 0)))
def z4l:Nat->Int->Int->kzl->Ot kzl
 |0,_,_,_=>none
 |n+1,a,b,c=>
  (z3k n b).bind λy3=>
  (z3k n a).bind λy4=>
  (z8y n y3 y4).bind λy5=>
  some (kzl.mk y3 y4 y5)
end
def zrx:LSh:=⟨[(2,(.ptr 0 0))],[(.st 2)],0,28,[]⟩
noncomputable def zho:FI dat:=FI.of dat 72 28 0 [dU] [] [dT 2] [] true zrx (R:=kzl) Prod.fst (·,()) (λn=>u1 (z3t n))
 (λn=>[(0,⟨⟨[(2,(.ptr 0 0)),(4,dU),(3,dU)],[(.st 2)],0,28,[]⟩,u3 (z4l n)⟩)]) (anb [(12,0)] Try.f72)
theorem zp6:FOk Try.prog zho:=okF (bs:=[z9r,zf5]) ⟨zgm,zmt,trivial⟩ Try.func72 Try.ntmps72 Try.call72
 (λ_ _=>tr (z3t.eq_2 ..))
 (λn=>⟨λx=>tr (z4l.eq_2 x.1 x.2.1 x.2.2.1 n),
  trivial⟩)
def z6f:Nat->kzl->zz0->Ot zz0
 |0,_,_=>none
 |n+1,a,b=>
  (inR 3 0).bind λx0=>
  (inR 3 1).bind λx1=>
  (inR 3 2).bind λx2=>
  (inR 3 0).bind λx3=>
  (inR 3 1).bind λx4=>
  (inR 3 2).bind λx5=>
  (inR 3 0).bind λx6=>
  (inR 3 1).bind λx7=>
  (inR 3 2).bind λx8=>
  some (zz0.mk (IntKind.i64.wrap ((IntKind.i64.wrap ((IntKind.i64.wrap (b.x * a.e0.x))+(IntKind.i64.wrap (b.y * a.e1.x))))+(IntKind.i64.wrap (b.z * a.e2.x)))) (IntKind.i64.wrap ((IntKind.i64.wrap ((IntKind.i64.wrap (b.x * a.e0.y))+(IntKind.i64.wrap (b.y * a.e1.y))))+(IntKind.i64.wrap (b.z * a.e2.y)))) (IntKind.i64.wrap ((IntKind.i64.wrap ((IntKind.i64.wrap (b.x * a.e0.z))+(IntKind.i64.wrap (b.y * a.e1.z))))+(IntKind.i64.wrap (b.z * a.e2.z)))))
def zvt:LSh:=⟨[(4,(.ptr 0 0))],[(.st 3)],0,66,[]⟩
noncomputable def zjp:FI dat:=FI.of dat 71 66 0 [dT 2,dT 3] [] [dT 3] [] true zvt (R:=zz0) Prod.fst (·,()) (λn=>u2 (z6f n))
 (λn=>[]) (anb [] Try.f71)
theorem zt7:FOk Try.prog zjp:=okF (bs:=[]) trivial Try.func71 Try.ntmps71 Try.call71
 (λn=>λ_=>tr (z6f.eq_2 _ _ n))
 (λn=>trivial)
def z38:Nat->kz5->zz0->Ot zz0
 |0,_,_=>none
 |n+1,a,b=>
  (z3t n a.z15).bind λy0=>
  (z6f n y0 b).bind λy1=>
  some (zz0.mk (IntKind.i64.wrap (y1.x+a.at_.x)) (IntKind.i64.wrap (y1.y+a.at_.y)) (IntKind.i64.wrap (y1.z+a.at_.z)))
def zoy:LSh:=⟨[(4,(.ptr 0 0))],[(.st 3)],0,29,[]⟩
noncomputable def zfc:FI dat:=FI.of dat 44 29 0 [dT 6,dT 3] [] [dT 3] [] true zoy (R:=zz0) Prod.fst (·,()) (λn=>u2 (z38 n))
 (λn=>[]) (anb [] Try.f44)
theorem zoc:FOk Try.prog zfc:=okF (bs:=[zho,zjp]) ⟨zp6,zt7,trivial⟩ Try.func44 Try.ntmps44 Try.call44
 (λ_ _=>tr (z38.eq_2 ..))
 (λn=>trivial)
mutual
def z1j:Nat->zz5->Ot (Int×kz0)
 |0,_=>none
 |n+1,a=>
  (z1l n a).bind λy0=>
  pIf (y0 != 0)
   (some (y0,(kz0.mk (zz0.mk 0 0 0) (zz0.mk 0 0 0) (zz0.mk 0 0 0) (zz0.mk 0 0 0) (zz0.mk 0 0 0) (zz0.mk 0 0 0) (zz0.mk 0 0 0) (zz0.mk 0 0 0))))
   (yz0 n 0 (kz0.mk (zz0.mk 0 0 0) (zz0.mk 0 0 0) (zz0.mk 0 0 0) (zz0.mk 0 0 0) (zz0.mk 0 0 0) (zz0.mk 0 0 0) (zz0.mk 0 0 0) (zz0.mk 0 0 0)) (kz0.mk (zz0.mk 0 0 0) (zz0.mk 0 0 0) (zz0.mk 0 0 0) (zz0.mk 0 0 0) (zz0.mk 0 0 0) (zz0.mk 0 0 0) (zz0.mk 0 0 0) (zz0.mk 0 0 0)) a)
def yz0:Nat->Int->kz0->kz0->zz5->Ot (Int×kz0)
 |0,_,_,_,_=>none
 |n+1,a,b,c,d=>
  pIf (decide (a<8))
   ((rem .i64 a 2).bind λx1=>
   (quo .i64 a 2).bind λx2=>
   (rem .i64 x2 2).bind λx3=>
   (quo .i64 a 4).bind λx4=>
   (z38 n d.frame (zz0.mk (IntKind.i64.wrap (x1 * d.size_.x)) (IntKind.i64.wrap (x3 * d.size_.y)) (IntKind.i64.wrap (x4 * d.size_.z)))).bind λy5=>
   (inR 8 a).bind λx6=>
   pIf (a==(((6+1):Nat):Int))
    ((inR 8 a).bind λx7=>
    pIf (a==(((6+1):Nat):Int))
     ((kz2 n y5 (-1000000)).bind λy8=>
     pIf (!y8)
      (some (16,(kz0.mk (zz0.mk 0 0 0) (zz0.mk 0 0 0) (zz0.mk 0 0 0) (zz0.mk 0 0 0) (zz0.mk 0 0 0) (zz0.mk 0 0 0) (zz0.mk 0 0 0) (zz0.mk 0 0 0))))
      (yz0 n (IntKind.i64.wrap (a+1)) b (kz0.mk c.e0 c.e1 c.e2 c.e3 c.e4 c.e5 c.e6 y5) d))
     (pIf (a==(((5+1):Nat):Int))
       ((kz2 n c.e6 (-1000000)).bind λy9=>
       pIf (!y9)
        (some (16,(kz0.mk (zz0.mk 0 0 0) (zz0.mk 0 0 0) (zz0.mk 0 0 0) (zz0.mk 0 0 0) (zz0.mk 0 0 0) (zz0.mk 0 0 0) (zz0.mk 0 0 0) (zz0.mk 0 0 0))))
        (yz0 n (IntKind.i64.wrap (a+1)) b (kz0.mk c.e0 c.e1 c.e2 c.e3 c.e4 c.e5 c.e6 y5) d))
       (pIf (a==(((4+1):Nat):Int))
         ((kz2 n c.e5 (-1000000)).bind λy10=>
         pIf (!y10)
          (some (16,(kz0.mk (zz0.mk 0 0 0) (zz0.mk 0 0 0) (zz0.mk 0 0 0) (zz0.mk 0 0 0) (zz0.mk 0 0 0) (zz0.mk 0 0 0) (zz0.mk 0 0 0) (zz0.mk 0 0 0))))
          (yz0 n (IntKind.i64.wrap (a+1)) b (kz0.mk c.e0 c.e1 c.e2 c.e3 c.e4 c.e5 c.e6 y5) d))
         (pIf (a==(((3+1):Nat):Int))
           ((kz2 n c.e4 (-1000000)).bind λy11=>
           pIf (!y11)
            (some (16,(kz0.mk (zz0.mk 0 0 0) (zz0.mk 0 0 0) (zz0.mk 0 0 0) (zz0.mk 0 0 0) (zz0.mk 0 0 0) (zz0.mk 0 0 0) (zz0.mk 0 0 0) (zz0.mk 0 0 0))))
            (yz0 n (IntKind.i64.wrap (a+1)) b (kz0.mk c.e0 c.e1 c.e2 c.e3 c.e4 c.e5 c.e6 y5) d))
           (pIf (a==(((2+1):Nat):Int))
             ((kz2 n c.e3 (-1000000)).bind λy12=>
             pIf (!y12)
              (some (16,(kz0.mk (zz0.mk 0 0 0) (zz0.mk 0 0 0) (zz0.mk 0 0 0) (zz0.mk 0 0 0) (zz0.mk 0 0 0) (zz0.mk 0 0 0) (zz0.mk 0 0 0) (zz0.mk 0 0 0))))
              (yz0 n (IntKind.i64.wrap (a+1)) b (kz0.mk c.e0 c.e1 c.e2 c.e3 c.e4 c.e5 c.e6 y5) d))
             (pIf (a==(((1+1):Nat):Int))
               ((kz2 n c.e2 (-1000000)).bind λy13=>
               pIf (!y13)
                (some (16,(kz0.mk (zz0.mk 0 0 0) (zz0.mk 0 0 0) (zz0.mk 0 0 0) (zz0.mk 0 0 0) (zz0.mk 0 0 0) (zz0.mk 0 0 0) (zz0.mk 0 0 0) (zz0.mk 0 0 0))))
                (yz0 n (IntKind.i64.wrap (a+1)) b (kz0.mk c.e0 c.e1 c.e2 c.e3 c.e4 c.e5 c.e6 y5) d))
               (pIf (a==(((0+1):Nat):Int))
                 ((kz2 n c.e1 (-1000000)).bind λy14=>
                 pIf (!y14)
                  (some (16,(kz0.mk (zz0.mk 0 0 0) (zz0.mk 0 0 0) (zz0.mk 0 0 0) (zz0.mk 0 0 0) (zz0.mk 0 0 0) (zz0.mk 0 0 0) (zz0.mk 0 0 0) (zz0.mk 0 0 0))))
                  (yz0 n (IntKind.i64.wrap (a+1)) b (kz0.mk c.e0 c.e1 c.e2 c.e3 c.e4 c.e5 c.e6 y5) d))
                 ((kz2 n c.e0 (-1000000)).bind λy15=>
                 pIf (!y15)
                  (some (16,(kz0.mk (zz0.mk 0 0 0) (zz0.mk 0 0 0) (zz0.mk 0 0 0) (zz0.mk 0 0 0) (zz0.mk 0 0 0) (zz0.mk 0 0 0) (zz0.mk 0 0 0) (zz0.mk 0 0 0))))
                  (yz0 n (IntKind.i64.wrap (a+1)) b (kz0.mk c.e0 c.e1 c.e2 c.e3 c.e4 c.e5 c.e6 y5) d)))))))))
    (pIf (a==(((5+1):Nat):Int))
      ((inR 8 a).bind λx16=>
      pIf (a==(((6+1):Nat):Int))
       ((kz2 n c.e7 (-1000000)).bind λy17=>
       pIf (!y17)
        (some (16,(kz0.mk (zz0.mk 0 0 0) (zz0.mk 0 0 0) (zz0.mk 0 0 0) (zz0.mk 0 0 0) (zz0.mk 0 0 0) (zz0.mk 0 0 0) (zz0.mk 0 0 0) (zz0.mk 0 0 0))))
        (yz0 n (IntKind.i64.wrap (a+1)) b (kz0.mk c.e0 c.e1 c.e2 c.e3 c.e4 c.e5 y5 c.e7) d))
       (pIf (a==(((5+1):Nat):Int))
         ((kz2 n y5 (-1000000)).bind λy18=>
         pIf (!y18)
          (some (16,(kz0.mk (zz0.mk 0 0 0) (zz0.mk 0 0 0) (zz0.mk 0 0 0) (zz0.mk 0 0 0) (zz0.mk 0 0 0) (zz0.mk 0 0 0) (zz0.mk 0 0 0) (zz0.mk 0 0 0))))
          (yz0 n (IntKind.i64.wrap (a+1)) b (kz0.mk c.e0 c.e1 c.e2 c.e3 c.e4 c.e5 y5 c.e7) d))
         (pIf (a==(((4+1):Nat):Int))
           ((kz2 n c.e5 (-1000000)).bind λy19=>
           pIf (!y19)
            (some (16,(kz0.mk (zz0.mk 0 0 0) (zz0.mk 0 0 0) (zz0.mk 0 0 0) (zz0.mk 0 0 0) (zz0.mk 0 0 0) (zz0.mk 0 0 0) (zz0.mk 0 0 0) (zz0.mk 0 0 0))))
            (yz0 n (IntKind.i64.wrap (a+1)) b (kz0.mk c.e0 c.e1 c.e2 c.e3 c.e4 c.e5 y5 c.e7) d))
           (pIf (a==(((3+1):Nat):Int))
             ((kz2 n c.e4 (-1000000)).bind λy20=>
             pIf (!y20)
              (some (16,(kz0.mk (zz0.mk 0 0 0) (zz0.mk 0 0 0) (zz0.mk 0 0 0) (zz0.mk 0 0 0) (zz0.mk 0 0 0) (zz0.mk 0 0 0) (zz0.mk 0 0 0) (zz0.mk 0 0 0))))
              (yz0 n (IntKind.i64.wrap (a+1)) b (kz0.mk c.e0 c.e1 c.e2 c.e3 c.e4 c.e5 y5 c.e7) d))
             (pIf (a==(((2+1):Nat):Int))
               ((kz2 n c.e3 (-1000000)).bind λy21=>
               pIf (!y21)
                (some (16,(kz0.mk (zz0.mk 0 0 0) (zz0.mk 0 0 0) (zz0.mk 0 0 0) (zz0.mk 0 0 0) (zz0.mk 0 0 0) (zz0.mk 0 0 0) (zz0.mk 0 0 0) (zz0.mk 0 0 0))))
                (yz0 n (IntKind.i64.wrap (a+1)) b (kz0.mk c.e0 c.e1 c.e2 c.e3 c.e4 c.e5 y5 c.e7) d))
               (pIf (a==(((1+1):Nat):Int))
                 ((kz2 n c.e2 (-1000000)).bind λy22=>
                 pIf (!y22)
                  (some (16,(kz0.mk (zz0.mk 0 0 0) (zz0.mk 0 0 0) (zz0.mk 0 0 0) (zz0.mk 0 0 0) (zz0.mk 0 0 0) (zz0.mk 0 0 0) (zz0.mk 0 0 0) (zz0.mk 0 0 0))))
                  (yz0 n (IntKind.i64.wrap (a+1)) b (kz0.mk c.e0 c.e1 c.e2 c.e3 c.e4 c.e5 y5 c.e7) d))
                 (pIf (a==(((0+1):Nat):Int))
                   ((kz2 n c.e1 (-1000000)).bind λy23=>
                   pIf (!y23)
                    (some (16,(kz0.mk (zz0.mk 0 0 0) (zz0.mk 0 0 0) (zz0.mk 0 0 0) (zz0.mk 0 0 0) (zz0.mk 0 0 0) (zz0.mk 0 0 0) (zz0.mk 0 0 0) (zz0.mk 0 0 0))))
                    (yz0 n (IntKind.i64.wrap (a+1)) b (kz0.mk c.e0 c.e1 c.e2 c.e3 c.e4 c.e5 y5 c.e7) d))
                   ((kz2 n c.e0 (-1000000)).bind λy24=>
                   pIf (!y24)
                    (some (16,(kz0.mk (zz0.mk 0 0 0) (zz0.mk 0 0 0) (zz0.mk 0 0 0) (zz0.mk 0 0 0) (zz0.mk 0 0 0) (zz0.mk 0 0 0) (zz0.mk 0 0 0) (zz0.mk 0 0 0))))
                    (yz0 n (IntKind.i64.wrap (a+1)) b (kz0.mk c.e0 c.e1 c.e2 c.e3 c.e4 c.e5 y5 c.e7) d)))))))))
      (pIf (a==(((4+1):Nat):Int))
        ((inR 8 a).bind λx25=>
        pIf (a==(((6+1):Nat):Int))
         ((kz2 n c.e7 (-1000000)).bind λy26=>
         pIf (!y26)
          (some (16,(kz0.mk (zz0.mk 0 0 0) (zz0.mk 0 0 0) (zz0.mk 0 0 0) (zz0.mk 0 0 0) (zz0.mk 0 0 0) (zz0.mk 0 0 0) (zz0.mk 0 0 0) (zz0.mk 0 0 0))))
          (yz0 n (IntKind.i64.wrap (a+1)) b (kz0.mk c.e0 c.e1 c.e2 c.e3 c.e4 y5 c.e6 c.e7) d))
         (pIf (a==(((5+1):Nat):Int))
           ((kz2 n c.e6 (-1000000)).bind λy27=>
           pIf (!y27)
            (some (16,(kz0.mk (zz0.mk 0 0 0) (zz0.mk 0 0 0) (zz0.mk 0 0 0) (zz0.mk 0 0 0) (zz0.mk 0 0 0) (zz0.mk 0 0 0) (zz0.mk 0 0 0) (zz0.mk 0 0 0))))
            (yz0 n (IntKind.i64.wrap (a+1)) b (kz0.mk c.e0 c.e1 c.e2 c.e3 c.e4 y5 c.e6 c.e7) d))
           (pIf (a==(((4+1):Nat):Int))
             ((kz2 n y5 (-1000000)).bind λy28=>
             pIf (!y28)
              (some (16,(kz0.mk (zz0.mk 0 0 0) (zz0.mk 0 0 0) (zz0.mk 0 0 0) (zz0.mk 0 0 0) (zz0.mk 0 0 0) (zz0.mk 0 0 0) (zz0.mk 0 0 0) (zz0.mk 0 0 0))))
              (yz0 n (IntKind.i64.wrap (a+1)) b (kz0.mk c.e0 c.e1 c.e2 c.e3 c.e4 y5 c.e6 c.e7) d))
             (pIf (a==(((3+1):Nat):Int))
               ((kz2 n c.e4 (-1000000)).bind λy29=>
               pIf (!y29)
                (some (16,(kz0.mk (zz0.mk 0 0 0) (zz0.mk 0 0 0) (zz0.mk 0 0 0) (zz0.mk 0 0 0) (zz0.mk 0 0 0) (zz0.mk 0 0 0) (zz0.mk 0 0 0) (zz0.mk 0 0 0))))
                (yz0 n (IntKind.i64.wrap (a+1)) b (kz0.mk c.e0 c.e1 c.e2 c.e3 c.e4 y5 c.e6 c.e7) d))
               (pIf (a==(((2+1):Nat):Int))
                 ((kz2 n c.e3 (-1000000)).bind λy30=>
                 pIf (!y30)
                  (some (16,(kz0.mk (zz0.mk 0 0 0) (zz0.mk 0 0 0) (zz0.mk 0 0 0) (zz0.mk 0 0 0) (zz0.mk 0 0 0) (zz0.mk 0 0 0) (zz0.mk 0 0 0) (zz0.mk 0 0 0))))
                  (yz0 n (IntKind.i64.wrap (a+1)) b (kz0.mk c.e0 c.e1 c.e2 c.e3 c.e4 y5 c.e6 c.e7) d))
                 (pIf (a==(((1+1):Nat):Int))
                   ((kz2 n c.e2 (-1000000)).bind λy31=>
                   pIf (!y31)
                    (some (16,(kz0.mk (zz0.mk 0 0 0) (zz0.mk 0 0 0) (zz0.mk 0 0 0) (zz0.mk 0 0 0) (zz0.mk 0 0 0) (zz0.mk 0 0 0) (zz0.mk 0 0 0) (zz0.mk 0 0 0))))
                    (yz0 n (IntKind.i64.wrap (a+1)) b (kz0.mk c.e0 c.e1 c.e2 c.e3 c.e4 y5 c.e6 c.e7) d))
                   (pIf (a==(((0+1):Nat):Int))
                     ((kz2 n c.e1 (-1000000)).bind λy32=>
                     pIf (!y32)
                      (some (16,(kz0.mk (zz0.mk 0 0 0) (zz0.mk 0 0 0) (zz0.mk 0 0 0) (zz0.mk 0 0 0) (zz0.mk 0 0 0) (zz0.mk 0 0 0) (zz0.mk 0 0 0) (zz0.mk 0 0 0))))
                      (yz0 n (IntKind.i64.wrap (a+1)) b (kz0.mk c.e0 c.e1 c.e2 c.e3 c.e4 y5 c.e6 c.e7) d))
                     ((kz2 n c.e0 (-1000000)).bind λy33=>
                     pIf (!y33)
                      (some (16,(kz0.mk (zz0.mk 0 0 0) (zz0.mk 0 0 0) (zz0.mk 0 0 0) (zz0.mk 0 0 0) (zz0.mk 0 0 0) (zz0.mk 0 0 0) (zz0.mk 0 0 0) (zz0.mk 0 0 0))))
                      (yz0 n (IntKind.i64.wrap (a+1)) b (kz0.mk c.e0 c.e1 c.e2 c.e3 c.e4 y5 c.e6 c.e7) d)))))))))
        (pIf (a==(((3+1):Nat):Int))
          ((inR 8 a).bind λx34=>
          pIf (a==(((6+1):Nat):Int))
           ((kz2 n c.e7 (-1000000)).bind λy35=>
           pIf (!y35)
            (some (16,(kz0.mk (zz0.mk 0 0 0) (zz0.mk 0 0 0) (zz0.mk 0 0 0) (zz0.mk 0 0 0) (zz0.mk 0 0 0) (zz0.mk 0 0 0) (zz0.mk 0 0 0) (zz0.mk 0 0 0))))
            (yz0 n (IntKind.i64.wrap (a+1)) b (kz0.mk c.e0 c.e1 c.e2 c.e3 y5 c.e5 c.e6 c.e7) d))
           (pIf (a==(((5+1):Nat):Int))
             ((kz2 n c.e6 (-1000000)).bind λy36=>
             pIf (!y36)
              (some (16,(kz0.mk (zz0.mk 0 0 0) (zz0.mk 0 0 0) (zz0.mk 0 0 0) (zz0.mk 0 0 0) (zz0.mk 0 0 0) (zz0.mk 0 0 0) (zz0.mk 0 0 0) (zz0.mk 0 0 0))))
              (yz0 n (IntKind.i64.wrap (a+1)) b (kz0.mk c.e0 c.e1 c.e2 c.e3 y5 c.e5 c.e6 c.e7) d))
             (pIf (a==(((4+1):Nat):Int))
               ((kz2 n c.e5 (-1000000)).bind λy37=>
               pIf (!y37)
                (some (16,(kz0.mk (zz0.mk 0 0 0) (zz0.mk 0 0 0) (zz0.mk 0 0 0) (zz0.mk 0 0 0) (zz0.mk 0 0 0) (zz0.mk 0 0 0) (zz0.mk 0 0 0) (zz0.mk 0 0 0))))
                (yz0 n (IntKind.i64.wrap (a+1)) b (kz0.mk c.e0 c.e1 c.e2 c.e3 y5 c.e5 c.e6 c.e7) d))
               (pIf (a==(((3+1):Nat):Int))
                 ((kz2 n y5 (-1000000)).bind λy38=>
                 pIf (!y38)
                  (some (16,(kz0.mk (zz0.mk 0 0 0) (zz0.mk 0 0 0) (zz0.mk 0 0 0) (zz0.mk 0 0 0) (zz0.mk 0 0 0) (zz0.mk 0 0 0) (zz0.mk 0 0 0) (zz0.mk 0 0 0))))
                  (yz0 n (IntKind.i64.wrap (a+1)) b (kz0.mk c.e0 c.e1 c.e2 c.e3 y5 c.e5 c.e6 c.e7) d))
                 (pIf (a==(((2+1):Nat):Int))
                   ((kz2 n c.e3 (-1000000)).bind λy39=>
                   pIf (!y39)
                    (some (16,(kz0.mk (zz0.mk 0 0 0) (zz0.mk 0 0 0) (zz0.mk 0 0 0) (zz0.mk 0 0 0) (zz0.mk 0 0 0) (zz0.mk 0 0 0) (zz0.mk 0 0 0) (zz0.mk 0 0 0))))
                    (yz0 n (IntKind.i64.wrap (a+1)) b (kz0.mk c.e0 c.e1 c.e2 c.e3 y5 c.e5 c.e6 c.e7) d))
                   (pIf (a==(((1+1):Nat):Int))
                     ((kz2 n c.e2 (-1000000)).bind λy40=>
                     pIf (!y40)
                      (some (16,(kz0.mk (zz0.mk 0 0 0) (zz0.mk 0 0 0) (zz0.mk 0 0 0) (zz0.mk 0 0 0) (zz0.mk 0 0 0) (zz0.mk 0 0 0) (zz0.mk 0 0 0) (zz0.mk 0 0 0))))
                      (yz0 n (IntKind.i64.wrap (a+1)) b (kz0.mk c.e0 c.e1 c.e2 c.e3 y5 c.e5 c.e6 c.e7) d))
                     (pIf (a==(((0+1):Nat):Int))
                       ((kz2 n c.e1 (-1000000)).bind λy41=>
                       pIf (!y41)
                        (some (16,(kz0.mk (zz0.mk 0 0 0) (zz0.mk 0 0 0) (zz0.mk 0 0 0) (zz0.mk 0 0 0) (zz0.mk 0 0 0) (zz0.mk 0 0 0) (zz0.mk 0 0 0) (zz0.mk 0 0 0))))
                        (yz0 n (IntKind.i64.wrap (a+1)) b (kz0.mk c.e0 c.e1 c.e2 c.e3 y5 c.e5 c.e6 c.e7) d))
                       ((kz2 n c.e0 (-1000000)).bind λy42=>
                       pIf (!y42)
                        (some (16,(kz0.mk (zz0.mk 0 0 0) (zz0.mk 0 0 0) (zz0.mk 0 0 0) (zz0.mk 0 0 0) (zz0.mk 0 0 0) (zz0.mk 0 0 0) (zz0.mk 0 0 0) (zz0.mk 0 0 0))))
                        (yz0 n (IntKind.i64.wrap (a+1)) b (kz0.mk c.e0 c.e1 c.e2 c.e3 y5 c.e5 c.e6 c.e7) d)))))))))
          (pIf (a==(((2+1):Nat):Int))
            ((inR 8 a).bind λx43=>
            pIf (a==(((6+1):Nat):Int))
             ((kz2 n c.e7 (-1000000)).bind λy44=>
             pIf (!y44)
              (some (16,(kz0.mk (zz0.mk 0 0 0) (zz0.mk 0 0 0) (zz0.mk 0 0 0) (zz0.mk 0 0 0) (zz0.mk 0 0 0) (zz0.mk 0 0 0) (zz0.mk 0 0 0) (zz0.mk 0 0 0))))
              (yz0 n (IntKind.i64.wrap (a+1)) b (kz0.mk c.e0 c.e1 c.e2 y5 c.e4 c.e5 c.e6 c.e7) d))
             (pIf (a==(((5+1):Nat):Int))
               ((kz2 n c.e6 (-1000000)).bind λy45=>
               pIf (!y45)
                (some (16,(kz0.mk (zz0.mk 0 0 0) (zz0.mk 0 0 0) (zz0.mk 0 0 0) (zz0.mk 0 0 0) (zz0.mk 0 0 0) (zz0.mk 0 0 0) (zz0.mk 0 0 0) (zz0.mk 0 0 0))))
                (yz0 n (IntKind.i64.wrap (a+1)) b (kz0.mk c.e0 c.e1 c.e2 y5 c.e4 c.e5 c.e6 c.e7) d))
               (pIf (a==(((4+1):Nat):Int))
                 ((kz2 n c.e5 (-1000000)).bind λy46=>
                 pIf (!y46)
                  (some (16,(kz0.mk (zz0.mk 0 0 0) (zz0.mk 0 0 0) (zz0.mk 0 0 0) (zz0.mk 0 0 0) (zz0.mk 0 0 0) (zz0.mk 0 0 0) (zz0.mk 0 0 0) (zz0.mk 0 0 0))))
                  (yz0 n (IntKind.i64.wrap (a+1)) b (kz0.mk c.e0 c.e1 c.e2 y5 c.e4 c.e5 c.e6 c.e7) d))
                 (pIf (a==(((3+1):Nat):Int))
                   ((kz2 n c.e4 (-1000000)).bind λy47=>
                   pIf (!y47)
                    (some (16,(kz0.mk (zz0.mk 0 0 0) (zz0.mk 0 0 0) (zz0.mk 0 0 0) (zz0.mk 0 0 0) (zz0.mk 0 0 0) (zz0.mk 0 0 0) (zz0.mk 0 0 0) (zz0.mk 0 0 0))))
                    (yz0 n (IntKind.i64.wrap (a+1)) b (kz0.mk c.e0 c.e1 c.e2 y5 c.e4 c.e5 c.e6 c.e7) d))
                   (pIf (a==(((2+1):Nat):Int))
                     ((kz2 n y5 (-1000000)).bind λy48=>
                     pIf (!y48)
                      (some (16,(kz0.mk (zz0.mk 0 0 0) (zz0.mk 0 0 0) (zz0.mk 0 0 0) (zz0.mk 0 0 0) (zz0.mk 0 0 0) (zz0.mk 0 0 0) (zz0.mk 0 0 0) (zz0.mk 0 0 0))))
                      (yz0 n (IntKind.i64.wrap (a+1)) b (kz0.mk c.e0 c.e1 c.e2 y5 c.e4 c.e5 c.e6 c.e7) d))
                     (pIf (a==(((1+1):Nat):Int))
                       ((kz2 n c.e2 (-1000000)).bind λy49=>
                       pIf (!y49)
                        (some (16,(kz0.mk (zz0.mk 0 0 0) (zz0.mk 0 0 0) (zz0.mk 0 0 0) (zz0.mk 0 0 0) (zz0.mk 0 0 0) (zz0.mk 0 0 0) (zz0.mk 0 0 0) (zz0.mk 0 0 0))))
                        (yz0 n (IntKind.i64.wrap (a+1)) b (kz0.mk c.e0 c.e1 c.e2 y5 c.e4 c.e5 c.e6 c.e7) d))
                       (pIf (a==(((0+1):Nat):Int))
                         ((kz2 n c.e1 (-1000000)).bind λy50=>
                         pIf (!y50)
                          (some (16,(kz0.mk (zz0.mk 0 0 0) (zz0.mk 0 0 0) (zz0.mk 0 0 0) (zz0.mk 0 0 0) (zz0.mk 0 0 0) (zz0.mk 0 0 0) (zz0.mk 0 0 0) (zz0.mk 0 0 0))))
                          (yz0 n (IntKind.i64.wrap (a+1)) b (kz0.mk c.e0 c.e1 c.e2 y5 c.e4 c.e5 c.e6 c.e7) d))
                         ((kz2 n c.e0 (-1000000)).bind λy51=>
                         pIf (!y51)
                          (some (16,(kz0.mk (zz0.mk 0 0 0) (zz0.mk 0 0 0) (zz0.mk 0 0 0) (zz0.mk 0 0 0) (zz0.mk 0 0 0) (zz0.mk 0 0 0) (zz0.mk 0 0 0) (zz0.mk 0 0 0))))
                          (yz0 n (IntKind.i64.wrap (a+1)) b (kz0.mk c.e0 c.e1 c.e2 y5 c.e4 c.e5 c.e6 c.e7) d)))))))))
            (pIf (a==(((1+1):Nat):Int))
              ((inR 8 a).bind λx52=>
              pIf (a==(((6+1):Nat):Int))
               ((kz2 n c.e7 (-1000000)).bind λy53=>
               pIf (!y53)
                (some (16,(kz0.mk (zz0.mk 0 0 0) (zz0.mk 0 0 0) (zz0.mk 0 0 0) (zz0.mk 0 0 0) (zz0.mk 0 0 0) (zz0.mk 0 0 0) (zz0.mk 0 0 0) (zz0.mk 0 0 0))))
                (yz0 n (IntKind.i64.wrap (a+1)) b (kz0.mk c.e0 c.e1 y5 c.e3 c.e4 c.e5 c.e6 c.e7) d))
               (pIf (a==(((5+1):Nat):Int))
                 ((kz2 n c.e6 (-1000000)).bind λy54=>
                 pIf (!y54)
                  (some (16,(kz0.mk (zz0.mk 0 0 0) (zz0.mk 0 0 0) (zz0.mk 0 0 0) (zz0.mk 0 0 0) (zz0.mk 0 0 0) (zz0.mk 0 0 0) (zz0.mk 0 0 0) (zz0.mk 0 0 0))))
                  (yz0 n (IntKind.i64.wrap (a+1)) b (kz0.mk c.e0 c.e1 y5 c.e3 c.e4 c.e5 c.e6 c.e7) d))
                 (pIf (a==(((4+1):Nat):Int))
                   ((kz2 n c.e5 (-1000000)).bind λy55=>
                   pIf (!y55)
                    (some (16,(kz0.mk (zz0.mk 0 0 0) (zz0.mk 0 0 0) (zz0.mk 0 0 0) (zz0.mk 0 0 0) (zz0.mk 0 0 0) (zz0.mk 0 0 0) (zz0.mk 0 0 0) (zz0.mk 0 0 0))))
                    (yz0 n (IntKind.i64.wrap (a+1)) b (kz0.mk c.e0 c.e1 y5 c.e3 c.e4 c.e5 c.e6 c.e7) d))
                   (pIf (a==(((3+1):Nat):Int))
                     ((kz2 n c.e4 (-1000000)).bind λy56=>
                     pIf (!y56)
                      (some (16,(kz0.mk (zz0.mk 0 0 0) (zz0.mk 0 0 0) (zz0.mk 0 0 0) (zz0.mk 0 0 0) (zz0.mk 0 0 0) (zz0.mk 0 0 0) (zz0.mk 0 0 0) (zz0.mk 0 0 0))))
                      (yz0 n (IntKind.i64.wrap (a+1)) b (kz0.mk c.e0 c.e1 y5 c.e3 c.e4 c.e5 c.e6 c.e7) d))
                     (pIf (a==(((2+1):Nat):Int))
                       ((kz2 n c.e3 (-1000000)).bind λy57=>
                       pIf (!y57)
                        (some (16,(kz0.mk (zz0.mk 0 0 0) (zz0.mk 0 0 0) (zz0.mk 0 0 0) (zz0.mk 0 0 0) (zz0.mk 0 0 0) (zz0.mk 0 0 0) (zz0.mk 0 0 0) (zz0.mk 0 0 0))))
                        (yz0 n (IntKind.i64.wrap (a+1)) b (kz0.mk c.e0 c.e1 y5 c.e3 c.e4 c.e5 c.e6 c.e7) d))
                       (pIf (a==(((1+1):Nat):Int))
                         ((kz2 n y5 (-1000000)).bind λy58=>
                         pIf (!y58)
                          (some (16,(kz0.mk (zz0.mk 0 0 0) (zz0.mk 0 0 0) (zz0.mk 0 0 0) (zz0.mk 0 0 0) (zz0.mk 0 0 0) (zz0.mk 0 0 0) (zz0.mk 0 0 0) (zz0.mk 0 0 0))))
                          (yz0 n (IntKind.i64.wrap (a+1)) b (kz0.mk c.e0 c.e1 y5 c.e3 c.e4 c.e5 c.e6 c.e7) d))
                         (pIf (a==(((0+1):Nat):Int))
                           ((kz2 n c.e1 (-1000000)).bind λy59=>
                           pIf (!y59)
                            (some (16,(kz0.mk (zz0.mk 0 0 0) (zz0.mk 0 0 0) (zz0.mk 0 0 0) (zz0.mk 0 0 0) (zz0.mk 0 0 0) (zz0.mk 0 0 0) (zz0.mk 0 0 0) (zz0.mk 0 0 0))))
                            (yz0 n (IntKind.i64.wrap (a+1)) b (kz0.mk c.e0 c.e1 y5 c.e3 c.e4 c.e5 c.e6 c.e7) d))
                           ((kz2 n c.e0 (-1000000)).bind λy60=>
                           pIf (!y60)
                            (some (16,(kz0.mk (zz0.mk 0 0 0) (zz0.mk 0 0 0) (zz0.mk 0 0 0) (zz0.mk 0 0 0) (zz0.mk 0 0 0) (zz0.mk 0 0 0) (zz0.mk 0 0 0) (zz0.mk 0 0 0))))
                            (yz0 n (IntKind.i64.wrap (a+1)) b (kz0.mk c.e0 c.e1 y5 c.e3 c.e4 c.e5 c.e6 c.e7) d)))))))))
              (pIf (a==(((0+1):Nat):Int))
                ((inR 8 a).bind λx61=>
                pIf (a==(((6+1):Nat):Int))
                 ((kz2 n c.e7 (-1000000)).bind λy62=>
                 pIf (!y62)
                  (some (16,(kz0.mk (zz0.mk 0 0 0) (zz0.mk 0 0 0) (zz0.mk 0 0 0) (zz0.mk 0 0 0) (zz0.mk 0 0 0) (zz0.mk 0 0 0) (zz0.mk 0 0 0) (zz0.mk 0 0 0))))
                  (yz0 n (IntKind.i64.wrap (a+1)) b (kz0.mk c.e0 y5 c.e2 c.e3 c.e4 c.e5 c.e6 c.e7) d))
                 (pIf (a==(((5+1):Nat):Int))
                   ((kz2 n c.e6 (-1000000)).bind λy63=>
                   pIf (!y63)
                    (some (16,(kz0.mk (zz0.mk 0 0 0) (zz0.mk 0 0 0) (zz0.mk 0 0 0) (zz0.mk 0 0 0) (zz0.mk 0 0 0) (zz0.mk 0 0 0) (zz0.mk 0 0 0) (zz0.mk 0 0 0))))
                    (yz0 n (IntKind.i64.wrap (a+1)) b (kz0.mk c.e0 y5 c.e2 c.e3 c.e4 c.e5 c.e6 c.e7) d))
                   (pIf (a==(((4+1):Nat):Int))
                     ((kz2 n c.e5 (-1000000)).bind λy64=>
                     pIf (!y64)
                      (some (16,(kz0.mk (zz0.mk 0 0 0) (zz0.mk 0 0 0) (zz0.mk 0 0 0) (zz0.mk 0 0 0) (zz0.mk 0 0 0) (zz0.mk 0 0 0) (zz0.mk 0 0 0) (zz0.mk 0 0 0))))
                      (yz0 n (IntKind.i64.wrap (a+1)) b (kz0.mk c.e0 y5 c.e2 c.e3 c.e4 c.e5 c.e6 c.e7) d))
                     (pIf (a==(((3+1):Nat):Int))
                       ((kz2 n c.e4 (-1000000)).bind λy65=>
                       pIf (!y65)
                        (some (16,(kz0.mk (zz0.mk 0 0 0) (zz0.mk 0 0 0) (zz0.mk 0 0 0) (zz0.mk 0 0 0) (zz0.mk 0 0 0) (zz0.mk 0 0 0) (zz0.mk 0 0 0) (zz0.mk 0 0 0))))
                        (yz0 n (IntKind.i64.wrap (a+1)) b (kz0.mk c.e0 y5 c.e2 c.e3 c.e4 c.e5 c.e6 c.e7) d))
                       (pIf (a==(((2+1):Nat):Int))
                         ((kz2 n c.e3 (-1000000)).bind λy66=>
                         pIf (!y66)
                          (some (16,(kz0.mk (zz0.mk 0 0 0) (zz0.mk 0 0 0) (zz0.mk 0 0 0) (zz0.mk 0 0 0) (zz0.mk 0 0 0) (zz0.mk 0 0 0) (zz0.mk 0 0 0) (zz0.mk 0 0 0))))
                          (yz0 n (IntKind.i64.wrap (a+1)) b (kz0.mk c.e0 y5 c.e2 c.e3 c.e4 c.e5 c.e6 c.e7) d))
                         (pIf (a==(((1+1):Nat):Int))
                           ((kz2 n c.e2 (-1000000)).bind λy67=>
                           pIf (!y67)
                            (some (16,(kz0.mk (zz0.mk 0 0 0) (zz0.mk 0 0 0) (zz0.mk 0 0 0) (zz0.mk 0 0 0) (zz0.mk 0 0 0) (zz0.mk 0 0 0) (zz0.mk 0 0 0) (zz0.mk 0 0 0))))
                            (yz0 n (IntKind.i64.wrap (a+1)) b (kz0.mk c.e0 y5 c.e2 c.e3 c.e4 c.e5 c.e6 c.e7) d))
                           (pIf (a==(((0+1):Nat):Int))
                             ((kz2 n y5 (-1000000)).bind λy68=>
                             pIf (!y68)
                              (some (16,(kz0.mk (zz0.mk 0 0 0) (zz0.mk 0 0 0) (zz0.mk 0 0 0) (zz0.mk 0 0 0) (zz0.mk 0 0 0) (zz0.mk 0 0 0) (zz0.mk 0 0 0) (zz0.mk 0 0 0))))
                              (yz0 n (IntKind.i64.wrap (a+1)) b (kz0.mk c.e0 y5 c.e2 c.e3 c.e4 c.e5 c.e6 c.e7) d))
                             ((kz2 n c.e0 (-1000000)).bind λy69=>
                             pIf (!y69)
                              (some (16,(kz0.mk (zz0.mk 0 0 0) (zz0.mk 0 0 0) (zz0.mk 0 0 0) (zz0.mk 0 0 0) (zz0.mk 0 0 0) (zz0.mk 0 0 0) (zz0.mk 0 0 0) (zz0.mk 0 0 0))))
                              (yz0 n (IntKind.i64.wrap (a+1)) b (kz0.mk c.e0 y5 c.e2 c.e3 c.e4 c.e5 c.e6 c.e7) d)))))))))
                ((inR 8 a).bind λx70=>
                pIf (a==(((6+1):Nat):Int))
                 ((kz2 n c.e7 (-1000000)).bind λy71=>
                 pIf (!y71)
                  (some (16,(kz0.mk (zz0.mk 0 0 0) (zz0.mk 0 0 0) (zz0.mk 0 0 0) (zz0.mk 0 0 0) (zz0.mk 0 0 0) (zz0.mk 0 0 0) (zz0.mk 0 0 0) (zz0.mk 0 0 0))))
                  (yz0 n (IntKind.i64.wrap (a+1)) b (kz0.mk y5 c.e1 c.e2 c.e3 c.e4 c.e5 c.e6 c.e7) d))
                 (pIf (a==(((5+1):Nat):Int))
                   ((kz2 n c.e6 (-1000000)).bind λy72=>
                   pIf (!y72)
                    (some (16,(kz0.mk (zz0.mk 0 0 0) (zz0.mk 0 0 0) (zz0.mk 0 0 0) (zz0.mk 0 0 0) (zz0.mk 0 0 0) (zz0.mk 0 0 0) (zz0.mk 0 0 0) (zz0.mk 0 0 0))))
                    (yz0 n (IntKind.i64.wrap (a+1)) b (kz0.mk y5 c.e1 c.e2 c.e3 c.e4 c.e5 c.e6 c.e7) d))
                   (pIf (a==(((4+1):Nat):Int))
                     ((kz2 n c.e5 (-1000000)).bind λy73=>
                     pIf (!y73)
                      (some (16,(kz0.mk (zz0.mk 0 0 0) (zz0.mk 0 0 0) (zz0.mk 0 0 0) (zz0.mk 0 0 0) (zz0.mk 0 0 0) (zz0.mk 0 0 0) (zz0.mk 0 0 0) (zz0.mk 0 0 0))))
                      (yz0 n (IntKind.i64.wrap (a+1)) b (kz0.mk y5 c.e1 c.e2 c.e3 c.e4 c.e5 c.e6 c.e7) d))
                     (pIf (a==(((3+1):Nat):Int))
                       ((kz2 n c.e4 (-1000000)).bind λy74=>
                       pIf (!y74)
                        (some (16,(kz0.mk (zz0.mk 0 0 0) (zz0.mk 0 0 0) (zz0.mk 0 0 0) (zz0.mk 0 0 0) (zz0.mk 0 0 0) (zz0.mk 0 0 0) (zz0.mk 0 0 0) (zz0.mk 0 0 0))))
                        (yz0 n (IntKind.i64.wrap (a+1)) b (kz0.mk y5 c.e1 c.e2 c.e3 c.e4 c.e5 c.e6 c.e7) d))
                       (pIf (a==(((2+1):Nat):Int))
                         ((kz2 n c.e3 (-1000000)).bind λy75=>
                         pIf (!y75)
                          (some (16,(kz0.mk (zz0.mk 0 0 0) (zz0.mk 0 0 0) (zz0.mk 0 0 0) (zz0.mk 0 0 0) (zz0.mk 0 0 0) (zz0.mk 0 0 0) (zz0.mk 0 0 0) (zz0.mk 0 0 0))))
                          (yz0 n (IntKind.i64.wrap (a+1)) b (kz0.mk y5 c.e1 c.e2 c.e3 c.e4 c.e5 c.e6 c.e7) d))
                         (pIf (a==(((1+1):Nat):Int))
                           ((kz2 n c.e2 (-1000000)).bind λy76=>
                           pIf (!y76)
                            (some (16,(kz0.mk (zz0.mk 0 0 0) (zz0.mk 0 0 0) (zz0.mk 0 0 0) (zz0.mk 0 0 0) (zz0.mk 0 0 0) (zz0.mk 0 0 0) (zz0.mk 0 0 0) (zz0.mk 0 0 0))))
                            (yz0 n (IntKind.i64.wrap (a+1)) b (kz0.mk y5 c.e1 c.e2 c.e3 c.e4 c.e5 c.e6 c.e7) d))
                           (pIf (a==(((0+1):Nat):Int))
                             ((kz2 n c.e1 (-1000000)).bind λy77=>
                             pIf (!y77)
                              (some (16,(kz0.mk (zz0.mk 0 0 0) (zz0.mk 0 0 0) (zz0.mk 0 0 0) (zz0.mk 0 0 0) (zz0.mk 0 0 0) (zz0.mk 0 0 0) (zz0.mk 0 0 0) (zz0.mk 0 0 0))))
                              (yz0 n (IntKind.i64.wrap (a+1)) b (kz0.mk y5 c.e1 c.e2 c.e3 c.e4 c.e5 c.e6 c.e7) d))
                             ((kz2 n y5 (-1000000)).bind λy78=>
                             pIf (!y78)
                              (some (16,(kz0.mk (zz0.mk 0 0 0) (zz0.mk 0 0 0) (zz0.mk 0 0 0) (zz0.mk 0 0 0) (zz0.mk 0 0 0) (zz0.mk 0 0 0) (zz0.mk 0 0 0) (zz0.mk 0 0 0))))
                              (yz0 n (IntKind.i64.wrap (a+1)) b (kz0.mk y5 c.e1 c.e2 c.e3 c.e4 c.e5 c.e6 c.e7) d))))))))))))))))
   (some (0,c))
end
def zki:LSh:=⟨[(2,(.ptr 0 0)),(3,dI)],[(.st 1)],0,51,[]⟩
noncomputable def zcg:FI dat:=FI.of dat 29 51 0 [dT 7] [] [dT 1,dI] [] true zki (R:=Int×kz0) (λx=>(x.1,x.2.1)) (λr=>(r.2,r.1,())) (λn=>u1 (z1j n))
 (λn=>[(0,⟨⟨[(2,(.ptr 0 0)),(14,dI),(5,(.ptr 1 0)),(1,(.ptr 2 0))],[(.st 1),(.st 1),(.st 7)],0,51,[]⟩,u4 (yz0 n)⟩)]) (anb [(18,0)] Try.f29)
theorem zj1:FOk Try.prog zcg:=okF (bs:=[zch,zfc,z8k]) ⟨zjh,zoc,zab,trivial⟩ Try.func29 Try.ntmps29 Try.call29
 (λ_ _=>tr (z1j.eq_2 ..))
 (λn=>⟨λ_=>tr (yz0.eq_2 ..),
  trivial⟩)
mutual
def z19:Nat->zz5->Ot (Int×kz7)
 |0,_=>none
 |n+1,a=>
  (z1j n a).bind λy0=>
  pIf (y0.1 != 0)
   (some (y0.1,(kz7.mk (zz0.mk 0 0 0) (zz0.mk 0 0 0))))
   (pIf (a.size_.x==0)
     (yzt n true (kz7.mk (zz0.mk 0 0 0) (zz0.mk 0 0 0)) y0.2)
     (pIf (a.size_.y==0)
       (yzt n true (kz7.mk (zz0.mk 0 0 0) (zz0.mk 0 0 0)) y0.2)
       (yzt n (a.size_.z==0) (kz7.mk (zz0.mk 0 0 0) (zz0.mk 0 0 0)) y0.2)))
def yzt:Nat->Bool->kz7->kz0->Ot (Int×kz7)
 |0,_,_,_=>none
 |n+1,a,b,c=>
  pIf a
   (some (6,(kz7.mk (zz0.mk 0 0 0) (zz0.mk 0 0 0))))
   ((inR 8 0).bind λx1=>
   (inR 8 0).bind λx2=>
   z10 n 0 c (kz7.mk c.e0 c.e0) b)
def z10:Nat->Int->kz0->kz7->kz7->Ot (Int×kz7)
 |0,_,_,_,_=>none
 |n+1,a,b,c,d=>
  pIf (decide (a<8))
   ((ix [b.e0,b.e1,b.e2,b.e3,b.e4,b.e5,b.e6,b.e7] a).bind λx3=>
   z10 n (IntKind.i64.wrap (a+1)) b (kz7.mk (zz0.mk (mnI c.lo.x x3.x) (mnI c.lo.y x3.y) (mnI c.lo.z x3.z)) (zz0.mk (mxI c.hi.x x3.x) (mxI c.hi.y x3.y) (mxI c.hi.z x3.z))) d)
   (some (0,c))
end
def ztv:LSh:=⟨[(2,(.ptr 0 0)),(3,dI)],[(.st 4)],0,86,[]⟩
noncomputable def zd2:FI dat:=FI.of dat 19 86 0 [dT 7] [] [dT 4,dI] [] true ztv (R:=Int×kz7) (λx=>(x.1,x.2.1)) (λr=>(r.2,r.1,())) (λn=>u1 (z19 n))
 (λn=>[(0,⟨⟨[(2,(.ptr 0 0)),(4,(.ptr 1 0)),(33,dB)],[(.st 4),(.st 1)],0,86,[]⟩,u3 (yzt n)⟩),(1,⟨⟨[(41,dI),(6,(.ptr 0 0)),(40,dT 1),(2,(.ptr 1 0))],[(.st 4),(.st 4)],0,86,[]⟩,u4 (z10 n)⟩)]) (anb [(15,0),(26,1)] Try.f19)
theorem ztg:FOk Try.prog zd2:=okF (bs:=[zcg]) ⟨zj1,trivial⟩ Try.func19 Try.ntmps19 Try.call19
 (λ_ _=>tr (z19.eq_2 ..))
 (λn=>⟨λ_=>tr (yzt.eq_2 ..),
  λ_=>tr (z10.eq_2 ..),
  trivial⟩)
mutual
def z1h:Nat->zz6->Ot (Res (Int×Unit) (Int×zz6×z1y×(List Bool)×(List B8)×(List Int)))
 |0,_=>none
 |n+1,a=>
  pIf (decide ((a.length:Int)>2000))
   (some (Res.pan (4,())))
   (kzc n 0 a (a.length:Int) a [] [] [] [])
def kzc:Nat->Int->zz6->Int->zz6->z1y->(List Bool)->(List B8)->(List Int)->Ot (Res (Int×Unit) (Int×zz6×z1y×(List Bool)×(List B8)×(List Int)))
 |0,_,_,_,_,_,_,_,_=>none
 |n+1,a,b,c,d,e,f,g,h=>
  pIf (decide (a<c))
   ((ix b a).bind λx0=>
   (z19 n x0.scope).bind λy1=>
   pIf (Option.isSome (z1x (List.zip g h) x0.path))
    (kzg n b c a y1.1 a true d y1.2 x0 e f (mks (List.zip g h)) (mvs (List.zip g h)))
    (pIf (x0.path==[])
      (kzg n b c a y1.1 a true d y1.2 x0 e f (mks (List.zip g h)) (mvs (List.zip g h)))
      ((z1p n x0.path).bind λy2=>
      pIf (y2 != 0)
       (kzg n b c a y1.1 a true d y1.2 x0 e f (mks (List.zip g h)) (mvs (List.zip g h)))
       (pIf (y1.1 != 0)
         (kzg n b c a y1.1 a (y1.1 != 6) d y1.2 x0 e f (mks (List.zip g h)) (mvs (List.zip g h)))
         (kzg n b c a y1.1 a false d y1.2 x0 e f (mks (List.zip g h)) (mvs (List.zip g h)))))))
   (some (Res.ok (0,d,e,f,(mks (List.zip g h)),(mvs (List.zip g h)))))
def kzg:Nat->zz6->Int->Int->Int->Int->Bool->zz6->kz7->zz9->z1y->(List Bool)->(List B8)->(List Int)->Ot (Res (Int×Unit) (Int×zz6×z1y×(List Bool)×(List B8)×(List Int)))
 |0,_,_,_,_,_,_,_,_,_,_,_,_,_=>none
 |n+1,a,b,c,d,e,f,g,h,i,j,k,l,m=>
  pIf f
   (some (Res.pan (8,())))
   ((ext j [h]).bind λx3=>
   (ext k [(d==0)]).bind λx4=>
   kzc n (IntKind.i64.wrap (c+1)) a b g x3 x4 (mks (z4v (List.zip l m) i.path e)) (mvs (z4v (List.zip l m) i.path e)))
end
def zt4:LSh:=⟨[(2,(.ptr 0 0)),(3,dI)],[(.cells [dL 10,(.own 1),(.own 2),(.map 3)]),(.acc 26 (.st 4) true),(.acc 4 .bool true),(.mp 46 (.int .i64))],0,91,[]⟩
noncomputable def z8j:FI dat:=FI.of2 Try.prog dat 10 91 0 [dL 10] [] [(.ptr 0 0),dI] [(.cells [dL 10,(.own 1),(.own 2),(.map 3)]),(.acc 26 (.st 4) true),(.acc 4 .bool true),(.mp 46 (.int .i64))] (.tup [.nilp,dI]) [] Try.f10.results.toList zt4 (R:=Int×zz6×z1y×(List Bool)×(List B8)×(List Int)) (λx=>(x.1,x.2.1,x.2.2.1,x.2.2.2.1,x.2.2.2.2.1,x.2.2.2.2.2.1)) (λr=>(r.1,r.2.1,r.2.2.1,r.2.2.2.1,r.2.2.2.2.1,r.2.2.2.2.2,())) (λn=>u1 (z1h n))
 (λn=>[(0,⟨⟨[(20,dI),(4,(.ptr 0 0)),(18,dL 10),(19,dI)],[(.cells [dL 10,(.own 1),(.own 2),(.map 3)]),(.acc 26 (.st 4) true),(.acc 4 .bool true),(.mp 46 (.int .i64))],0,91,[]⟩,u8 (kzc n)⟩),(1,⟨⟨[(4,(.ptr 0 0)),(18,dL 10),(19,dI),(20,dI),(8,dI),(7,(.ptr 1 0)),(5,dI),(6,(.ptr 2 0)),(60,dB)],[(.cells [dL 10,(.own 3),(.own 4),(.map 5)]),(.st 4),(.st 10),(.acc 26 (.st 4) true),(.acc 4 .bool true),(.mp 46 (.int .i64))],0,91,[]⟩,λx=>kzg n x.1 x.2.1 x.2.2.1 x.2.2.2.1 x.2.2.2.2.1 x.2.2.2.2.2.1 x.2.2.2.2.2.2.1 x.2.2.2.2.2.2.2.1 x.2.2.2.2.2.2.2.2.1 x.2.2.2.2.2.2.2.2.2.1 x.2.2.2.2.2.2.2.2.2.2.1 x.2.2.2.2.2.2.2.2.2.2.2.1 x.2.2.2.2.2.2.2.2.2.2.2.2.1⟩)]) (anb [(16,0),(34,1)] Try.f10)
noncomputable def zrm:List (FI dat):=[zd2,z77]
theorem zsa:(z8j).Good Try.prog dat (tb zrm):=FI.y3w (hD:=z9g _) Try.func10 Try.ntmps10 Try.call10 (by kernel_rfl) (Qac (by kernel_rfl)) (by kernel_rfl) (λn=>by kernel_rfl) (λx=>by kernel_rfl) (λ_=>rfl) ⟨λ_=>rfl,λ_=>rfl,trivial⟩
 (λ_ _=>tr (z1h.eq_2 ..))
 (λn=>⟨λ_=>tr (kzc.eq_2 ..),
  λ_=>tr (kzg.eq_2 ..),
  trivial⟩)
 (λx=>by kernel_rfl)
theorem zs0:OkL Try.prog [z8j]:=y3j (z9g _) (bs:=[zd2,z77]) ⟨ztg,zdl,trivial⟩ zsa
theorem zq2:FOk Try.prog z8j:=zs0.1
mutual
def zz8:Nat->B8->Int->Ot Int
 |0,_,_=>none
 |n+1,a,b=>
  yz5 n (IntKind.i64.wrap ((a.length:Int)-1)) b a
def yz5:Nat->Int->Int->B8->Ot Int
 |0,_,_,_=>none
 |n+1,a,b,c=>
  pIf (decide (a>=0))
   ((ix c a).bind λx0=>
   pIf ((x0.toNat:Int)==b)
    (some a)
    (yz5 n (IntKind.i64.wrap (a-1)) b c))
   (some (-1))
end
def z4b:LSh:=⟨[(4,dI)],[],0,19,[]⟩
noncomputable def z0r:FI dat:=FI.of dat 76 19 0 [dS,dU] [] [dI] [] true z4b (R:=Int) Prod.fst (·,()) (λn=>u2 (zz8 n))
 (λn=>[(0,⟨⟨[(5,dI),(1,dU),(0,dS)],[],0,19,[]⟩,u3 (yz5 n)⟩)]) (anb [(6,0)] Try.f76)
theorem z3z:FOk Try.prog z0r:=okF (bs:=[]) trivial Try.func76 Try.ntmps76 Try.call76
 (λ_ _=>tr (zz8.eq_2 ..))
 (λn=>⟨λ_=>tr (yz5.eq_2 ..),
  trivial⟩)
def kzh:Nat->B8->Int->Ot Int
 |0,_,_=>none
 |n+1,a,b=>
  (zz8 n a b).bind λy0=>
  some y0
def zba:LSh:=⟨[(4,dI)],[],0,8,[]⟩
noncomputable def z5k:FI dat:=FI.of dat 53 8 0 [dS,dU] [] [dI] [] true zba (R:=Int) Prod.fst (·,()) (λn=>u2 (kzh n))
 (λn=>[]) (anb [] Try.f53)
theorem zac:FOk Try.prog z5k:=okF (bs:=[z0r]) ⟨z3z,trivial⟩ Try.func53 Try.ntmps53 Try.call53
 (λ_ _=>tr (kzh.eq_2 ..))
 (λn=>trivial)
def z3f:Nat->B8->Ot (B8×B8)
 |0,_=>none
 |n+1,a=>
  (kzh n a 47).bind λy0=>
  (sub a 0 (mxI y0 0)).bind λx1=>
  (sub a (IntKind.i64.wrap (y0+1)) (a.length:Int)).bind λx2=>
  some (x1,x2)
def zvm:LSh:=⟨[(2,dS),(3,dS)],[],0,15,[]⟩
noncomputable def zjj:FI dat:=FI.of dat 33 15 0 [dS] [] [dS,dS] [] true zvm (R:=B8×B8) (λx=>(x.1,x.2.1)) (λr=>(r.1,r.2,())) (λn=>u1 (z3f n))
 (λn=>[]) (anb [] Try.f33)
theorem zr9:FOk Try.prog zjj:=okF (bs:=[z5k]) ⟨zac,trivial⟩ Try.func33 Try.ntmps33 Try.call33
 (λ_ _=>tr (z3f.eq_2 ..))
 (λn=>trivial)
def z1z:Nat->B8->Ot (B8×Int)
 |0,_=>none
 |n+1,a=>
  (z1p n a).bind λy0=>
  pIf (y0 != 0)
   (some ([],y0))
   (pIf (a==[])
     (some ([],6))
     ((z3f n a).bind λy1=>
     some (y1.1,0)))
def znr:LSh:=⟨[(2,dS),(3,dI)],[],0,20,[]⟩
noncomputable def ze0:FI dat:=FI.of dat 21 20 0 [dS] [] [dS,dI] [] true znr (R:=B8×Int) (λx=>(x.1,x.2.1)) (λr=>(r.1,r.2,())) (λn=>u1 (z1z n))
 (λn=>[]) (anb [] Try.f21)
theorem zl6:FOk Try.prog ze0:=okF (bs:=[z77,zjj]) ⟨zdl,zr9,trivial⟩ Try.func21 Try.ntmps21 Try.call21
 (λ_ _=>tr (z1z.eq_2 ..))
 (λn=>trivial)
mutual
noncomputable def kzp:Nat->(List Int)->zz6->(List B8)->(List Int)->z1y->(List Bool)->Ot ((List B8)×zz6×(List B8)×(List Int)×z1y×(List Bool))
 |0,_,_,_,_,_,_=>none
 |n+1,a,b,c,d,e,f=>
  yze n 0 a (a.length:Int) b (mks (List.zip c d)) (mvs (List.zip c d)) e f [] []
noncomputable def yze:Nat->Int->(List Int)->Int->zz6->(List B8)->(List Int)->z1y->(List Bool)->(List B8)->(List Bool)->Ot ((List B8)×zz6×(List B8)×(List Int)×z1y×(List Bool))
 |0,_,_,_,_,_,_,_,_,_,_=>none
 |n+1,a,b,c,d,e,f,g,h,i,j=>
  pIf (decide (a<c))
   ((ix b a).bind λx0=>
   (ix d x0).bind λx1=>
   zzc n x1.path b c a d (mks (List.zip e f)) (mvs (List.zip e f)) g h (mks (List.zip i j)) (mvs (List.zip i j)))
   (kze n d (mks (List.zip e f)) (mvs (List.zip e f)) g h [] (mks (List.zip i j)) (mvs (List.zip i j)))
noncomputable def zzc:Nat->B8->(List Int)->Int->Int->zz6->(List B8)->(List Int)->z1y->(List Bool)->(List B8)->(List Bool)->Ot ((List B8)×zz6×(List B8)×(List Int)×z1y×(List Bool))
 |0,_,_,_,_,_,_,_,_,_,_,_=>none
 |n+1,a,b,c,d,e,f,g,h,i,j,k=>
  pIf (!(a==[]))
   (pIf (Option.isSome (z1x (List.zip f g) a))
     ((ix e (Option.getD (z1x (List.zip f g) a) 0)).bind λx2=>
     kzk n b c d a (Option.getD (z1x (List.zip f g) a) 0) (!(x2.rule_==[])) e (mks (List.zip f g)) (mvs (List.zip f g)) h i (mks (List.zip j k)) (mvs (List.zip j k)))
     (kzk n b c d a (Option.getD (z1x (List.zip f g) a) 0) false e (mks (List.zip f g)) (mvs (List.zip f g)) h i (mks (List.zip j k)) (mvs (List.zip j k))))
   (yze n (IntKind.i64.wrap (d+1)) b c e (mks (List.zip f g)) (mvs (List.zip f g)) h i (mks (List.zip j k)) (mvs (List.zip j k)))
noncomputable def kzk:Nat->(List Int)->Int->Int->B8->Int->Bool->zz6->(List B8)->(List Int)->z1y->(List Bool)->(List B8)->(List Bool)->Ot ((List B8)×zz6×(List B8)×(List Int)×z1y×(List Bool))
 |0,_,_,_,_,_,_,_,_,_,_,_,_,_=>none
 |n+1,a,b,c,d,e,f,g,h,i,j,k,l,m=>
  pIf f
   ((ix g e).bind λx8=>
   zzf n a b c d g (mks (List.zip h i)) (mvs (List.zip h i)) j k (mks (z4v (List.zip l m) x8.rule_ true)) (mvs (z4v (List.zip l m) x8.rule_ true)))
   (zzf n a b c d g (mks (List.zip h i)) (mvs (List.zip h i)) j k (mks (List.zip l m)) (mvs (List.zip l m)))
noncomputable def zzf:Nat->(List Int)->Int->Int->B8->zz6->(List B8)->(List Int)->z1y->(List Bool)->(List B8)->(List Bool)->Ot ((List B8)×zz6×(List B8)×(List Int)×z1y×(List Bool))
 |0,_,_,_,_,_,_,_,_,_,_,_=>none
 |n+1,a,b,c,d,e,f,g,h,i,j,k=>
  (z1z n d).bind λy9=>
  zzc n y9.1 a b c e (mks (List.zip f g)) (mvs (List.zip f g)) h i (mks (List.zip j k)) (mvs (List.zip j k))
noncomputable def kze:Nat->zz6->(List B8)->(List Int)->z1y->(List Bool)->(List B8)->(List B8)->(List Bool)->Ot ((List B8)×zz6×(List B8)×(List Int)×z1y×(List Bool))
 |0,_,_,_,_,_,_,_,_=>none
 |n+1,a,b,c,d,e,f,g,h=>
  zjw (List.zip g h) (λk3 v4 r5=>
   (ext f [k3]).bind λx6=>
   kze n a (mks (List.zip b c)) (mvs (List.zip b c)) d e x6 (mks r5) (mvs r5))
   ((kzm n f).bind λy7=>
   some (y7,a,(mks (List.zip b c)),(mvs (List.zip b c)),d,e))
end
def zbk:LSh:=⟨[(4,dA)],[(.cells [dL 10,(.own 2),(.own 3),(.map 1)]),(.mp 46 (.int .i64)),(.acc 26 (.st 4) true),(.acc 4 .bool true)],2,79,[]⟩
noncomputable def z60:FI dat:=FI.of dat 11 79 2 [(.ptr 0 0),(.d (.sl (.int .i64)))] [(.cells [dL 10,(.own 2),(.own 3),(.map 1)]),(.mp 46 (.int .i64)),(.acc 26 (.st 4) true),(.acc 4 .bool true)] [dA] [(.cells [dL 10,(.own 2),(.own 3),(.map 1)]),(.mp 46 (.int .i64)),(.acc 26 (.st 4) true),(.acc 4 .bool true)] false zbk (R:=(List B8)×zz6×(List B8)×(List Int)×z1y×(List Bool)) (λx=>(x.1,x.2.1,x.2.2.1,x.2.2.2.1,x.2.2.2.2.1,x.2.2.2.2.2.1)) (λr=>(r.1,r.2.1,r.2.2.1,r.2.2.2.1,r.2.2.2.2.1,r.2.2.2.2.2,())) (λn=>u6 (kzp n))
 (λn=>[(0,⟨⟨[(0,(.ptr 0 0)),(5,(.map 4)),(16,dI),(14,(.d (.sl (.int .i64)))),(15,dI)],[(.cells [dL 10,(.own 2),(.own 3),(.map 1)]),(.mp 46 (.int .i64)),(.acc 26 (.st 4) true),(.acc 4 .bool true),(.mp 70 .bool)],2,79,[]⟩,u10 (yze n)⟩),(1,⟨⟨[(8,dS),(0,(.ptr 0 0)),(5,(.map 4)),(14,(.d (.sl (.int .i64)))),(15,dI),(16,dI)],[(.cells [dL 10,(.own 2),(.own 3),(.map 1)]),(.mp 46 (.int .i64)),(.acc 26 (.st 4) true),(.acc 4 .bool true),(.mp 70 .bool)],2,79,[]⟩,u11 (zzc n)⟩),(2,⟨⟨[(0,(.ptr 0 0)),(5,(.map 4)),(14,(.d (.sl (.int .i64)))),(15,dI),(16,dI),(8,dS),(9,dI),(55,dB)],[(.cells [dL 10,(.own 2),(.own 3),(.map 1)]),(.mp 46 (.int .i64)),(.acc 26 (.st 4) true),(.acc 4 .bool true),(.mp 70 .bool)],2,79,[]⟩,λx=>kzk n x.1 x.2.1 x.2.2.1 x.2.2.2.1 x.2.2.2.2.1 x.2.2.2.2.2.1 x.2.2.2.2.2.2.1 x.2.2.2.2.2.2.2.1 x.2.2.2.2.2.2.2.2.1 x.2.2.2.2.2.2.2.2.2.1 x.2.2.2.2.2.2.2.2.2.2.1 x.2.2.2.2.2.2.2.2.2.2.2.1 x.2.2.2.2.2.2.2.2.2.2.2.2.1⟩),(3,⟨⟨[(0,(.ptr 0 0)),(5,(.map 4)),(14,(.d (.sl (.int .i64)))),(15,dI),(16,dI),(8,dS)],[(.cells [dL 10,(.own 2),(.own 3),(.map 1)]),(.mp 46 (.int .i64)),(.acc 26 (.st 4) true),(.acc 4 .bool true),(.mp 70 .bool)],2,79,[]⟩,u11 (zzf n)⟩),(4,⟨⟨[(11,(.own 4)),(67,(.ptr 5 0))],[(.cells [dL 10,(.own 2),(.own 3),(.map 1)]),(.mp 46 (.int .i64)),(.acc 26 (.st 4) true),(.acc 4 .bool true),(.acc 9 .str true),(.mit .bool)],2,79,[]⟩,u8 (kze n)⟩)]) (anb [(8,0),(22,1),(35,2),(38,3),(46,4)] Try.f11)
theorem zb2:FOk Try.prog z60:=okF (bs:=[z14,ze0]) ⟨z7t,zl6,trivial⟩ Try.func11 Try.ntmps11 Try.call11
 (λn=>λ_=>tr (kzp.eq_2 _ _ _ _ _ _ n))
 (λn=>⟨λ_=>tr (yze.eq_2 _ _ _ _ _ _ _ _ _ _ n),
  λ_=>tr (zzc.eq_2 _ _ _ _ _ _ _ _ _ _ _ n),
  λ_=>tr (kzk.eq_2 _ _ _ _ _ _ _ _ _ _ _ _ _ n),
  λ_=>tr (zzf.eq_2 _ _ _ _ _ _ _ _ _ _ _ n),
  λ_=>tr (kze.eq_2 _ _ _ _ _ _ _ _ n),
  trivial⟩)
end Go.Proofs.Ytdcbdnediadfcaa
