/-
  THE GO STRUCTS AS LEAN STRUCTURES, by a program of this repo (types.py).
-/
import Derived.Test.YthphaiccgnkobaaGreatDoorLib2
import Derived.Test.YthphaiccgnkobaaGreatDoorLib4
import Derived.Test.YthphaiccgnkobaaGreatDoorLib8
import Derived.Test.YthphaiccgnkobaaGreatDoorLib9
import Derived.KernelRfl
import Derived.Shelf.Small.Strs
import Derived.Shelf.Strconv.AtoiAll
import Derived.Shelf.Strconv.Itoa4
import Derived.Shelf.Strings.Split
import Derived.Shelf.Strings.OnBuilder
import Derived.Shelf.Strings.Fields
import Derived.Shelf.Strings.Builder1
import Derived.Shelf.Strings.Search1
import Derived.Shelf.Strings.Search2
import Derived.Shelf.Slices.CompactS
import Derived.Shelf.Sort.Plain
import Derived.Shelf.Slices.In.SortNone
import Derived.Ground.NamesProg
import Derived.Test.YthphaiccgnkobaaGreatDoorProg
import Derived.Test.YthphaiccgnkobaaGreatDoorLib3
import Derived.RangeFuncBox
import Derived.RangeFuncLeaves
import Derived.RangeFuncFrom
import Derived.RangeFuncCalls
import Derived.Shelf.Abstract
import Derived.WalkKit
import Derived.OwnWalkIn
import Derived.TacticsInMore
import Derived.LoopNIn
import Derived.LoopIn
import Derived.Shelf.RegionOpen
import Derived.Test.YthphaiccgnkobaaGreatDoorLib10
namespace Go.Ab
open Go
set_option linter.unusedVariables false
set_option linter.unusedSimpArgs false
structure yz4 where
 num:Int
 den:Int
def yz4.el(x:yz4):V:=.agg [.int .i64 x.num,.int .i64 x.den]
def yz4.size(x:yz4):Nat:=1+1+1
def yz4.wf(x:yz4):Prop:=(IntKind.i64.min<=x.num∧x.num<=IntKind.i64.max)∧(IntKind.i64.min<=x.den∧x.den<=IntKind.i64.max)
theorem yz4.yzb(x:yz4):x.el = .agg [.int .i64 x.num,.int .i64 x.den]:=by rw[yz4.el]
theorem yz4.size_eq(x:yz4):x.size=1+1+1:=by rw[yz4.size]
theorem yz4.z1e(x:yz4):x.wf=((IntKind.i64.min<=x.num∧x.num<=IntKind.i64.max)∧(IntKind.i64.min<=x.den∧x.den<=IntKind.i64.max)):=by rw[yz4.wf]
theorem yz4.yzm(x:yz4):x.el.cells.length=2:=by rw[yz4.yzb];rfl
theorem yz4.zen(x:yz4):x.el = .agg x.el.cells:=by rw[yz4.yzb];rfl
theorem yz4.kin{D:Nat->Nat->Prop}(x:yz4):V.kin D x.el:=by rw[yz4.yzb];simp only[V.kin,V.z7b,and_true,true_and]
def yz4.ty:Ty yz4:=⟨yz4.el,2,yz4.size,yz4.wf,yz4.yzm⟩
structure zz0 where
 kind:Int
 num:yz4
 truth:Bool
 str:B8
 list:List zz0
theorem zz0.zut{x y:zz0}(h:y∈x.list):SizeOf.sizeOf y<SizeOf.sizeOf x:=by cases x;have:=List.sizeOf_lt_of_mem h;simp at this ⊢;omega
def zz0.el(x:zz0):V:=.agg [.int .u8 x.kind,.int .i64 x.num.num,.int .i64 x.num.den,.bool x.truth,.str x.str,.sl 6 (x.list.map zz0.el) false]
 termination_by x
 decreasing_by all_goals first|exact zz0.zut ‹_›
def zz0.size(x:zz0):Nat:=1+x.num.size+1+(x.str.length+1)+((x.list.map zz0.size).sum+1)+1
 termination_by x
 decreasing_by all_goals first|exact zz0.zut ‹_›
def zz0.wf(x:zz0):Prop:=(IntKind.u8.min<=x.kind∧x.kind<=IntKind.u8.max)∧x.num.wf∧True∧True∧(∀y∈x.list,y.wf)
 termination_by x
 decreasing_by all_goals first|exact zz0.zut ‹_›
theorem zz0.yzb(x:zz0):x.el = .agg [.int .u8 x.kind,.int .i64 x.num.num,.int .i64 x.num.den,.bool x.truth,.str x.str,.sl 6 (x.list.map zz0.el) false]:=by rw[zz0.el]
theorem zz0.size_eq(x:zz0):x.size=1+x.num.size+1+(x.str.length+1)+((x.list.map zz0.size).sum+1)+1:=by rw[zz0.size]
theorem zz0.z1e(x:zz0):x.wf=((IntKind.u8.min<=x.kind∧x.kind<=IntKind.u8.max)∧x.num.wf∧True∧True∧(∀y∈x.list,y.wf)):=by rw[zz0.wf]
theorem zz0.yzm(x:zz0):x.el.cells.length=6:=by rw[zz0.yzb];rfl
theorem zz0.zen(x:zz0):x.el = .agg x.el.cells:=by rw[zz0.yzb];rfl
theorem zz0.kin{D:Nat->Nat->Prop}(x:zz0):V.kin D x.el:=by rw[zz0.yzb];simp only[V.kin,V.z7b,and_true,true_and];exact z4z λy hy=>zz0.kin y
 termination_by x
 decreasing_by all_goals first|exact zz0.zut ‹_›
def zz0.ty:Ty zz0:=⟨zz0.el,6,zz0.size,zz0.wf,zz0.yzm⟩
structure kz0 where
 op:Int
 value:zz0
 name:B8
 args:List kz0
theorem kz0.zv3{x y:kz0}(h:y∈x.args):SizeOf.sizeOf y<SizeOf.sizeOf x:=by cases x;have:=List.sizeOf_lt_of_mem h;simp at this ⊢;omega
def kz0.el(x:kz0):V:=.agg [.int .u8 x.op,.int .u8 x.value.kind,.int .i64 x.value.num.num,.int .i64 x.value.num.den,.bool x.value.truth,.str x.value.str,.sl 6 (x.value.list.map zz0.el) false,.str x.name,.sl 9 (x.args.map kz0.el) false]
 termination_by x
 decreasing_by all_goals first|exact kz0.zv3 ‹_›
def kz0.size(x:kz0):Nat:=1+x.value.size+(x.name.length+1)+((x.args.map kz0.size).sum+1)+1
 termination_by x
 decreasing_by all_goals first|exact kz0.zv3 ‹_›
def kz0.wf(x:kz0):Prop:=(IntKind.u8.min<=x.op∧x.op<=IntKind.u8.max)∧x.value.wf∧True∧(∀y∈x.args,y.wf)
 termination_by x
 decreasing_by all_goals first|exact kz0.zv3 ‹_›
theorem kz0.yzb(x:kz0):x.el = .agg [.int .u8 x.op,.int .u8 x.value.kind,.int .i64 x.value.num.num,.int .i64 x.value.num.den,.bool x.value.truth,.str x.value.str,.sl 6 (x.value.list.map zz0.el) false,.str x.name,.sl 9 (x.args.map kz0.el) false]:=by rw[kz0.el]
theorem kz0.size_eq(x:kz0):x.size=1+x.value.size+(x.name.length+1)+((x.args.map kz0.size).sum+1)+1:=by rw[kz0.size]
theorem kz0.z1e(x:kz0):x.wf=((IntKind.u8.min<=x.op∧x.op<=IntKind.u8.max)∧x.value.wf∧True∧(∀y∈x.args,y.wf)):=by rw[kz0.wf]
theorem kz0.yzm(x:kz0):x.el.cells.length=9:=by rw[kz0.yzb];rfl
theorem kz0.zen(x:kz0):x.el = .agg x.el.cells:=by rw[kz0.yzb];rfl
theorem kz0.kin{D:Nat->Nat->Prop}(x:kz0):V.kin D x.el:=by rw[kz0.yzb];simp only[V.kin,V.z7b,and_true,true_and];exact⟨z4z λy hy=>zz0.kin y,z4z λy hy=>kz0.kin y⟩
 termination_by x
 decreasing_by all_goals first|exact kz0.zv3 ‹_›
def kz0.ty:Ty kz0:=⟨kz0.el,9,kz0.size,kz0.wf,kz0.yzm⟩
structure kzh where
 name:B8
 value:kz0
def kzh.el(x:kzh):V:=.agg [.str x.name,.int .u8 x.value.op,.int .u8 x.value.value.kind,.int .i64 x.value.value.num.num,.int .i64 x.value.value.num.den,.bool x.value.value.truth,.str x.value.value.str,.sl 6 (x.value.value.list.map zz0.el) false,.str x.value.name,.sl 9 (x.value.args.map kz0.el) false]
def kzh.size(x:kzh):Nat:=(x.name.length+1)+x.value.size+1
def kzh.wf(x:kzh):Prop:=True∧x.value.wf
theorem kzh.yzb(x:kzh):x.el = .agg [.str x.name,.int .u8 x.value.op,.int .u8 x.value.value.kind,.int .i64 x.value.value.num.num,.int .i64 x.value.value.num.den,.bool x.value.value.truth,.str x.value.value.str,.sl 6 (x.value.value.list.map zz0.el) false,.str x.value.name,.sl 9 (x.value.args.map kz0.el) false]:=by rw[kzh.el]
theorem kzh.size_eq(x:kzh):x.size=(x.name.length+1)+x.value.size+1:=by rw[kzh.size]
theorem kzh.z1e(x:kzh):x.wf=(True∧x.value.wf):=by rw[kzh.wf]
theorem kzh.yzm(x:kzh):x.el.cells.length=10:=by rw[kzh.yzb];rfl
theorem kzh.zen(x:kzh):x.el = .agg x.el.cells:=by rw[kzh.yzb];rfl
theorem kzh.kin{D:Nat->Nat->Prop}(x:kzh):V.kin D x.el:=by rw[kzh.yzb];simp only[V.kin,V.z7b,and_true,true_and];exact⟨z4z λy hy=>zz0.kin y,z4z λy hy=>kz0.kin y⟩
def kzh.ty:Ty kzh:=⟨kzh.el,10,kzh.size,kzh.wf,kzh.yzm⟩
structure zzj where
 kind:Int
 name:B8
 args:List kz0
def zzj.el(x:zzj):V:=.agg [.int .u8 x.kind,.str x.name,.sl 9 (x.args.map kz0.el) false]
def zzj.size(x:zzj):Nat:=1+(x.name.length+1)+((x.args.map kz0.size).sum+1)+1
def zzj.wf(x:zzj):Prop:=(IntKind.u8.min<=x.kind∧x.kind<=IntKind.u8.max)∧True∧(∀y∈x.args,y.wf)
theorem zzj.yzb(x:zzj):x.el = .agg [.int .u8 x.kind,.str x.name,.sl 9 (x.args.map kz0.el) false]:=by rw[zzj.el]
theorem zzj.size_eq(x:zzj):x.size=1+(x.name.length+1)+((x.args.map kz0.size).sum+1)+1:=by rw[zzj.size]
theorem zzj.z1e(x:zzj):x.wf=((IntKind.u8.min<=x.kind∧x.kind<=IntKind.u8.max)∧True∧(∀y∈x.args,y.wf)):=by rw[zzj.wf]
theorem zzj.yzm(x:zzj):x.el.cells.length=3:=by rw[zzj.yzb];rfl
theorem zzj.zen(x:zzj):x.el = .agg x.el.cells:=by rw[zzj.yzb];rfl
theorem zzj.kin{D:Nat->Nat->Prop}(x:zzj):V.kin D x.el:=by rw[zzj.yzb];simp only[V.kin,V.z7b,and_true,true_and];exact z4z λy hy=>kz0.kin y
def zzj.ty:Ty zzj:=⟨zzj.el,3,zzj.size,zzj.wf,zzj.yzm⟩
structure kz3 where
 kind:Int
 axis:Int
 name:B8
 args:List kz0
 items:List zzj
def kz3.el(x:kz3):V:=.agg [.int .u8 x.kind,.int .u8 x.axis,.str x.name,.sl 9 (x.args.map kz0.el) false,.sl 3 (x.items.map zzj.el) false]
def kz3.size(x:kz3):Nat:=1+1+(x.name.length+1)+((x.args.map kz0.size).sum+1)+((x.items.map zzj.size).sum+1)+1
def kz3.wf(x:kz3):Prop:=(IntKind.u8.min<=x.kind∧x.kind<=IntKind.u8.max)∧(IntKind.u8.min<=x.axis∧x.axis<=IntKind.u8.max)∧True∧(∀y∈x.args,y.wf)∧(∀y∈x.items,y.wf)
theorem kz3.yzb(x:kz3):x.el = .agg [.int .u8 x.kind,.int .u8 x.axis,.str x.name,.sl 9 (x.args.map kz0.el) false,.sl 3 (x.items.map zzj.el) false]:=by rw[kz3.el]
theorem kz3.size_eq(x:kz3):x.size=1+1+(x.name.length+1)+((x.args.map kz0.size).sum+1)+((x.items.map zzj.size).sum+1)+1:=by rw[kz3.size]
theorem kz3.z1e(x:kz3):x.wf=((IntKind.u8.min<=x.kind∧x.kind<=IntKind.u8.max)∧(IntKind.u8.min<=x.axis∧x.axis<=IntKind.u8.max)∧True∧(∀y∈x.args,y.wf)∧(∀y∈x.items,y.wf)):=by rw[kz3.wf]
theorem kz3.yzm(x:kz3):x.el.cells.length=5:=by rw[kz3.yzb];rfl
theorem kz3.zen(x:kz3):x.el = .agg x.el.cells:=by rw[kz3.yzb];rfl
theorem kz3.kin{D:Nat->Nat->Prop}(x:kz3):V.kin D x.el:=by rw[kz3.yzb];simp only[V.kin,V.z7b,and_true,true_and];exact⟨z4z λy hy=>kz0.kin y,z4z λy hy=>zzj.kin y⟩
def kz3.ty:Ty kz3:=⟨kz3.el,5,kz3.size,kz3.wf,kz3.yzm⟩
structure kz6 where
 weight:Int
 when_:kz0
 do_:List kz3
def kz6.el(x:kz6):V:=.agg [.int .i64 x.weight,.int .u8 x.when_.op,.int .u8 x.when_.value.kind,.int .i64 x.when_.value.num.num,.int .i64 x.when_.value.num.den,.bool x.when_.value.truth,.str x.when_.value.str,.sl 6 (x.when_.value.list.map zz0.el) false,.str x.when_.name,.sl 9 (x.when_.args.map kz0.el) false,.sl 5 (x.do_.map kz3.el) false]
def kz6.size(x:kz6):Nat:=1+x.when_.size+((x.do_.map kz3.size).sum+1)+1
def kz6.wf(x:kz6):Prop:=(IntKind.i64.min<=x.weight∧x.weight<=IntKind.i64.max)∧x.when_.wf∧(∀y∈x.do_,y.wf)
theorem kz6.yzb(x:kz6):x.el = .agg [.int .i64 x.weight,.int .u8 x.when_.op,.int .u8 x.when_.value.kind,.int .i64 x.when_.value.num.num,.int .i64 x.when_.value.num.den,.bool x.when_.value.truth,.str x.when_.value.str,.sl 6 (x.when_.value.list.map zz0.el) false,.str x.when_.name,.sl 9 (x.when_.args.map kz0.el) false,.sl 5 (x.do_.map kz3.el) false]:=by rw[kz6.el]
theorem kz6.size_eq(x:kz6):x.size=1+x.when_.size+((x.do_.map kz3.size).sum+1)+1:=by rw[kz6.size]
theorem kz6.z1e(x:kz6):x.wf=((IntKind.i64.min<=x.weight∧x.weight<=IntKind.i64.max)∧x.when_.wf∧(∀y∈x.do_,y.wf)):=by rw[kz6.wf]
theorem kz6.yzm(x:kz6):x.el.cells.length=11:=by rw[kz6.yzb];rfl
theorem kz6.zen(x:kz6):x.el = .agg x.el.cells:=by rw[kz6.yzb];rfl
theorem kz6.kin{D:Nat->Nat->Prop}(x:kz6):V.kin D x.el:=by rw[kz6.yzb];simp only[V.kin,V.z7b,and_true,true_and];exact⟨z4z λy hy=>zz0.kin y,z4z λy hy=>kz0.kin y,z4z λy hy=>kz3.kin y⟩
def kz6.ty:Ty kz6:=⟨kz6.el,11,kz6.size,kz6.wf,kz6.yzm⟩
structure yz5 where
 name:B8
 params:List B8
 cases:List kz6
def yz5.el(x:yz5):V:=.agg [.str x.name,.sl 1 (x.params.map V.str) false,.sl 11 (x.cases.map kz6.el) false]
def yz5.size(x:yz5):Nat:=(x.name.length+1)+((x.params.map (λs=>s.length+1)).sum+1)+((x.cases.map kz6.size).sum+1)+1
def yz5.wf(x:yz5):Prop:=True∧(∀y∈x.params,True)∧(∀y∈x.cases,y.wf)
theorem yz5.yzb(x:yz5):x.el = .agg [.str x.name,.sl 1 (x.params.map V.str) false,.sl 11 (x.cases.map kz6.el) false]:=by rw[yz5.el]
theorem yz5.size_eq(x:yz5):x.size=(x.name.length+1)+((x.params.map (λs=>s.length+1)).sum+1)+((x.cases.map kz6.size).sum+1)+1:=by rw[yz5.size]
theorem yz5.z1e(x:yz5):x.wf=(True∧(∀y∈x.params,True)∧(∀y∈x.cases,y.wf)):=by rw[yz5.wf]
theorem yz5.yzm(x:yz5):x.el.cells.length=3:=by rw[yz5.yzb];rfl
theorem yz5.zen(x:yz5):x.el = .agg x.el.cells:=by rw[yz5.yzb];rfl
theorem yz5.kin{D:Nat->Nat->Prop}(x:yz5):V.kin D x.el:=by rw[yz5.yzb];simp only[V.kin,V.z7b,and_true,true_and];exact⟨z4z λ_ _=>by simp[V.kin],z4z λy hy=>kz6.kin y⟩
def yz5.ty:Ty yz5:=⟨yz5.el,3,yz5.size,yz5.wf,yz5.yzm⟩
structure yz0 where
 attrs:List kzh
 rules:List yz5
def yz0.el(x:yz0):V:=.agg [.sl 10 (x.attrs.map kzh.el) false,.sl 3 (x.rules.map yz5.el) false]
def yz0.size(x:yz0):Nat:=((x.attrs.map kzh.size).sum+1)+((x.rules.map yz5.size).sum+1)+1
def yz0.wf(x:yz0):Prop:=(∀y∈x.attrs,y.wf)∧(∀y∈x.rules,y.wf)
theorem yz0.yzb(x:yz0):x.el = .agg [.sl 10 (x.attrs.map kzh.el) false,.sl 3 (x.rules.map yz5.el) false]:=by rw[yz0.el]
theorem yz0.size_eq(x:yz0):x.size=((x.attrs.map kzh.size).sum+1)+((x.rules.map yz5.size).sum+1)+1:=by rw[yz0.size]
theorem yz0.z1e(x:yz0):x.wf=((∀y∈x.attrs,y.wf)∧(∀y∈x.rules,y.wf)):=by rw[yz0.wf]
theorem yz0.yzm(x:yz0):x.el.cells.length=2:=by rw[yz0.yzb];rfl
theorem yz0.zen(x:yz0):x.el = .agg x.el.cells:=by rw[yz0.yzb];rfl
theorem yz0.kin{D:Nat->Nat->Prop}(x:yz0):V.kin D x.el:=by rw[yz0.yzb];simp only[V.kin,V.z7b,and_true,true_and];exact⟨z4z λy hy=>kzh.kin y,z4z λy hy=>yz5.kin y⟩
def yz0.ty:Ty yz0:=⟨yz0.el,2,yz0.size,yz0.wf,yz0.yzm⟩
structure yzq where
 name:B8
 many:Int
def yzq.el(x:yzq):V:=.agg [.str x.name,.int .i64 x.many]
def yzq.size(x:yzq):Nat:=(x.name.length+1)+1+1
def yzq.wf(x:yzq):Prop:=True∧(IntKind.i64.min<=x.many∧x.many<=IntKind.i64.max)
theorem yzq.yzb(x:yzq):x.el = .agg [.str x.name,.int .i64 x.many]:=by rw[yzq.el]
theorem yzq.size_eq(x:yzq):x.size=(x.name.length+1)+1+1:=by rw[yzq.size]
theorem yzq.z1e(x:yzq):x.wf=(True∧(IntKind.i64.min<=x.many∧x.many<=IntKind.i64.max)):=by rw[yzq.wf]
theorem yzq.yzm(x:yzq):x.el.cells.length=2:=by rw[yzq.yzb];rfl
theorem yzq.zen(x:yzq):x.el = .agg x.el.cells:=by rw[yzq.yzb];rfl
theorem yzq.kin{D:Nat->Nat->Prop}(x:yzq):V.kin D x.el:=by rw[yzq.yzb];simp only[V.kin,V.z7b,and_true,true_and]
def yzq.ty:Ty yzq:=⟨yzq.el,2,yzq.size,yzq.wf,yzq.yzm⟩
structure yzc where
 p:yz0
 ok:Bool
def yzc.el(x:yzc):V:=.agg [.sl 10 (x.p.attrs.map kzh.el) false,.sl 3 (x.p.rules.map yz5.el) false,.bool x.ok]
def yzc.size(x:yzc):Nat:=x.p.size+1+1
def yzc.wf(x:yzc):Prop:=x.p.wf∧True
theorem yzc.yzb(x:yzc):x.el = .agg [.sl 10 (x.p.attrs.map kzh.el) false,.sl 3 (x.p.rules.map yz5.el) false,.bool x.ok]:=by rw[yzc.el]
theorem yzc.size_eq(x:yzc):x.size=x.p.size+1+1:=by rw[yzc.size]
theorem yzc.z1e(x:yzc):x.wf=(x.p.wf∧True):=by rw[yzc.wf]
theorem yzc.yzm(x:yzc):x.el.cells.length=3:=by rw[yzc.yzb];rfl
theorem yzc.zen(x:yzc):x.el = .agg x.el.cells:=by rw[yzc.yzb];rfl
theorem yzc.kin{D:Nat->Nat->Prop}(x:yzc):V.kin D x.el:=by rw[yzc.yzb];simp only[V.kin,V.z7b,and_true,true_and];exact⟨z4z λy hy=>kzh.kin y,z4z λy hy=>yz5.kin y⟩
def yzc.ty:Ty yzc:=⟨yzc.el,3,yzc.size,yzc.wf,yzc.yzm⟩
structure z3s where
 name:B8
 many:Int
def z3s.el(x:z3s):V:=.agg [.str x.name,.int .i64 x.many]
def z3s.size(x:z3s):Nat:=(x.name.length+1)+1+1
def z3s.wf(x:z3s):Prop:=True∧(IntKind.i64.min<=x.many∧x.many<=IntKind.i64.max)
theorem z3s.yzb(x:z3s):x.el = .agg [.str x.name,.int .i64 x.many]:=by rw[z3s.el]
theorem z3s.size_eq(x:z3s):x.size=(x.name.length+1)+1+1:=by rw[z3s.size]
theorem z3s.z1e(x:z3s):x.wf=(True∧(IntKind.i64.min<=x.many∧x.many<=IntKind.i64.max)):=by rw[z3s.wf]
theorem z3s.yzm(x:z3s):x.el.cells.length=2:=by rw[z3s.yzb];rfl
theorem z3s.zen(x:z3s):x.el = .agg x.el.cells:=by rw[z3s.yzb];rfl
theorem z3s.kin{D:Nat->Nat->Prop}(x:z3s):V.kin D x.el:=by rw[z3s.yzb];simp only[V.kin,V.z7b,and_true,true_and]
def z3s.ty:Ty z3s:=⟨z3s.el,2,z3s.size,z3s.wf,z3s.yzm⟩
structure kz1 where
 s:B8
def kz1.el(x:kz1):V:=.agg [.str x.s]
def kz1.size(x:kz1):Nat:=(x.s.length+1)+1
def kz1.wf(x:kz1):Prop:=True
theorem kz1.yzb(x:kz1):x.el = .agg [.str x.s]:=by rw[kz1.el]
theorem kz1.size_eq(x:kz1):x.size=(x.s.length+1)+1:=by rw[kz1.size]
theorem kz1.z1e(x:kz1):x.wf=(True):=by rw[kz1.wf]
theorem kz1.yzm(x:kz1):x.el.cells.length=1:=by rw[kz1.yzb];rfl
theorem kz1.zen(x:kz1):x.el = .agg x.el.cells:=by rw[kz1.yzb];rfl
theorem kz1.kin{D:Nat->Nat->Prop}(x:kz1):V.kin D x.el:=by rw[kz1.yzb];simp only[V.kin,V.z7b,and_true,true_and]
def kz1.ty:Ty kz1:=⟨kz1.el,1,kz1.size,kz1.wf,kz1.yzm⟩
structure zz2 where
 s:B8
 at_:Int
 ok:Bool
def zz2.el(x:zz2):V:=.agg [.str x.s,.int .i64 x.at_,.bool x.ok]
def zz2.size(x:zz2):Nat:=(x.s.length+1)+1+1+1
def zz2.wf(x:zz2):Prop:=True∧(IntKind.i64.min<=x.at_∧x.at_<=IntKind.i64.max)∧True
theorem zz2.yzb(x:zz2):x.el = .agg [.str x.s,.int .i64 x.at_,.bool x.ok]:=by rw[zz2.el]
theorem zz2.size_eq(x:zz2):x.size=(x.s.length+1)+1+1+1:=by rw[zz2.size]
theorem zz2.z1e(x:zz2):x.wf=(True∧(IntKind.i64.min<=x.at_∧x.at_<=IntKind.i64.max)∧True):=by rw[zz2.wf]
theorem zz2.yzm(x:zz2):x.el.cells.length=3:=by rw[zz2.yzb];rfl
theorem zz2.zen(x:zz2):x.el = .agg x.el.cells:=by rw[zz2.yzb];rfl
theorem zz2.kin{D:Nat->Nat->Prop}(x:zz2):V.kin D x.el:=by rw[zz2.yzb];simp only[V.kin,V.z7b,and_true,true_and]
def zz2.ty:Ty zz2:=⟨zz2.el,3,zz2.size,zz2.wf,zz2.yzm⟩
abbrev GRatio_l:=List yz4
abbrev zzr:=List zz0
abbrev zz7:=List kz0
abbrev zzx:=List kzh
abbrev znj:=List zzj
abbrev z78:=List kz3
abbrev z0r:=List kz6
abbrev yzf:=List yz5
abbrev yra:=List yz0
abbrev z5a:=List yzq
abbrev yqu:=List yzc
abbrev GCall_l:=List z3s
abbrev ypt:=List kz1
abbrev ypw:=List zz2
structure zba where
 e0:B8
 e1:B8
 e2:B8
 e3:B8
 e4:B8
 e5:B8
 e6:B8
 e7:B8
def zba.el(x:zba):V:=.agg [.str x.e0,.str x.e1,.str x.e2,.str x.e3,.str x.e4,.str x.e5,.str x.e6,.str x.e7]
theorem zba.yzb(x:zba):x.el = .agg [.str x.e0,.str x.e1,.str x.e2,.str x.e3,.str x.e4,.str x.e5,.str x.e6,.str x.e7]:=rfl
theorem zba.kin{Dm:Nat->Nat->Prop}(x:zba):V.kin Dm x.el:=by simp[zba.el,V.kin,V.z7b]
structure zbc where
 e0:B8
 e1:B8
 e2:B8
 e3:B8
 e4:B8
 e5:B8
 e6:B8
def zbc.el(x:zbc):V:=.agg [.str x.e0,.str x.e1,.str x.e2,.str x.e3,.str x.e4,.str x.e5,.str x.e6]
theorem zbc.yzb(x:zbc):x.el = .agg [.str x.e0,.str x.e1,.str x.e2,.str x.e3,.str x.e4,.str x.e5,.str x.e6]:=rfl
theorem zbc.kin{Dm:Nat->Nat->Prop}(x:zbc):V.kin Dm x.el:=by simp[zbc.el,V.kin,V.z7b]
structure zbm where
 e0:B8
 e1:B8
 e2:B8
 e3:B8
def zbm.el(x:zbm):V:=.agg [.str x.e0,.str x.e1,.str x.e2,.str x.e3]
theorem zbm.yzb(x:zbm):x.el = .agg [.str x.e0,.str x.e1,.str x.e2,.str x.e3]:=rfl
theorem zbm.kin{Dm:Nat->Nat->Prop}(x:zbm):V.kin Dm x.el:=by simp[zbm.el,V.kin,V.z7b]
def zz0.re(x:zz0):zz0:=⟨x.kind,x.num,x.truth,x.str,x.list⟩
@[simp] theorem zz0.yz6 (x:zz0):x.re=x:=by cases x;simp[zz0.re]
def kz0.re(x:kz0):kz0:=⟨x.op,x.value.re,x.name,x.args⟩
@[simp] theorem kz0.yz6 (x:kz0):x.re=x:=by cases x;simp[kz0.re]
def kzh.re(x:kzh):kzh:=⟨x.name,x.value.re⟩
@[simp] theorem kzh.yz6 (x:kzh):x.re=x:=by cases x;simp[kzh.re]
def kz6.re(x:kz6):kz6:=⟨x.weight,x.when_.re,x.do_⟩
@[simp] theorem kz6.yz6 (x:kz6):x.re=x:=by cases x;simp[kz6.re]
def datT:Nat->Type
 |0=>zba
 |1=>zbc
 |2=>zbm
 |3=>yz4
 |4=>zz0
 |5=>kz0
 |6=>kzh
 |7=>zzj
 |8=>kz3
 |9=>kz6
 |10=>yz5
 |11=>yz0
 |12=>yzq
 |13=>yzc
 |14=>z3s
 |15=>kz1
 |16=>zz2
 |_=>Unit
def zex:Nat->List DTy
 |0=>[.str,.str,.str,.str,.str,.str,.str,.str]
 |1=>[.str,.str,.str,.str,.str,.str,.str]
 |2=>[.str,.str,.str,.str]
 |3=>[.int .i64,.int .i64]
 |4=>[.int .u8,.int .i64,.int .i64,.bool,.str,.sl (.st 4)]
 |5=>[.int .u8,.int .u8,.int .i64,.int .i64,.bool,.str,.sl (.st 4),.str,.sl (.st 5)]
 |6=>[.str,.int .u8,.int .u8,.int .i64,.int .i64,.bool,.str,.sl (.st 4),.str,.sl (.st 5)]
 |7=>[.int .u8,.str,.sl (.st 5)]
 |8=>[.int .u8,.int .u8,.str,.sl (.st 5),.sl (.st 7)]
 |9=>[.int .i64,.int .u8,.int .u8,.int .i64,.int .i64,.bool,.str,.sl (.st 4),.str,.sl (.st 5),.sl (.st 8)]
 |10=>[.str,.sl .str,.sl (.st 9)]
 |11=>[.sl (.st 6),.sl (.st 10)]
 |12=>[.str,.int .i64]
 |13=>[.sl (.st 6),.sl (.st 10),.bool]
 |14=>[.str,.int .i64]
 |15=>[.str]
 |16=>[.str,.int .i64,.bool]
 |_=>[]
def yob:List (Nat×DTy):=[(2,.int .i64),(3,.int .i64),(4,.bool),(5,.int .u8),(6,.int .u8),(9,.str),(10,.str),(11,.str),(12,.int .u64),(21,.int .i32),(23,.st 3),(24,.sl (.st 4)),(26,.st 4),(27,.sl (.st 5)),(29,.st 5),(31,.int .i64),(33,.sl (.st 6)),(34,.sl (.st 10)),(36,.st 11),(38,.sl (.st 7)),(40,.st 8),(43,.st 7),(44,.sl .str),(45,.sl (.st 9)),(47,.st 10),(49,.st 6),(55,.sl (.st 8)),(57,.st 9),(83,.sl (.st 12)),(86,.st 12),(91,.st 13),(103,.sl (.st 14)),(106,.st 14),(109,.sl (.int .u8)),(152,.int .u64),(196,.int .i64),(203,.int .u32),(205,.int .u64),(217,.st 0),(218,.st 1),(219,.st 2),(230,.int .i64),(236,.int .u64),(270,.st 15),(295,.int .u16),(335,.st 16),(344,.int .u8),(345,.int .u8),(347,.int .i32),(348,.int .i32)]
def datOw:Nat->Nat->Option Nat
 |10,2=>some 57
 |9,10=>some 40
 |8,4=>some 43
 |_,_=>none
def dat:Dat where
 T:=datT
 fl:=zex
 get:=λi=>match i with
  |0=>λ(x:zba)=>(x.e0,x.e1,x.e2,x.e3,x.e4,x.e5,x.e6,x.e7,())
  |1=>λ(x:zbc)=>(x.e0,x.e1,x.e2,x.e3,x.e4,x.e5,x.e6,())
  |2=>λ(x:zbm)=>(x.e0,x.e1,x.e2,x.e3,())
  |3=>λ(x:yz4)=>(x.num,x.den,())
  |4=>λ(x:zz0)=>(x.kind,x.num.num,x.num.den,x.truth,x.str,x.list,())
  |5=>λ(x:kz0)=>(x.op,x.value.kind,x.value.num.num,x.value.num.den,x.value.truth,x.value.str,x.value.list,x.name,x.args,())
  |6=>λ(x:kzh)=>(x.name,x.value.op,x.value.value.kind,x.value.value.num.num,x.value.value.num.den,x.value.value.truth,x.value.value.str,x.value.value.list,x.value.name,x.value.args,())
  |7=>λ(x:zzj)=>(x.kind,x.name,x.args,())
  |8=>λ(x:kz3)=>(x.kind,x.axis,x.name,x.args,x.items,())
  |9=>λ(x:kz6)=>(x.weight,x.when_.op,x.when_.value.kind,x.when_.value.num.num,x.when_.value.num.den,x.when_.value.truth,x.when_.value.str,x.when_.value.list,x.when_.name,x.when_.args,x.do_,())
  |10=>λ(x:yz5)=>(x.name,x.params,x.cases,())
  |11=>λ(x:yz0)=>(x.attrs,x.rules,())
  |12=>λ(x:yzq)=>(x.name,x.many,())
  |13=>λ(x:yzc)=>(x.p.attrs,x.p.rules,x.ok,())
  |14=>λ(x:z3s)=>(x.name,x.many,())
  |15=>λ(x:kz1)=>(x.s,())
  |16=>λ(x:zz2)=>(x.s,x.at_,x.ok,())
  |_+17=>λ_=>()
 make:=λi=>match i with
  |0=>λx=>zba.mk x.1 x.2.1 x.2.2.1 x.2.2.2.1 x.2.2.2.2.1 x.2.2.2.2.2.1 x.2.2.2.2.2.2.1 x.2.2.2.2.2.2.2.1
  |1=>λx=>zbc.mk x.1 x.2.1 x.2.2.1 x.2.2.2.1 x.2.2.2.2.1 x.2.2.2.2.2.1 x.2.2.2.2.2.2.1
  |2=>λx=>zbm.mk x.1 x.2.1 x.2.2.1 x.2.2.2.1
  |3=>λx=>yz4.mk x.1 x.2.1
  |4=>λx=>zz0.mk x.1 (yz4.mk x.2.1 x.2.2.1) x.2.2.2.1 x.2.2.2.2.1 x.2.2.2.2.2.1
  |5=>λx=>kz0.mk x.1 (zz0.mk x.2.1 (yz4.mk x.2.2.1 x.2.2.2.1) x.2.2.2.2.1 x.2.2.2.2.2.1 x.2.2.2.2.2.2.1) x.2.2.2.2.2.2.2.1 x.2.2.2.2.2.2.2.2.1
  |6=>λx=>kzh.mk x.1 (kz0.mk x.2.1 (zz0.mk x.2.2.1 (yz4.mk x.2.2.2.1 x.2.2.2.2.1) x.2.2.2.2.2.1 x.2.2.2.2.2.2.1 x.2.2.2.2.2.2.2.1) x.2.2.2.2.2.2.2.2.1 x.2.2.2.2.2.2.2.2.2.1)
  |7=>λx=>zzj.mk x.1 x.2.1 x.2.2.1
  |8=>λx=>kz3.mk x.1 x.2.1 x.2.2.1 x.2.2.2.1 x.2.2.2.2.1
  |9=>λx=>kz6.mk x.1 (kz0.mk x.2.1 (zz0.mk x.2.2.1 (yz4.mk x.2.2.2.1 x.2.2.2.2.1) x.2.2.2.2.2.1 x.2.2.2.2.2.2.1 x.2.2.2.2.2.2.2.1) x.2.2.2.2.2.2.2.2.1 x.2.2.2.2.2.2.2.2.2.1) x.2.2.2.2.2.2.2.2.2.2.1
  |10=>λx=>yz5.mk x.1 x.2.1 x.2.2.1
  |11=>λx=>yz0.mk x.1 x.2.1
  |12=>λx=>yzq.mk x.1 x.2.1
  |13=>λx=>yzc.mk (yz0.mk x.1 x.2.1) x.2.2.1
  |14=>λx=>z3s.mk x.1 x.2.1
  |15=>λx=>kz1.mk x.1
  |16=>λx=>zz2.mk x.1 x.2.1 x.2.2.1
  |_+17=>λ_=>()
 enc:=λi=>match i with
  |0=>zba.el
  |1=>zbc.el
  |2=>zbm.el
  |3=>yz4.el
  |4=>zz0.el
  |5=>kz0.el
  |6=>kzh.el
  |7=>zzj.el
  |8=>kz3.el
  |9=>kz6.el
  |10=>yz5.el
  |11=>yz0.el
  |12=>yzq.el
  |13=>yzc.el
  |14=>z3s.el
  |15=>kz1.el
  |16=>zz2.el
  |_+17=>λ_=>.agg []
 ty:=fnd yob
 ow:=datOw
theorem kze(P:Program):dat.Ok P where
 enc:=λi=>match i with
  |0=>λx=>zba.yzb x
  |1=>λx=>zbc.yzb x
  |2=>λx=>zbm.yzb x
  |3=>λx=>yz4.yzb x
  |4=>λx=>zz0.yzb x
  |5=>λx=>kz0.yzb x
  |6=>λx=>kzh.yzb x
  |7=>λx=>zzj.yzb x
  |8=>λx=>kz3.yzb x
  |9=>λx=>kz6.yzb x
  |10=>λx=>yz5.yzb x
  |11=>λx=>yz0.yzb x
  |12=>λx=>yzq.yzb x
  |13=>λx=>yzc.yzb x
  |14=>λx=>z3s.yzb x
  |15=>λx=>kz1.yzb x
  |16=>λx=>zz2.yzb x
  |_+17=>λ_=>rfl
 getMake:=λi=>match i with
  |0=>λx=>rfl
  |1=>λx=>rfl
  |2=>λx=>rfl
  |3=>λx=>rfl
  |4=>λx=>rfl
  |5=>λx=>rfl
  |6=>λx=>rfl
  |7=>λx=>rfl
  |8=>λx=>rfl
  |9=>λx=>rfl
  |10=>λx=>rfl
  |11=>λx=>rfl
  |12=>λx=>rfl
  |13=>λx=>rfl
  |14=>λx=>rfl
  |15=>λx=>rfl
  |16=>λx=>rfl
  |_+17=>λ_=>rfl
 flat:=λi=>match i with
  |0=>λt h=>by simp only[dat,zex,Qbl,List.not_mem_nil,or_false]at h;rcases h with rfl|rfl|rfl|rfl|rfl|rfl|rfl|rfl <;> trivial
  |1=>λt h=>by simp only[dat,zex,Qbl,List.not_mem_nil,or_false]at h;rcases h with rfl|rfl|rfl|rfl|rfl|rfl|rfl <;> trivial
  |2=>λt h=>by simp only[dat,zex,Qbl,List.not_mem_nil,or_false]at h;rcases h with rfl|rfl|rfl|rfl <;> trivial
  |3=>λt h=>by simp only[dat,zex,Qbl,List.not_mem_nil,or_false]at h;rcases h with rfl|rfl <;> trivial
  |4=>λt h=>by simp only[dat,zex,Qbl,List.not_mem_nil,or_false]at h;rcases h with rfl|rfl|rfl|rfl|rfl|rfl <;> trivial
  |5=>λt h=>by simp only[dat,zex,Qbl,List.not_mem_nil,or_false]at h;rcases h with rfl|rfl|rfl|rfl|rfl|rfl|rfl|rfl|rfl <;> trivial
  |6=>λt h=>by simp only[dat,zex,Qbl,List.not_mem_nil,or_false]at h;rcases h with rfl|rfl|rfl|rfl|rfl|rfl|rfl|rfl|rfl|rfl <;> trivial
  |7=>λt h=>by simp only[dat,zex,Qbl,List.not_mem_nil,or_false]at h;rcases h with rfl|rfl|rfl <;> trivial
  |8=>λt h=>by simp only[dat,zex,Qbl,List.not_mem_nil,or_false]at h;rcases h with rfl|rfl|rfl|rfl|rfl <;> trivial
  |9=>λt h=>by simp only[dat,zex,Qbl,List.not_mem_nil,or_false]at h;rcases h with rfl|rfl|rfl|rfl|rfl|rfl|rfl|rfl|rfl|rfl|rfl <;> trivial
  |10=>λt h=>by simp only[dat,zex,Qbl,List.not_mem_nil,or_false]at h;rcases h with rfl|rfl|rfl <;> trivial
  |11=>λt h=>by simp only[dat,zex,Qbl,List.not_mem_nil,or_false]at h;rcases h with rfl|rfl <;> trivial
  |12=>λt h=>by simp only[dat,zex,Qbl,List.not_mem_nil,or_false]at h;rcases h with rfl|rfl <;> trivial
  |13=>λt h=>by simp only[dat,zex,Qbl,List.not_mem_nil,or_false]at h;rcases h with rfl|rfl|rfl <;> trivial
  |14=>λt h=>by simp only[dat,zex,Qbl,List.not_mem_nil,or_false]at h;rcases h with rfl|rfl <;> trivial
  |15=>λt h=>by simp only[dat,zex,Qbl,List.not_mem_nil,or_false]at h;rcases h with rfl <;> trivial
  |16=>λt h=>by simp only[dat,zex,Qbl,List.not_mem_nil,or_false]at h;rcases h with rfl|rfl|rfl <;> trivial
  |_+17=>λt h=>by cases h
 ty:=λe t h=>by
  have:=z1i h;simp only[yob,Qbl,Qbz,List.not_mem_nil,or_false]at this
  rcases this with ⟨_,rfl⟩|⟨_,rfl⟩|⟨_,rfl⟩|⟨_,rfl⟩|⟨_,rfl⟩|⟨_,rfl⟩|⟨_,rfl⟩|⟨_,rfl⟩|⟨_,rfl⟩|⟨_,rfl⟩|⟨_,rfl⟩|⟨_,rfl⟩|⟨_,rfl⟩|⟨_,rfl⟩|⟨_,rfl⟩|⟨_,rfl⟩|⟨_,rfl⟩|⟨_,rfl⟩|⟨_,rfl⟩|⟨_,rfl⟩|⟨_,rfl⟩|⟨_,rfl⟩|⟨_,rfl⟩|⟨_,rfl⟩|⟨_,rfl⟩|⟨_,rfl⟩|⟨_,rfl⟩|⟨_,rfl⟩|⟨_,rfl⟩|⟨_,rfl⟩|⟨_,rfl⟩|⟨_,rfl⟩|⟨_,rfl⟩|⟨_,rfl⟩|⟨_,rfl⟩|⟨_,rfl⟩|⟨_,rfl⟩|⟨_,rfl⟩|⟨_,rfl⟩|⟨_,rfl⟩|⟨_,rfl⟩|⟨_,rfl⟩|⟨_,rfl⟩|⟨_,rfl⟩|⟨_,rfl⟩|⟨_,rfl⟩|⟨_,rfl⟩|⟨_,rfl⟩|⟨_,rfl⟩|⟨_,rfl⟩ <;> simp
 kin:=λi=>match i with
  |0=>λx _=>zba.kin x
  |1=>λx _=>zbc.kin x
  |2=>λx _=>zbm.kin x
  |3=>λx _=>yz4.kin x
  |4=>λx _=>zz0.kin x
  |5=>λx _=>kz0.kin x
  |6=>λx _=>kzh.kin x
  |7=>λx _=>zzj.kin x
  |8=>λx _=>kz3.kin x
  |9=>λx _=>kz6.kin x
  |10=>λx _=>yz5.kin x
  |11=>λx _=>yz0.kin x
  |12=>λx _=>yzq.kin x
  |13=>λx _=>yzc.kin x
  |14=>λx _=>z3s.kin x
  |15=>λx _=>kz1.kin x
  |16=>λx _=>zz2.kin x
  |_+17=>λ_ _=>by simp only[dat,V.kin,V.z7b]
def anb(l:List (Nat×Nat))(f:Func):AC:=(ann l (f.body.getD .skip) 0).1
abbrev dI:Sh:=.d (.int .i64)
abbrev dB:Sh:=.d .bool
abbrev dS:Sh:=.d .str
abbrev dU:Sh:=.d (.int .u8)
abbrev dA:Sh:=.d (.sl .str)
abbrev dT(i:Nat):Sh:=.d (.st i)
abbrev dL(i:Nat):Sh:=.d (.sl (.st i))
abbrev Ot:=Option
theorem tr{α:Type}{a b c:α}(h:a=b)(k:b=c:=by kernel_rfl):a=c:=h.trans k
def u1{a r x:Type}(f:a->r)(y:a×x):r:=f y.1
def u2{a b r x:Type}(f:a->b->r)(y:a×b×x):r:=u1 (f y.1) y.2
def u3{a b c r x:Type}(f:a->b->c->r)(y:a×b×c×x):r:=u2 (f y.1) y.2
def u4{a b c d r x:Type}(f:a->b->c->d->r)(y:a×b×c×d×x):r:=u3 (f y.1) y.2
def u5{a b c d e r x:Type}(f:a->b->c->d->e->r)(y:a×b×c×d×e×x):r:=u4 (f y.1) y.2
def u6{a b c d e g r x:Type}(f:a->b->c->d->e->g->r)(y:a×b×c×d×e×g×x):r:=u5 (f y.1) y.2
def u7{a b c d e g h r x:Type}(f:a->b->c->d->e->g->h->r)(y:a×b×c×d×e×g×h×x):r:=u6 (f y.1) y.2
def u8{a b c d e g h i r x:Type}(f:a->b->c->d->e->g->h->i->r)(y:a×b×c×d×e×g×h×i×x):r:=u7 (f y.1) y.2
def u9{a b c d e g h i j r x:Type}(f:a->b->c->d->e->g->h->i->j->r)(y:a×b×c×d×e×g×h×i×j×x):r:=u8 (f y.1) y.2
def u10{a b c d e g h i j k r x:Type}(f:a->b->c->d->e->g->h->i->j->k->r)(y:a×b×c×d×e×g×h×i×j×k×x):r:=u9 (f y.1) y.2
def u11{a b c d e g h i j k l r x:Type}(f:a->b->c->d->e->g->h->i->j->k->l->r)(y:a×b×c×d×e×g×h×i×j×k×l×x):r:=u10 (f y.1) y.2
theorem okG{R:Type}{P:Program}{D:Dat}{hD:D.Ok P}{f nt p:Nat}{args:List Sh}{aos:List OSh}{outs:List Sh}{ros:List OSh}{pure:Bool}{l:LSh}{pack:HL D.T l.tys->R}{un:R->HL D.T (Sh.zzl outs++yzj ros)}
  {go:Nat->HL D.T (Sh.zzl args++yzj aos)->Option R} {z02:Nat->List (Nat×Lb D R)}{c:AC}{gs:List Nat}{fn:Func}{bs:List (FI D)}(hbs:OkL P bs)
  (hf:P.funcs[f]? = some fn) (hnt:fn.ntmps=nt) (hent:∀args w,(callFunc f args).run P w = .ok (.enter f args) w)
  (hs:∀n x,go (n+1) x=run P D (tb bs n) (jump D (z02 n)) c (entry D args aos nt gs x) (zq8 D l pack))
  (hls:∀n,zol (λj lb=>∀x,lb.go x=zpr P D (tb bs n) (jump D (z02 n)) j c (zq8 D l pack) (lb.sh.bld D x)) (z02 (n+1)))
  (hb:fn.body=some c.erase) (hnd:decide c.labels.Nodup=true) (hchk:yex p nt args outs aos ros pure l c gs=true) (hp:∀n,zu2 p (z02 n)=true)
  (hout:∀x,zoh P D (l.bld D x) fn.results.toList=some (z08 D (λk=>k) outs (HL.fst _ (un (pack x)))))
  (hz:∀x,go 0 x=none) (hlz:zol (λ_ lb=>∀x,lb.go x=none) (z02 0))
  (hros:∀x,pure=true∨(l.bld D x).o=z1j D (λk=>k) ros 0 (HL.snd _ (un (pack x)))) (hrng:c.zg7=[]) :
  FOk P (FI.of D f nt p args aos outs ros pure l pack un go z02 c gs) :=
 (zko hD hbs (FI.z2e (hD:=hD) hf hnt hent hb (Qac hnd) hchk hp hout hz hlz hs hls hros hrng)).1
theorem okF{R:Type}{f nt p:Nat}{args:List Sh}{aos:List OSh}{outs:List Sh}{ros:List OSh}{pure:Bool}{l:LSh}{pack:HL dat.T l.tys->R}{un:R->HL dat.T (Sh.zzl outs++yzj ros)}
  {go:Nat->HL dat.T (Sh.zzl args++yzj aos)->Option R} {z02:Nat->List (Nat×Lb dat R)}{c:AC}{gs:List Nat}{fn:Func}{P:Program}{bs:List (FI dat)}(hbs:OkL P bs)
  (hf:P.funcs[f]? = some fn) (hnt:fn.ntmps=nt) (hent:∀args w,(callFunc f args).run P w = .ok (.enter f args) w)
  (hs:∀n x,go (n+1) x=run P dat (tb bs n) (jump dat (z02 n)) c (entry dat args aos nt gs x) (zq8 dat l pack))
  (hls:∀n,zol (λj lb=>∀x,lb.go x=zpr P dat (tb bs n) (jump dat (z02 n)) j c (zq8 dat l pack) (lb.sh.bld dat x)) (z02 (n+1)))
  (hb:fn.body=some c.erase:=by kernel_rfl) (hnd:decide c.labels.Nodup=true:=by kernel_rfl) (hchk:yex p nt args outs aos ros pure l c gs=true:=by kernel_rfl) (hp:∀n,zu2 p (z02 n)=true:=by exact λn=>by kernel_rfl)
  (hout:∀x,zoh P dat (l.bld dat x) fn.results.toList=some (z08 dat (λk=>k) outs (HL.fst _ (un (pack x)))):=by exact λx=>by kernel_rfl)
  (hz:∀x,go 0 x=none:=by exact λ_=>rfl) (hlz:zol (λ_ lb=>∀x,lb.go x=none) (z02 0):=by repeat (first|exact trivial|refine⟨λ_=>rfl,?_⟩))
  (hros:∀x,pure=true∨(l.bld dat x).o=z1j dat (λk=>k) ros 0 (HL.snd _ (un (pack x))):=by first|exact λx=>.inl rfl|exact λx=>.inr (by kernel_rfl)) (hrng:c.zg7=[]:=by kernel_rfl) :
  FOk P (FI.of dat f nt p args aos outs ros pure l pack un go z02 c gs) :=
 okG (hD:=kze P) hbs hf hnt hent hs hls hb hnd hchk hp hout hz hlz hros hrng
end Go.Ab
namespace Go.Proofs
open Go.Shelf
open Go.Proofs.Tryz
def ydv:Go.Shelf.Ren:=⟨λ|137=>99|217=>154|266=>198|n=>n,λ|9=>9|5=>5|3=>3|n=>n,λ|n=>n⟩
theorem ypn:Go.Proofs.Lays.n137 prog ydv:={
 mixed:=by kernel_rfl
 f137:=func99.trans (congrArg some (by kernel_rfl))
 f217:=func154.trans (congrArg some (by kernel_rfl))
 f266:=func198.trans (congrArg some (by kernel_rfl))
 t3:=underlying3
 a3:=isAgg3
 z3:=sizeOf3
 v3:=zeroValue3
 t5:=underlying5
 a5:=isAgg5
 z5:=sizeOf5
 v5:=zeroValue5
 t9:=underlying9
 a9:=isAgg9
 z9:=sizeOf9
 v9:=zeroValue9}
def ycf:Go.Shelf.Ren:=⟨λ|190=>46|125=>109|258=>108|128=>171|129=>172|302=>162|303=>163|304=>164|305=>165|306=>166|307=>167|308=>168|309=>169|310=>170|333=>209|329=>210|330=>211|334=>212|335=>213|336=>214|344=>251|n=>n,λ|31=>44|9=>9|3=>3|46=>152|0=>0|51=>203|53=>205|4=>4|183=>197|182=>196|131=>79|5=>5|218=>236|222=>240|228=>282|229=>183|n=>n,λ|n=>n⟩
theorem yih:Go.Proofs.Lays.n190 prog ycf:={
 mixed:=by kernel_rfl
 f125:=func109.trans (congrArg some (by kernel_rfl))
 f128:=func171.trans (congrArg some (by kernel_rfl))
 f129:=func172.trans (congrArg some (by kernel_rfl))
 f190:=func46.trans (congrArg some (by kernel_rfl))
 f258:=func108.trans (congrArg some (by kernel_rfl))
 f302:=func162.trans (congrArg some (by kernel_rfl))
 f303:=func163.trans (congrArg some (by kernel_rfl))
 f304:=func164.trans (congrArg some (by kernel_rfl))
 f305:=func165.trans (congrArg some (by kernel_rfl))
 f306:=func166.trans (congrArg some (by kernel_rfl))
 f307:=func167.trans (congrArg some (by kernel_rfl))
 f308:=func168.trans (congrArg some (by kernel_rfl))
 f309:=func169.trans (congrArg some (by kernel_rfl))
 f310:=func170.trans (congrArg some (by kernel_rfl))
 f329:=func210.trans (congrArg some (by kernel_rfl))
 f330:=func211.trans (congrArg some (by kernel_rfl))
 f333:=func209.trans (congrArg some (by kernel_rfl))
 f334:=func212.trans (congrArg some (by kernel_rfl))
 f335:=func213.trans (congrArg some (by kernel_rfl))
 f336:=func214.trans (congrArg some (by kernel_rfl))
 f344:=func251.trans (congrArg some (by kernel_rfl))
 t0:=underlying0
 a0:=isAgg0
 z0:=sizeOf0
 v0:=zeroValue0
 t3:=underlying3
 a3:=isAgg3
 z3:=sizeOf3
 v3:=zeroValue3
 t4:=underlying4
 a4:=isAgg4
 z4:=sizeOf4
 v4:=zeroValue4
 t5:=underlying5
 a5:=isAgg5
 z5:=sizeOf5
 v5:=zeroValue5
 t9:=underlying9
 a9:=isAgg9
 z9:=sizeOf9
 v9:=zeroValue9
 t31:=underlying44
 a31:=isAgg44
 z31:=sizeOf44
 v31:=zeroValue44
 t46:=underlying152
 a46:=isAgg152
 z46:=sizeOf152
 v46:=zeroValue152
 t51:=underlying203
 a51:=isAgg203
 z51:=sizeOf203
 v51:=zeroValue203
 t53:=underlying205
 a53:=isAgg205
 z53:=sizeOf205
 v53:=zeroValue205
 t131:=underlying79
 a131:=isAgg79
 z131:=sizeOf79
 v131:=zeroValue79
 t182:=underlying196
 a182:=isAgg196
 z182:=sizeOf196
 v182:=zeroValue196
 t183:=underlying197
 a183:=isAgg197
 z183:=sizeOf197
 v183:=zeroValue197
 t218:=underlying236
 a218:=isAgg236
 z218:=sizeOf236
 v218:=zeroValue236
 t222:=underlying240
 a222:=isAgg240
 z222:=sizeOf240
 v222:=zeroValue240
 t228:=underlying282
 a228:=isAgg282
 z228:=sizeOf282
 v228:=zeroValue282
 t229:=underlying183
 a229:=isAgg183
 z229:=sizeOf183
 v229:=zeroValue183}
def yei:Go.Shelf.Ren:=⟨λ|194=>47|n=>n,λ|31=>44|9=>9|3=>3|4=>4|0=>0|n=>n,λ|n=>n⟩
theorem yhw:Go.Proofs.Lays.n194 prog yei:={
 mixed:=by kernel_rfl
 f194:=func47.trans (congrArg some (by kernel_rfl))
 t0:=underlying0
 a0:=isAgg0
 z0:=sizeOf0
 v0:=zeroValue0
 t3:=underlying3
 a3:=isAgg3
 z3:=sizeOf3
 v3:=zeroValue3
 t4:=underlying4
 a4:=isAgg4
 z4:=sizeOf4
 v4:=zeroValue4
 t9:=underlying9
 a9:=isAgg9
 z9:=sizeOf9
 v9:=zeroValue9
 t31:=underlying44
 a31:=isAgg44
 z31:=sizeOf44
 v31:=zeroValue44}
def zy1:Go.Shelf.Ren:=⟨λ|146=>102|221=>157|268=>201|138=>202|143=>203|195=>245|197=>246|218=>247|219=>199|260=>274|217=>154|225=>239|224=>240|267=>241|266=>198|314=>268|n=>n,λ|9=>9|31=>44|3=>3|4=>4|0=>0|105=>274|21=>21|5=>5|46=>152|119=>213|139=>328|138=>327|146=>306|51=>203|n=>n,λ|1=>2|3=>6|4=>7|n=>n⟩
theorem y8h:Go.Proofs.Lays.n146 prog zy1:={
 mixed:=by kernel_rfl
 f138:=func202.trans (congrArg some (by kernel_rfl))
 f143:=func203.trans (congrArg some (by kernel_rfl))
 f146:=func102.trans (congrArg some (by kernel_rfl))
 f195:=func245.trans (congrArg some (by kernel_rfl))
 f197:=func246.trans (congrArg some (by kernel_rfl))
 f217:=func154.trans (congrArg some (by kernel_rfl))
 f218:=func247.trans (congrArg some (by kernel_rfl))
 f219:=func199.trans (congrArg some (by kernel_rfl))
 f221:=func157.trans (congrArg some (by kernel_rfl))
 f224:=func240.trans (congrArg some (by kernel_rfl))
 f225:=func239.trans (congrArg some (by kernel_rfl))
 f260:=func274.trans (congrArg some (by kernel_rfl))
 f266:=func198.trans (congrArg some (by kernel_rfl))
 f267:=func241.trans (congrArg some (by kernel_rfl))
 f268:=func201.trans (congrArg some (by kernel_rfl))
 f314:=func268.trans (congrArg some (by kernel_rfl))
 t0:=underlying0
 a0:=isAgg0
 z0:=sizeOf0
 v0:=zeroValue0
 t3:=underlying3
 a3:=isAgg3
 z3:=sizeOf3
 v3:=zeroValue3
 t4:=underlying4
 a4:=isAgg4
 z4:=sizeOf4
 v4:=zeroValue4
 t5:=underlying5
 a5:=isAgg5
 z5:=sizeOf5
 v5:=zeroValue5
 t9:=underlying9
 a9:=isAgg9
 z9:=sizeOf9
 v9:=zeroValue9
 t21:=underlying21
 a21:=isAgg21
 z21:=sizeOf21
 v21:=zeroValue21
 t31:=underlying44
 a31:=isAgg44
 z31:=sizeOf44
 v31:=zeroValue44
 t46:=underlying152
 a46:=isAgg152
 z46:=sizeOf152
 v46:=zeroValue152
 t51:=underlying203
 a51:=isAgg203
 z51:=sizeOf203
 v51:=zeroValue203
 t105:=underlying274
 a105:=isAgg274
 z105:=sizeOf274
 v105:=zeroValue274
 t119:=underlying213
 a119:=isAgg213
 z119:=sizeOf213
 t138:=underlying327
 a138:=isAgg327
 z138:=sizeOf327
 v138:=zeroValue327
 t139:=underlying328
 a139:=isAgg328
 z139:=sizeOf328
 v139:=zeroValue328
 t146:=underlying306
 a146:=isAgg306
 z146:=sizeOf306
 v146:=zeroValue306
 g1:=by kernel_rfl
 g3:=by kernel_rfl
 g4:=by kernel_rfl}
def zy8:Go.Shelf.Ren:=⟨λ|156=>60|165=>123|166=>59|169=>66|240=>122|241=>180|276=>179|277=>223|n=>n,λ|31=>44|9=>9|3=>3|4=>4|0=>0|20=>20|72=>111|76=>114|70=>108|37=>109|75=>113|127=>163|164=>209|5=>5|80=>123|n=>n,λ|n=>n⟩
theorem y8l:Go.Proofs.Lays.n156 prog zy8:={
 mixed:=by kernel_rfl
 f156:=func60.trans (congrArg some (by kernel_rfl))
 f165:=func123.trans (congrArg some (by kernel_rfl))
 f166:=func59.trans (congrArg some (by kernel_rfl))
 f169:=func66.trans (congrArg some (by kernel_rfl))
 f240:=func122.trans (congrArg some (by kernel_rfl))
 f241:=func180.trans (congrArg some (by kernel_rfl))
 f276:=func179.trans (congrArg some (by kernel_rfl))
 f277:=func223.trans (congrArg some (by kernel_rfl))
 t0:=underlying0
 a0:=isAgg0
 z0:=sizeOf0
 v0:=zeroValue0
 t3:=underlying3
 a3:=isAgg3
 z3:=sizeOf3
 v3:=zeroValue3
 t4:=underlying4
 a4:=isAgg4
 z4:=sizeOf4
 v4:=zeroValue4
 t9:=underlying9
 a9:=isAgg9
 z9:=sizeOf9
 v9:=zeroValue9
 t20:=underlying20
 a20:=isAgg20
 z20:=sizeOf20
 v20:=zeroValue20
 t31:=underlying44
 a31:=isAgg44
 z31:=sizeOf44
 v31:=zeroValue44
 t37:=underlying109
 a37:=isAgg109
 z37:=sizeOf109
 v37:=zeroValue109
 t70:=underlying108
 a70:=isAgg108
 z70:=sizeOf108
 v70:=zeroValue108
 t72:=underlying111
 a72:=isAgg111
 z72:=sizeOf111
 v72:=zeroValue111
 t75:=underlying113
 a75:=isAgg113
 z75:=sizeOf113
 v75:=zeroValue113
 t76:=underlying114
 a76:=isAgg114
 z76:=sizeOf114
 v76:=zeroValue114
 t127:=underlying163
 a127:=isAgg163
 z127:=sizeOf163
 v127:=zeroValue163
 t164:=underlying209
 a164:=isAgg209
 z164:=sizeOf209
 v164:=zeroValue209}
def yey:Go.Shelf.Ren:=⟨λ|157=>126|229=>184|199=>185|261=>229|311=>261|312=>262|n=>n,λ|9=>9|31=>44|3=>3|5=>5|4=>4|119=>213|0=>0|40=>215|152=>252|21=>21|154=>254|51=>203|141=>256|196=>294|193=>291|198=>297|49=>295|194=>292|201=>300|226=>314|46=>152|227=>315|n=>n,λ|0=>0|6=>1|n=>n⟩
theorem ypy:Go.Proofs.Lays.n157 prog yey:={
 mixed:=by kernel_rfl
 f157:=func126.trans (congrArg some (by kernel_rfl))
 f199:=func185.trans (congrArg some (by kernel_rfl))
 f229:=func184.trans (congrArg some (by kernel_rfl))
 f261:=func229.trans (congrArg some (by kernel_rfl))
 f311:=func261.trans (congrArg some (by kernel_rfl))
 f312:=func262.trans (congrArg some (by kernel_rfl))
 t0:=underlying0
 a0:=isAgg0
 z0:=sizeOf0
 v0:=zeroValue0
 t3:=underlying3
 a3:=isAgg3
 z3:=sizeOf3
 v3:=zeroValue3
 t4:=underlying4
 a4:=isAgg4
 z4:=sizeOf4
 v4:=zeroValue4
 t5:=underlying5
 a5:=isAgg5
 z5:=sizeOf5
 v5:=zeroValue5
 t9:=underlying9
 a9:=isAgg9
 z9:=sizeOf9
 v9:=zeroValue9
 t21:=underlying21
 a21:=isAgg21
 z21:=sizeOf21
 v21:=zeroValue21
 t31:=underlying44
 a31:=isAgg44
 z31:=sizeOf44
 v31:=zeroValue44
 t40:=underlying215
 a40:=isAgg215
 z40:=sizeOf215
 v40:=zeroValue215
 t46:=underlying152
 a46:=isAgg152
 z46:=sizeOf152
 v46:=zeroValue152
 t49:=underlying295
 a49:=isAgg295
 z49:=sizeOf295
 v49:=zeroValue295
 t51:=underlying203
 a51:=isAgg203
 z51:=sizeOf203
 v51:=zeroValue203
 t119:=underlying213
 a119:=isAgg213
 z119:=sizeOf213
 t141:=underlying256
 a141:=isAgg256
 z141:=sizeOf256
 v141:=zeroValue256
 t152:=underlying252
 a152:=isAgg252
 z152:=sizeOf252
 v152:=zeroValue252
 t154:=underlying254
 a154:=isAgg254
 z154:=sizeOf254
 v154:=zeroValue254
 t193:=underlying291
 a193:=isAgg291
 z193:=sizeOf291
 v193:=zeroValue291
 t194:=underlying292
 a194:=isAgg292
 z194:=sizeOf292
 v194:=zeroValue292
 t196:=underlying294
 a196:=isAgg294
 z196:=sizeOf294
 v196:=zeroValue294
 t198:=underlying297
 a198:=isAgg297
 z198:=sizeOf297
 v198:=zeroValue297
 t201:=underlying300
 a201:=isAgg300
 z201:=sizeOf300
 v201:=zeroValue300
 t226:=underlying314
 a226:=isAgg314
 z226:=sizeOf314
 v226:=zeroValue314
 t227:=underlying315
 a227:=isAgg315
 z227:=sizeOf315
 v227:=zeroValue315
 g0:=by kernel_rfl
 g6:=by kernel_rfl}
def zy2:Go.Shelf.Ren:=⟨λ|169=>66|n=>n,λ|70=>108|9=>9|0=>0|72=>111|37=>109|127=>163|3=>3|5=>5|n=>n,λ|n=>n⟩
theorem y8q:Go.Proofs.Lays.n169 prog zy2:={
 mixed:=by kernel_rfl
 f169:=func66.trans (congrArg some (by kernel_rfl))
 t0:=underlying0
 a0:=isAgg0
 z0:=sizeOf0
 v0:=zeroValue0
 t3:=underlying3
 a3:=isAgg3
 z3:=sizeOf3
 v3:=zeroValue3
 t9:=underlying9
 a9:=isAgg9
 z9:=sizeOf9
 v9:=zeroValue9
 t37:=underlying109
 a37:=isAgg109
 z37:=sizeOf109
 v37:=zeroValue109
 t70:=underlying108
 a70:=isAgg108
 z70:=sizeOf108
 v70:=zeroValue108
 t72:=underlying111
 a72:=isAgg111
 z72:=sizeOf111
 v72:=zeroValue111
 t127:=underlying163
 a127:=isAgg163
 z127:=sizeOf163
 v127:=zeroValue163}
def ybu:Go.Shelf.Ren:=⟨λ|217=>154|266=>198|n=>n,λ|9=>9|5=>5|3=>3|n=>n,λ|n=>n⟩
theorem yqd:Go.Proofs.Lays.n217 prog ybu:={
 mixed:=by kernel_rfl
 f217:=func154.trans (congrArg some (by kernel_rfl))
 f266:=func198.trans (congrArg some (by kernel_rfl))
 t3:=underlying3
 a3:=isAgg3
 z3:=sizeOf3
 v3:=zeroValue3
 t5:=underlying5
 a5:=isAgg5
 z5:=sizeOf5
 v5:=zeroValue5
 t9:=underlying9
 a9:=isAgg9
 z9:=sizeOf9
 v9:=zeroValue9}
def ye0:Go.Shelf.Ren:=⟨λ|219=>199|217=>154|225=>239|224=>240|267=>241|266=>198|314=>268|n=>n,λ|9=>9|3=>3|4=>4|5=>5|46=>152|146=>306|51=>203|n=>n,λ|1=>2|n=>n⟩
theorem yq8:Go.Proofs.Lays.n219 prog ye0:={
 mixed:=by kernel_rfl
 f217:=func154.trans (congrArg some (by kernel_rfl))
 f219:=func199.trans (congrArg some (by kernel_rfl))
 f224:=func240.trans (congrArg some (by kernel_rfl))
 f225:=func239.trans (congrArg some (by kernel_rfl))
 f266:=func198.trans (congrArg some (by kernel_rfl))
 f267:=func241.trans (congrArg some (by kernel_rfl))
 f314:=func268.trans (congrArg some (by kernel_rfl))
 t3:=underlying3
 a3:=isAgg3
 z3:=sizeOf3
 v3:=zeroValue3
 t4:=underlying4
 a4:=isAgg4
 z4:=sizeOf4
 v4:=zeroValue4
 t5:=underlying5
 a5:=isAgg5
 z5:=sizeOf5
 v5:=zeroValue5
 t9:=underlying9
 a9:=isAgg9
 z9:=sizeOf9
 v9:=zeroValue9
 t46:=underlying152
 a46:=isAgg152
 z46:=sizeOf152
 v46:=zeroValue152
 t51:=underlying203
 a51:=isAgg203
 z51:=sizeOf203
 v51:=zeroValue203
 t146:=underlying306
 a146:=isAgg306
 z146:=sizeOf306
 v146:=zeroValue306
 g1:=by kernel_rfl}
def y9c:Go.Shelf.Ren:=⟨λ|171=>63|243=>125|246=>183|283=>225|284=>226|285=>227|286=>228|129=>172|317=>257|318=>258|319=>259|320=>260|337=>279|338=>280|n=>n,λ|3=>3|9=>9|2=>2|4=>4|171=>248|0=>0|53=>205|37=>109|5=>5|173=>250|212=>288|51=>203|20=>20|213=>289|46=>152|232=>329|233=>330|n=>n,λ|17=>5|18=>8|19=>9|n=>n⟩
theorem ym9:Go.Proofs.LaysM.n171 prog y9c:={
 mixed:=by kernel_rfl
 f129:=func172.trans (congrArg some (by kernel_rfl))
 f171:=func63.trans (congrArg some (by kernel_rfl))
 f243:=func125.trans (congrArg some (by kernel_rfl))
 f246:=func183.trans (congrArg some (by kernel_rfl))
 f283:=func225.trans (congrArg some (by kernel_rfl))
 f284:=func226.trans (congrArg some (by kernel_rfl))
 f285:=func227.trans (congrArg some (by kernel_rfl))
 f286:=func228.trans (congrArg some (by kernel_rfl))
 f317:=func257.trans (congrArg some (by kernel_rfl))
 f318:=func258.trans (congrArg some (by kernel_rfl))
 f319:=func259.trans (congrArg some (by kernel_rfl))
 f320:=func260.trans (congrArg some (by kernel_rfl))
 f337:=func279.trans (congrArg some (by kernel_rfl))
 f338:=func280.trans (congrArg some (by kernel_rfl))
 t0:=underlying0
 a0:=isAgg0
 z0:=sizeOf0
 v0:=zeroValue0
 t2:=underlying2
 a2:=isAgg2
 z2:=sizeOf2
 v2:=zeroValue2
 t3:=underlying3
 a3:=isAgg3
 z3:=sizeOf3
 v3:=zeroValue3
 t4:=underlying4
 a4:=isAgg4
 z4:=sizeOf4
 v4:=zeroValue4
 t5:=underlying5
 a5:=isAgg5
 z5:=sizeOf5
 v5:=zeroValue5
 t9:=underlying9
 a9:=isAgg9
 z9:=sizeOf9
 v9:=zeroValue9
 t20:=underlying20
 a20:=isAgg20
 z20:=sizeOf20
 v20:=zeroValue20
 t37:=underlying109
 a37:=isAgg109
 z37:=sizeOf109
 v37:=zeroValue109
 t46:=underlying152
 a46:=isAgg152
 z46:=sizeOf152
 v46:=zeroValue152
 t51:=underlying203
 a51:=isAgg203
 z51:=sizeOf203
 v51:=zeroValue203
 t53:=underlying205
 a53:=isAgg205
 z53:=sizeOf205
 v53:=zeroValue205
 t171:=underlying248
 a171:=isAgg248
 z171:=sizeOf248
 v171:=zeroValue248
 t173:=underlying250
 a173:=isAgg250
 z173:=sizeOf250
 v173:=zeroValue250
 t212:=underlying288
 a212:=isAgg288
 z212:=sizeOf288
 v212:=zeroValue288
 t213:=underlying289
 a213:=isAgg289
 z213:=sizeOf289
 t232:=underlying329
 a232:=isAgg329
 z232:=sizeOf329
 v232:=zeroValue329
 t233:=underlying330
 a233:=isAgg330
 z233:=sizeOf330
 v233:=zeroValue330
 g17:=by kernel_rfl
 g18:=by kernel_rfl
 g19:=by kernel_rfl
 i0:=by kernel_rfl
 i2:=by kernel_rfl
 i3:=by kernel_rfl
 i4:=by kernel_rfl
 i5:=by kernel_rfl
 i9:=by kernel_rfl
 i20:=by kernel_rfl
 i37:=by kernel_rfl
 i46:=by kernel_rfl
 i51:=by kernel_rfl
 i53:=by kernel_rfl
 i171:=by kernel_rfl
 i173:=by kernel_rfl
 i212:=by kernel_rfl
 i232:=by kernel_rfl
 i233:=by kernel_rfl
 m17:=by kernel_rfl
 m18:=by kernel_rfl
 m19:=by kernel_rfl}
def yai:Go.Shelf.Ren:=⟨λ|173=>277|246=>183|283=>225|284=>226|285=>227|286=>228|129=>172|317=>257|318=>258|319=>259|320=>260|337=>279|338=>280|n=>n,λ|2=>2|3=>3|9=>9|4=>4|171=>248|0=>0|53=>205|37=>109|5=>5|173=>250|212=>288|51=>203|20=>20|213=>289|46=>152|232=>329|233=>330|n=>n,λ|17=>5|18=>8|19=>9|n=>n⟩
theorem ymd:Go.Proofs.LaysM.n173 prog yai:={
 mixed:=by kernel_rfl
 f129:=func172.trans (congrArg some (by kernel_rfl))
 f173:=func277.trans (congrArg some (by kernel_rfl))
 f246:=func183.trans (congrArg some (by kernel_rfl))
 f283:=func225.trans (congrArg some (by kernel_rfl))
 f284:=func226.trans (congrArg some (by kernel_rfl))
 f285:=func227.trans (congrArg some (by kernel_rfl))
 f286:=func228.trans (congrArg some (by kernel_rfl))
 f317:=func257.trans (congrArg some (by kernel_rfl))
 f318:=func258.trans (congrArg some (by kernel_rfl))
 f319:=func259.trans (congrArg some (by kernel_rfl))
 f320:=func260.trans (congrArg some (by kernel_rfl))
 f337:=func279.trans (congrArg some (by kernel_rfl))
 f338:=func280.trans (congrArg some (by kernel_rfl))
 t0:=underlying0
 a0:=isAgg0
 z0:=sizeOf0
 v0:=zeroValue0
 t2:=underlying2
 a2:=isAgg2
 z2:=sizeOf2
 v2:=zeroValue2
 t3:=underlying3
 a3:=isAgg3
 z3:=sizeOf3
 v3:=zeroValue3
 t4:=underlying4
 a4:=isAgg4
 z4:=sizeOf4
 v4:=zeroValue4
 t5:=underlying5
 a5:=isAgg5
 z5:=sizeOf5
 v5:=zeroValue5
 t9:=underlying9
 a9:=isAgg9
 z9:=sizeOf9
 v9:=zeroValue9
 t20:=underlying20
 a20:=isAgg20
 z20:=sizeOf20
 v20:=zeroValue20
 t37:=underlying109
 a37:=isAgg109
 z37:=sizeOf109
 v37:=zeroValue109
 t46:=underlying152
 a46:=isAgg152
 z46:=sizeOf152
 v46:=zeroValue152
 t51:=underlying203
 a51:=isAgg203
 z51:=sizeOf203
 v51:=zeroValue203
 t53:=underlying205
 a53:=isAgg205
 z53:=sizeOf205
 v53:=zeroValue205
 t171:=underlying248
 a171:=isAgg248
 z171:=sizeOf248
 v171:=zeroValue248
 t173:=underlying250
 a173:=isAgg250
 z173:=sizeOf250
 v173:=zeroValue250
 t212:=underlying288
 a212:=isAgg288
 z212:=sizeOf288
 v212:=zeroValue288
 t213:=underlying289
 a213:=isAgg289
 z213:=sizeOf289
 t232:=underlying329
 a232:=isAgg329
 z232:=sizeOf329
 v232:=zeroValue329
 t233:=underlying330
 a233:=isAgg330
 z233:=sizeOf330
 v233:=zeroValue330
 g17:=by kernel_rfl
 g18:=by kernel_rfl
 g19:=by kernel_rfl
 i0:=by kernel_rfl
 i2:=by kernel_rfl
 i3:=by kernel_rfl
 i4:=by kernel_rfl
 i5:=by kernel_rfl
 i9:=by kernel_rfl
 i20:=by kernel_rfl
 i37:=by kernel_rfl
 i46:=by kernel_rfl
 i51:=by kernel_rfl
 i53:=by kernel_rfl
 i171:=by kernel_rfl
 i173:=by kernel_rfl
 i212:=by kernel_rfl
 i232:=by kernel_rfl
 i233:=by kernel_rfl
 m17:=by kernel_rfl
 m18:=by kernel_rfl
 m19:=by kernel_rfl}
def y8e:Go.Shelf.Ren:=⟨λ|172=>103|244=>158|245=>159|247=>204|279=>205|280=>206|281=>207|282=>208|287=>248|316=>249|171=>63|205=>250|321=>275|322=>276|243=>125|246=>183|283=>225|284=>226|285=>227|286=>228|129=>172|317=>257|318=>258|319=>259|320=>260|337=>279|338=>280|n=>n,λ|9=>9|3=>3|75=>113|76=>114|4=>4|5=>5|167=>230|37=>109|0=>0|85=>231|2=>2|168=>233|53=>205|175=>276|46=>152|210=>280|127=>163|145=>312|143=>310|21=>21|171=>248|173=>250|212=>288|51=>203|20=>20|213=>289|232=>329|233=>330|80=>123|n=>n,λ|15=>3|16=>4|17=>5|18=>8|19=>9|n=>n⟩
theorem y48:Go.Proofs.LaysC.n172 prog y8e:={
 mixed:=by kernel_rfl
 f129:=func172.trans (congrArg some (by kernel_rfl))
 f171:=func63.trans (congrArg some (by kernel_rfl))
 f172:=func103.trans (congrArg some (by kernel_rfl))
 f205:=func250.trans (congrArg some (by kernel_rfl))
 f243:=func125.trans (congrArg some (by kernel_rfl))
 f244:=func158.trans (congrArg some (by kernel_rfl))
 f245:=func159.trans (congrArg some (by kernel_rfl))
 f246:=func183.trans (congrArg some (by kernel_rfl))
 f247:=func204.trans (congrArg some (by kernel_rfl))
 f279:=func205.trans (congrArg some (by kernel_rfl))
 f280:=func206.trans (congrArg some (by kernel_rfl))
 f281:=func207.trans (congrArg some (by kernel_rfl))
 f282:=func208.trans (congrArg some (by kernel_rfl))
 f283:=func225.trans (congrArg some (by kernel_rfl))
 f284:=func226.trans (congrArg some (by kernel_rfl))
 f285:=func227.trans (congrArg some (by kernel_rfl))
 f286:=func228.trans (congrArg some (by kernel_rfl))
 f287:=func248.trans (congrArg some (by kernel_rfl))
 f316:=func249.trans (congrArg some (by kernel_rfl))
 f317:=func257.trans (congrArg some (by kernel_rfl))
 f318:=func258.trans (congrArg some (by kernel_rfl))
 f319:=func259.trans (congrArg some (by kernel_rfl))
 f320:=func260.trans (congrArg some (by kernel_rfl))
 f321:=func275.trans (congrArg some (by kernel_rfl))
 f322:=func276.trans (congrArg some (by kernel_rfl))
 f337:=func279.trans (congrArg some (by kernel_rfl))
 f338:=func280.trans (congrArg some (by kernel_rfl))
 t0:=underlying0
 a0:=isAgg0
 z0:=sizeOf0
 v0:=zeroValue0
 t2:=underlying2
 a2:=isAgg2
 z2:=sizeOf2
 v2:=zeroValue2
 t3:=underlying3
 a3:=isAgg3
 z3:=sizeOf3
 v3:=zeroValue3
 t4:=underlying4
 a4:=isAgg4
 z4:=sizeOf4
 v4:=zeroValue4
 t5:=underlying5
 a5:=isAgg5
 z5:=sizeOf5
 v5:=zeroValue5
 t9:=underlying9
 a9:=isAgg9
 z9:=sizeOf9
 v9:=zeroValue9
 t20:=underlying20
 a20:=isAgg20
 z20:=sizeOf20
 v20:=zeroValue20
 t21:=underlying21
 a21:=isAgg21
 z21:=sizeOf21
 v21:=zeroValue21
 t37:=underlying109
 a37:=isAgg109
 z37:=sizeOf109
 v37:=zeroValue109
 t46:=underlying152
 a46:=isAgg152
 z46:=sizeOf152
 v46:=zeroValue152
 t51:=underlying203
 a51:=isAgg203
 z51:=sizeOf203
 v51:=zeroValue203
 t53:=underlying205
 a53:=isAgg205
 z53:=sizeOf205
 v53:=zeroValue205
 t75:=underlying113
 a75:=isAgg113
 z75:=sizeOf113
 v75:=zeroValue113
 t76:=underlying114
 a76:=isAgg114
 z76:=sizeOf114
 v76:=zeroValue114
 t85:=underlying231
 a85:=isAgg231
 z85:=sizeOf231
 v85:=zeroValue231
 t127:=underlying163
 a127:=isAgg163
 z127:=sizeOf163
 v127:=zeroValue163
 t143:=underlying310
 a143:=isAgg310
 z143:=sizeOf310
 v143:=zeroValue310
 t145:=underlying312
 a145:=isAgg312
 z145:=sizeOf312
 v145:=zeroValue312
 t167:=underlying230
 a167:=isAgg230
 z167:=sizeOf230
 v167:=zeroValue230
 t168:=underlying233
 a168:=isAgg233
 z168:=sizeOf233
 v168:=zeroValue233
 t171:=underlying248
 a171:=isAgg248
 z171:=sizeOf248
 v171:=zeroValue248
 t173:=underlying250
 a173:=isAgg250
 z173:=sizeOf250
 v173:=zeroValue250
 t175:=underlying276
 a175:=isAgg276
 z175:=sizeOf276
 v175:=zeroValue276
 t210:=underlying280
 a210:=isAgg280
 z210:=sizeOf280
 v210:=zeroValue280
 t212:=underlying288
 a212:=isAgg288
 z212:=sizeOf288
 v212:=zeroValue288
 t213:=underlying289
 a213:=isAgg289
 z213:=sizeOf289
 t232:=underlying329
 a232:=isAgg329
 z232:=sizeOf329
 v232:=zeroValue329
 t233:=underlying330
 a233:=isAgg330
 z233:=sizeOf330
 v233:=zeroValue330
 g15:=by kernel_rfl
 g16:=by kernel_rfl
 g17:=by kernel_rfl
 g18:=by kernel_rfl
 g19:=by kernel_rfl
 t80:=underlying123
 a80:=isAgg123
 z80:=sizeOf123
 v80:=zeroValue123
 i0:=by kernel_rfl
 i2:=by kernel_rfl
 i3:=by kernel_rfl
 i4:=by kernel_rfl
 i5:=by kernel_rfl
 i9:=by kernel_rfl
 i20:=by kernel_rfl
 i21:=by kernel_rfl
 i37:=by kernel_rfl
 i46:=by kernel_rfl
 i51:=by kernel_rfl
 i53:=by kernel_rfl
 i75:=by kernel_rfl
 i76:=by kernel_rfl
 i80:=by kernel_rfl
 i85:=by kernel_rfl
 i127:=by kernel_rfl
 i143:=by kernel_rfl
 i145:=by kernel_rfl
 i167:=by kernel_rfl
 i168:=by kernel_rfl
 i171:=by kernel_rfl
 i173:=by kernel_rfl
 i175:=by kernel_rfl
 i210:=by kernel_rfl
 i212:=by kernel_rfl
 i232:=by kernel_rfl
 i233:=by kernel_rfl
 m15:=by kernel_rfl
 m16:=by kernel_rfl
 m17:=by kernel_rfl
 m18:=by kernel_rfl
 m19:=by kernel_rfl
 c0:=by kernel_rfl
 c2:=by kernel_rfl
 c3:=by kernel_rfl
 c4:=by kernel_rfl
 c5:=by kernel_rfl
 c9:=by kernel_rfl
 c20:=by kernel_rfl
 c21:=by kernel_rfl
 c37:=by kernel_rfl
 c46:=by kernel_rfl
 c51:=by kernel_rfl
 c53:=by kernel_rfl
 c75:=by kernel_rfl
 c76:=by kernel_rfl
 c80:=by kernel_rfl
 c85:=by kernel_rfl
 c127:=by kernel_rfl
 c143:=by kernel_rfl
 c145:=by kernel_rfl
 c167:=by kernel_rfl
 c168:=by kernel_rfl
 c171:=by kernel_rfl
 c173:=by kernel_rfl
 c175:=by kernel_rfl
 c210:=by kernel_rfl
 c212:=by kernel_rfl
 c213:=by kernel_rfl
 c232:=by kernel_rfl
 c233:=by kernel_rfl}
theorem zek:Builder.Extra prog zy8:={
 sizeBuilder:=by kernel_rfl
 liesBuilder:=by kernel_rfl
 t5:=underlying5
 a5:=isAgg5
 z5:=sizeOf5
 v5:=zeroValue5
 infoByte:=by kernel_rfl
 cellsByte:=by kernel_rfl
 sizeByte:=by kernel_rfl
 neB5:=by decide}
theorem z36:Builder.Extra prog zy2:={
 sizeBuilder:=by kernel_rfl
 liesBuilder:=by kernel_rfl
 t5:=underlying5
 a5:=isAgg5
 z5:=sizeOf5
 v5:=zeroValue5
 infoByte:=by kernel_rfl
 cellsByte:=by kernel_rfl
 sizeByte:=by kernel_rfl
 neB5:=by decide}
end Go.Proofs
namespace Go.Proofs.YthphaiccgnkobaaGreatDoor
open Go Go.Ab Go.Proofs
open Go.RowKit
open Go.Proofs.Tryz
set_option linter.unusedVariables false
set_option linter.unusedSimpArgs false
attribute [local go_sem] Oper.semAt_some
theorem yin:∀{s:B8},s.any (· == 10)=false->lnA s=s∧lnB s=[]
 |[],_=>⟨rfl,rfl⟩
 |c::r,h=>by
  simp only[List.any_cons,Bool.or_eq_false_iff]at h;obtain⟨h1,h2⟩:=yin h.2;simp only[lnA,lnB,h.1,h1,h2,and_self]
theorem yi3:∀{s:B8},s.any (· == 10)=true->lnA s=s.take ((s.takeWhile (· != 10)).length+1)∧lnB s=s.drop ((s.takeWhile (· != 10)).length+1)
 |[],h=>by simp at h
 |c::r,h=>by
  cases hc:c==10;have ih:=yi3 (s:=r) (by simpa[hc]using h);simp only[lnA,lnB,hc,List.takeWhile_cons,bne,Bool.not_false,if_true,List.length_cons,List.take_succ_cons,List.drop_succ_cons];exact⟨by rw[ih.1];rfl,ih.2⟩;simp[lnA,lnB,hc,bne]
abbrev S(s:B8):Value:=.string ⟨s.toArray⟩
theorem ycd(n:Nat)(s:B8){k:Int}(hk:Lib.indexByte s 10=k)(W:World):CallsIn Fence.wide n prog 99 #[S s,.int .u8 10] W λe W'=>e = .returned (.int .i64 k)∧W'=W:=by
 subst hk;refine callsIn_wide.2 ?_;exact(Any.strings_IndexByte {ypn with} ⟨s.toArray⟩ 10 W).mono λe w' ⟨a1,a2⟩=>⟨by rw[a1];rfl,a2⟩
def yfk(Bs:Nat)(W:World):Nat:=match W.cell? ⟨Bs,0,none⟩with
 |some (.string b)=>b.size
 |_=>0
set_option maxRecDepth 100000 in
set_option maxHeartbeats 2000000 in
theorem yj5(n l Bs:Nat)(K:B8->World->Prop)(Kx:World->Prop)(s:B8)(W:World)
  (hc:∀r W,K r W->W.cell? ⟨Bs,0,none⟩=some (.string ⟨r.toArray⟩)∧W.frozen? ⟨Bs,0,none⟩=false)
  (hg:∀r W W',K r W->Grow W W'->K r W')
  (hY:∀r W,r≠[]->K r W->YieldAt Fence.wide (n-1) prog l #[.string ⟨(lnA r).toArray⟩] (W.setCell ⟨Bs,0,none⟩ (.string ⟨(lnB r).toArray⟩)) λe W'=>
   (e = .returned (.bool true)∧K (lnB r) W')∨(e = .returned (.bool false)∧Kx W'))
  (hs:s.length<=4611686018427387904) (h0:K s W):CallsIn Fence.wide n prog 98 #[.func (.yield l) #[] #[],.pointer (some ⟨Bs,0,none⟩)] W λe W'=>(∃v,e = .returned v)∧(K [] W'∨Kx W'):=by
 refine callsIn_of_wp func98 rfl trivial ?_ rfl;simp only[ntmps98,List.size_toArray,List.length_cons,Qcc,Nat.reduceAdd,Nat.reduceSub,Array.replicate_succ,Array.replicate_zero,List.push_toArray,List.append_toArray,List.nil_append,List.cons_append];have hmx:prog.follows .mixedOrders=true:=by kernel_rfl
 have hK1:∀r W,K r W->yfk Bs W=r.length:=λr W h=>by unfold yfk;rw[(hc r W h).1];simp[ByteArray.size]
 gi_wp2
 gi_loopw [] (λwr=>∃r,K r wr∧r.length<=4611686018427387904) (λwr=>yfk Bs wr)
 case atStart=>exact⟨s,h0,hs⟩
 case round=>
  obtain⟨r,hK,hr⟩:=hrel;obtain⟨hc1,hf1⟩:=hc _ _ hK;by_cases hr0:r=[]
  ·subst hr0
   gi_wp2
   go_end0
   exact⟨⟨_,rfl⟩,.inl hK⟩
  ·have hpos:(0:Int)<(r.length:Int):=by have:=List.length_pos_iff.2 hr0;omega
   cases ha:r.any (· == 10)with
   |false=>
    have hidx:Lib.indexByte r 10 = -1:=by rw[zv7,ha];rfl
    obtain⟨l1,l2⟩:=yin ha;have hy:=hY r wr hr0 hK;rw[l1,l2]at hy;obtain⟨fn,tmps,assign,body,hy,hR⟩:=hy
    gi_wp2_with (refine⟨trivial,(λh=>by cases h),?_⟩;gi_at_call 99;refine(ycd _ r hidx _).mono ?_;rintro e w2 ⟨rfl,rfl⟩)
    refine⟨(λh=>by cases h),hR.mono ?_⟩
    rintro e W3 (⟨rfl,hK3⟩|⟨rfl,hKx⟩)
    ·gi_wp2
     go_roundw
     case rel=>exact⟨_,hK3,Qbv _⟩
     case measure=>
      have hl:=hK1 _ _ hK3;have hl0:=hK1 _ _ hK;simp only[hl,hl0];exact List.length_pos_iff.2 hr0
    ·gi_wp2
     refine bodyPost_ret (results_none rfl _ _ _) rfl ?_
     exact⟨⟨_,rfl⟩,.inr hKx⟩
   |true=>
    have hidx:Lib.indexByte r 10=((r.takeWhile (· != 10)).length:Int):=by rw[zv7,ha];rfl
    obtain⟨l1,l2⟩:=yi3 ha;obtain⟨hk,_,_⟩:=yao ha;generalize (r.takeWhile (· != 10)).length=k at hidx l1 l2 hk;have hw1:IntKind.i64.wrap ((k:Int)+1)=((k+1:Nat):Int):=by rw[show((k:Int)+1)=((k+1:Nat):Int) by omega];exact wrk (by omega)
    have hy:=hY r wr.drew hr0 (hg _ _ _ hK (Grow.drawn wr _));rw[l1,l2]at hy;obtain⟨fn,tmps,assign,body,hy,hR⟩:=hy
    have ex1:ByteArray.extract ⟨r.toArray⟩ 0 (k+1)=⟨(r.take (k+1)).toArray⟩:=by
     apply ByteArray.ext;simp[ByteArray.data_extract]
    have ex2:ByteArray.extract ⟨r.toArray⟩ (k+1) r.length=⟨(r.drop (k+1)).toArray⟩:=by
     apply ByteArray.ext;simp[ByteArray.data_extract];rw[List.take_of_length_le (by simp)]
    rw[show wr.drew.setCell ⟨Bs,0,none⟩ (.string ⟨(r.drop (k+1)).toArray⟩)=(wr.setCell ⟨Bs,0,none⟩ (.string ⟨(r.drop (k+1)).toArray⟩)).drew from rfl]at hy hR
    gi_wp2_with (refine⟨trivial,(λh=>by cases h),?_⟩;gi_at_call 99;refine(ycd _ r hidx _).mono ?_;rintro e w2 ⟨rfl,rfl⟩)
    gi_region_o
    gi_wp2
    refine⟨(λh=>by cases h),hR.mono ?_⟩
    rintro e W3 (⟨rfl,hK3⟩|⟨rfl,hKx⟩)
    ·gi_wp2
     go_roundw
     case rel=>exact⟨_,hK3,by rw[List.length_drop];omega⟩
     case measure=>
      have hl:=hK1 _ _ hK3;have hl0:=hK1 _ _ hK;simp only[hl,hl0];rw[List.length_drop];omega
    ·gi_wp2
     refine bodyPost_ret (results_none rfl _ _ _) rfl ?_;exact⟨⟨_,rfl⟩,.inr hKx⟩
theorem ykl:ze8 prog 98:=⟨λ_ _=>call98 _ _,λn l Bs K Kx s W hc hg hY hs h0=>yj5 n l Bs K Kx s W hc hg hY hs h0⟩
end Go.Proofs.YthphaiccgnkobaaGreatDoor
namespace Go.Proofs.YthphaiccgnkobaaGreatDoor
open Go Go.RowKit Go.Shelf Go.Proofs
open Go.Ab (B8)
open Go.Ab (Qaf)
open Go.Proofs.Tryz
set_option linter.unusedVariables false
set_option maxRecDepth 100000
theorem ykd(b:Nat)(w:World)(h0:w.cell? ⟨b,0,none⟩=some (.pointer (some ⟨b,0,none⟩))) :
  Calls prog 122 #[.pointer (some ⟨b,0,none⟩)] w λe w'=>e = .returned (.tuple #[])∧w'=w:=by
 obtain⟨j,hj,_⟩:=Qaf.1 z36.sizeBuilder
 go_enter func122,ntmps122
 go_wp2
 rw[Lib.run_neq_ptr_same w _ underlying108 hj]
 go_wp2
 go_end0
 exact⟨rfl,rfl⟩
theorem yga(b:Nat)(w:World)(h0:w.cell? ⟨b,0,none⟩=some (.pointer none))(hsh:w.shape? b=some (111,2))(hfz:w.frozen? ⟨b,0,none⟩=false) :
  Calls prog 122 #[.pointer (some ⟨b,0,none⟩)] w λe w'=>e = .returned (.tuple #[])∧w'=w.setCell ⟨b,0,none⟩ (.pointer (some ⟨b,0,none⟩)):=by
 obtain⟨j,hj,hjs⟩:=Qaf.1 z36.sizeBuilder
 go_enter func122,ntmps122
 go_wp2
 rw[Lib.run_to_unsafe w ⟨b,0,none⟩ underlying108 underlying209 hj (by rw[hjs];decide) hsh (Nat.zero_lt_succ 1)];simp only[Result.andThen];rw[Oper.upon_value]
 go_wp2
 rw[run_callFunc_extern func179 (by kernel_rfl) (by kernel_rfl) (by kernel_rfl) (e:=Extern.AbiNoEscape.same) (by kernel_rfl)];rw[Lib.run_noEscape];simp only[Result.andThen];rw[Oper.upon_value]
 go_wp2
 rw[Lib.run_from_unsafe w ⟨b,0,none⟩ underlying209 underlying108 hj hsh z36.liesBuilder];simp only[Result.andThen];rw[Oper.upon_value]
 go_wp2
 go_end0
 exact⟨rfl,rfl⟩
theorem yhg(b g cap:Nat)(p:Value)(l:B8)(cur:Array Value)(w:World)(h0:l≠[])(hbk:w.heap[b]? = some (.cells #[p,.slice (some ⟨g,0,none⟩) l.length cap] 111 (0,0)))(hg:w.heap[g]? = some (.cells cur 5 (0,0)))(hlcap:l.length<=cap)(hlc:l.length<=cur.size)(hmax:l.length<=9223372036854775807)
  (hc:∀(j:Nat) (x:UInt8),l[j]? = some x->w.cell? ⟨g,j,none⟩=some (.int .u8 x.toNat)) :
  Calls prog 66 #[.pointer (some ⟨b,0,none⟩)] w λe w'=>e = .returned (.string ⟨l.toArray⟩)∧w'=w.drew.freeze ⟨g,0,none⟩ l.length:=by
 have hl0:l.length≠0:=by simpa using h0
 have c1:w.drew.cell? ⟨b,1,none⟩=some (.slice (some ⟨g,0,none⟩) l.length cap):=by
  have:w.drew.heap[b]? = some (.cells #[p,.slice (some ⟨g,0,none⟩) l.length cap] 111 (0,0)):=hbk;rw[Lib.cell_of_heap this];rfl
 have hSD:(Builtin.unsafeSliceData_ #[109] 163 #[.slice (some ⟨g,0,none⟩) l.length cap]).run prog w.drew = .ok (.pointer (some ⟨g,0,none⟩)) w.drew :=
  Lib.run_unsafeSliceData_row _ _ _ _ _ _ (by omega)
 have hUS:(Builtin.unsafeString_ #[163,3] 9 #[.pointer (some ⟨g,0,none⟩),.int .i64 l.length]).run prog w.drew = .ok (.string ⟨l.toArray⟩) (w.drew.freeze ⟨g,0,none⟩ l.length):=by
  refine Lib.run_unsafeString_row w.drew 163 3 9 5 underlying163 z36.cellsByte g cur.size (by have hg':w.drew.heap[g]? = some (.cells cur 5 (0,0)):=hg;simp[World.shape?,hg']) l h0 hlc hmax ?_;intro j x hx;have:=hc j x hx;have hadd:(⟨g,0,none⟩:Addr).add j=⟨g,j,none⟩:=by unfold Addr.add;split <;> simp_all
  rw[hadd];exact this
 go_enter func66,ntmps66
 go_wp2
 go_region
 all_goals (go_wp2;go_ret;exact⟨rfl,rfl⟩)
end Go.Proofs.YthphaiccgnkobaaGreatDoor
namespace Go.Proofs.YthphaiccgnkobaaGreatDoor
open Go Go.Ab Go.RowKit Go.Proofs
open Go.Proofs.Tryz
set_option linter.unusedVariables false
set_option linter.unusedSimpArgs false
theorem y3f{W:World}{g:Gh}{H:Heap}{u:V}{cs:Array Value}(h:zgc W g H [u] cs):∃x,cs = #[x]∧Rel W g H u x:=by
 obtain⟨h1,h2⟩:=h;have hsz:cs.toList.length=1:=by simpa using h1
 obtain⟨c,hc⟩:=List.length_eq_one_iff.1 hsz;have hc':cs = #[c]:=by rw[<-Array.toList_inj,hc]
 subst hc';exact⟨c,rfl,by simpa using h2 0 _ rfl⟩
theorem yht{W:World}{g:Gh}{H:Heap}{lv i:Nat}{a c:V}(hG:Go.Ab.Good W g H)(hg:H.get lv i=some (.arr 0 111 2 [.agg [a,c]] (some 1))) :
  g.cap lv i=1∧∃p v,W.heap[g.ab lv i]? = some (.cells #[p,v] 111 (0,0))∧Rel W g H a p∧Rel W g H c v∧p.oneCell'=true∧v.oneCell'=true:=by
 obtain⟨cc,k1,k2,k3,k3',k4,k5,k6,k7,k8⟩:=hG.obj _ _ _ hg;have hcap:=k5 1 rfl;rw[hcap]at k3;obtain⟨l⟩:=cc
 match l,k3 with
 |[p,v],_=>
  refine⟨hcap,p,v,k1,k8 0 _ 0 a rfl rfl,k8 0 _ 1 c rfl rfl,k7 0 _ 0 a rfl rfl,k7 0 _ 1 c rfl rfl⟩
 |[],h=>simp at h
 |[_],h=>simp at h
 |_::_::_::_,h=>simp at h
theorem zup{α:Type}{L:List α}{i:Nat}{x:α}(h:L[i]? = some x):L.set i x=L:=by
 refine List.ext_getElem? λj =>?_
 rw[Qbi];split;rename_i e;subst e;split;exact h.symm;rename_i hn;exact(hn (Qaa.1 h).1).elim;rfl
theorem yoz{lv i:Nat}{L:List (Option zz4)}{E:Nat->Nat->Option zz4}{a c:V}(hL:L[i]? = some (some (.arr 0 111 2 [.agg [a,c]] (some 1))))(ha:a = .nilp∨a = .ap lv i 0 0 0) :
  zni prog 122 [.ap lv i 0 0 0] ⟨lv,L,E⟩ λo H'=>o = .ret (.tup [])∧H'=⟨lv,L.set i (some (.arr 0 111 2 [.agg [.ap lv i 0 0 0,c]] (some 1))),E⟩:=by
 intro W g cargs hG hR;have hg:(⟨lv,L,E⟩:Heap).get lv i=some (.arr 0 111 2 [.agg [a,c]] (some 1)):=by simp[Heap.get,hL]
 obtain⟨x,rfl,h0⟩:=y3f hR;obtain⟨hcap,p,v,k1,k2,k3,k4,k5⟩:=yht hG hg;refine⟨call122 _ _,?_⟩
 cases h0 with
 |ap _ _ _ _ _ ad hd hv hadr=>
  have had:ad=⟨g.ab lv i,0,none⟩:=hadr _ _ _ _ hg;subst had
  rcases ha with rfl|rfl
  cases k2;refine(yga (g.ab lv i) W (by rw[Lib.cell_of_heap k1];rfl) (by simp[World.shape?,k1]) (by simp[World.frozen?,k1])).mono ?_
  rintro e W' ⟨rfl,rfl⟩
  have hh:(W.setCell ⟨g.ab lv i,0,none⟩ (.pointer (some ⟨g.ab lv i,0,none⟩))).heap[g.ab lv i]? = some (.cells #[.pointer (some ⟨g.ab lv i,0,none⟩),v] 111 (0,0)):=by simp[World.setCell,Qcg,k1]
  obtain⟨q1,q2⟩:=zas (W':=W.setCell ⟨g.ab lv i,0,none⟩ (.pointer (some ⟨g.ab lv i,0,none⟩))) hG (o':=.arr 0 111 2 [.agg [.ap lv i 0 0 0,c]] (some 1)) hg rfl rfl rfl rfl (by simp[World.setCell]) (λb hb1 hb2=>Below.heap_setCell _ _ _ _ λe=>hb2 e)
   (λver ty sz xs cp he=>by injection he with e1 e2 e3 e4 e5;subst e1;subst e2;subst e3;subst e4;exact⟨_,_,_,rfl,Qbw _,λ_=>Qbw _⟩) (λhst=>by
   refine ye7 (c := #[.pointer (some ⟨g.ab lv i,0,none⟩),v]) hcap hh (by decide) rfl ⟨rfl,λj u hj =>?_,λj u hj =>?_⟩
   match j,hj with
   |0,_=>rfl
   |1,_=>exact k5
   |j+2,hj=>simp[V.cells]at hj
   match j,hj with
   |0,hj=>
    simp only[V.cells,Qcd,Qbu]at hj;subst hj
    exact .ap lv i 0 0 0 _ hd (λ_ _ _ _ _ _=>Qbv _) λty sz xs cp h=>by simp
   |1,hj=>
    simp only[V.cells,List.getElem?_cons_succ,Qcd,Qbu]at hj;subst hj
    exact k3.mono hst
   |j+2,hj=>simp[V.cells]at hj)
  refine⟨.ret (.tup []),_,g,⟨rfl,rfl⟩,?_,?_,_,rfl,.tup [] #[] rfl (by simp)⟩;have:=q1;simp only[Heap.set,Qbx]at this;exact this;have:=q2;simp only[Heap.set,Qbx]at this;exact this
  have hp:p = .pointer (some ⟨g.ab lv i,0,none⟩):=by
   cases k2 with
   |ap _ _ _ _ _ ad hd hv hadr=>rw[hadr _ _ _ _ hg]
  subst hp;refine(ykd (g.ab lv i) W (by rw[Lib.cell_of_heap k1];rfl)).mono ?_
  rintro e W' ⟨rfl,rfl⟩
  rw[zup hL];exact⟨.ret (.tup []),_,g,⟨rfl,rfl⟩,.refl _ _ _,hG,_,rfl,.tup [] #[] rfl (by simp)⟩
theorem ypg{lv i:Nat}{L:List (Option zz4)}{E:Nat->Nat->Option zz4}{a c:V}{s:B8}(hL:L[i]? = some (some (.arr 0 111 2 [.agg [a,c]] (some 1))))
  (hb:(c = .nils∧s=[])∨∃j ver ws cp,c = .hs lv j ver 0 ws.length false∧L[j]? = some (some (.arr ver 5 1 ws cp))∧zgm ws=some s) :
  zni prog 66 [.ap lv i 0 0 0] ⟨lv,L,E⟩ λo H'=>o = .ret (.str s)∧∃L',H'=⟨lv,L',E⟩∧L'.length=L.length∧∀k,(∀j ver n,c = .hs lv j ver 0 n false->k≠j)->L'[k]? = L[k]? := by
 intro W g cargs hG hR;have hg:(⟨lv,L,E⟩:Heap).get lv i=some (.arr 0 111 2 [.agg [a,c]] (some 1)):=by simp[Heap.get,hL]
 obtain⟨x,rfl,h0⟩:=y3f hR;obtain⟨hcap,p,v,k1,k2,k3,k4,k5⟩:=yht hG hg;refine⟨call66 _ _,?_⟩
 have below:∀{W':World},Below W.heap.size W W'->s=[]->∀(e:Ending),e = .returned (.string ⟨#[]⟩) ->
   ∃o H' g',(o=Out.ret (.str s)∧∃L',H'=⟨lv,L',E⟩∧L'.length=L.length∧∀k,(∀j ver n,c = .hs lv j ver 0 n false->k≠j)->L'[k]? = L[k]?)∧Step W g ⟨lv,L,E⟩ W' g' H'∧Go.Ab.Good W' g' H'∧yhj W' g' H' o e:=λ{W'} hB hs e he=>by
  subst he;subst hs;have hgr:Grow W W':=⟨hB.os,hB.tape,hB.output,hB.size,hB.block⟩;exact⟨.ret (.str []),⟨lv,L,E⟩,g,⟨rfl,L,rfl,rfl,λ_ _=>rfl⟩,hgr.step,hG.grow hgr,_,rfl,.str []⟩
 cases h0 with
 |ap _ _ _ _ _ ad hd hv hadr=>
  have had:ad=⟨g.ab lv i,0,none⟩:=hadr _ _ _ _ hg;subst had
  rcases hb with ⟨rfl,hs⟩|⟨j,ver,ws,cp,rfl,hj,hbs⟩
  cases k3;refine(Any.Builder_String_nil y8q z36 W.heap.size (g.ab lv i) p W k1).mono ?_
  rintro e W' ⟨he,hB⟩
  exact below hB hs e he;have hgj:(⟨lv,L,E⟩:Heap).get lv j=some (.arr ver 5 1 ws cp):=by simp[Heap.get,hj]
  obtain⟨b1,b2⟩:=zka hbs;obtain⟨cc,m1,m2,m3,m3',m4,m5,m6,m7,m8⟩:=hG.obj _ _ _ hgj
  cases k3 with
  |hs _ _ _ _ _ _ ad m cap hd' hv' ha'=>
   obtain⟨rfl,rfl,⟨c1,c2,_⟩,c3⟩:=ha' _ _ _ _ hgj;by_cases hs:s=[];have hw0:ws.length=0:=by rw[<-b1,hs];rfl
   rw[hw0]at k1;by_cases hc0:cap=0;subst hc0;refine(Any.Builder_String_noroom y8q z36 W.heap.size (g.ab lv i) (g.ab lv j) p cc W (Qbw _) k1 m1).mono ?_
   rintro e W' ⟨he,hB⟩
   exact below hB hs e he;refine(Any.Builder_String_room y8q z36 W.heap.size (g.ab lv i) (g.ab lv j) cap p W hc0 k1).mono ?_
   rintro e W' ⟨he,hB⟩
   exact below hB hs e he;have hsz:s.length<=cc.size:=by rw[m3];omega
   refine(yhg (g.ab lv i) (g.ab lv j) cap p s cc W hs (by rw[b1];exact k1) m1 (by rw[b1];exact c1) hsz (by unfold maxLen at m3';omega) λq x hq =>?_).mono ?_;have hq':=b2 q x hq;have hrel:=m8 q _ 0 _ hq' rfl;rw[Lib.cell_of_heap m1];have hql:q<cc.size:=Qbj (Qaa.1 hq).1 hsz;rw[Nat.mul_one,Nat.add_zero,Qae,Qas hql]at hrel
   rw[Qas hql];simp only[Option.getD_some]at hrel;generalize cc[q]=z at hrel;cases hrel;rfl
   rintro e W' ⟨rfl,rfl⟩
   obtain⟨g1,g2,g3,g4⟩:=y7b hG hgj
   have hfz:∀k,k≠g.ab lv j->(W.drew.freeze ⟨g.ab lv j,0,none⟩ s.length).heap[k]? = W.heap[k]? := λk hk=>by
    unfold World.freeze;split;rfl;simp only[Qcg];rw[Qby (λe=>hk e.symm)];rfl
   have hsize:(W.drew.freeze ⟨g.ab lv j,0,none⟩ s.length).heap.size=W.heap.size:=by
    unfold World.freeze;split;rfl;exact Array.size_modify ..
   have hos:(W.drew.freeze ⟨g.ab lv j,0,none⟩ s.length).os=W.os∧(W.drew.freeze ⟨g.ab lv j,0,none⟩ s.length).tape=W.tape∧(W.drew.freeze ⟨g.ab lv j,0,none⟩ s.length).output=W.output:=by unfold World.freeze;split <;> exact⟨rfl,rfl,rfl⟩
   have hob:Go.Ab.Own g ⟨lv,L,E⟩ (g.ab lv j):=⟨_,_,_,hgj,rfl⟩
   have hst:Step W g ⟨lv,L,E⟩ (W.drew.freeze ⟨g.ab lv j,0,none⟩ s.length) g ((⟨lv,L,E⟩:Heap).zrk j) :=
    ⟨hos.1,hos.2.1,hos.2.2,Nat.le_of_eq hsize.symm,λb hb hno=>hfz b (λe=>hno (by rw[e];exact hob)),g2.own,g2.dom,g2.new,g2.blk,g2.arr,g2.lv,g2.base⟩
   have hst2:∀l k o,((⟨lv,L,E⟩:Heap).zrk j).get l k=some o->o.blk g l k≠g.ab lv j:=λl k o ho e=>by
    obtain⟨q1,q2⟩:=Heap.z9j ho;exact q2 (hG.inj _ _ _ _ _ _ q1 hgj e)
   refine⟨.ret (.str s),(⟨lv,L,E⟩:Heap).zrk j,g,⟨rfl,L.set j none,rfl,by simp,λk hk =>?_⟩,hst,⟨g1.dom,λl k o ho=>by rw[hsize];exact g1.lt l k o ho,g1.inj,g1.fresh,λl k o ho =>?_,hG.ziy.step hst,(by show g.base<=_;rw[hsize];exact hG.base)⟩,_,rfl,.str s⟩;rw[Qam (λe=>hk j ver ws.length rfl e.symm)];have ho':=hG.obj l k o (Heap.z9j ho).1
   exact ho'.mono hst (hfz _ (hst2 l k o ho)) rfl rfl rfl
set_option maxRecDepth 100000
def z1g:Nat->List Int->Option (List Int):=λ_ xs=>some xs
noncomputable def z1z:FI dat :=
 {R:=List Int,ent:=λn=>{f:=122,p:=1,args:=[.bp 0],aos:=[.bld 111 1,.acc 5 (.int .u8) true],outs:=[],ros:=[.bld 111 1,.acc 5 (.int .u8) true],pan:=.nilp,pos:=[.bld 111 1,.acc 5 (.int .u8) true],pure:=false,go:=λx k _=>(z1g n x.1).bind λr=>k (r,())},
   c:=.skip,K:=⟨λ_=>none,[],λ_=>none,λ_ _=>none⟩,p:=0,args:=[],aos:=[],nt:=0,z02:=λ_=>[],go:=λ_ _=>none}
def z0u:Nat->List Int->Option B8:=λ_ xs=>yat xs
noncomputable def z1f:FI dat :=
 {R:=B8,ent:=λn=>{f:=66,p:=0,args:=[.bp 0],aos:=[.bld 111 1,.acc 5 (.int .u8) true],outs:=[.d .str],ros:=[],pan:=.nilp,pos:=[],pure:=false,go:=λx k _=>(z0u n x.1).bind λr=>k (r,())},
   c:=.skip,K:=⟨λ_=>none,[],λ_=>none,λ_ _=>none⟩,p:=0,args:=[],aos:=[],nt:=0,z02:=λ_=>[],go:=λ_ _=>none}
theorem ymc{lv:Nat}{L:List (Option zz4)}{ρ0:List Slot}{vargs:List V}{xs:List Int}(k1:ρ0.length=2)(k2:VRL dat ρ0 lv [TV.bp 0 0] vargs)
  (k3:∀j o,(j,o)∈[((0:Nat),(TO.bld 111 (some 1):TO dat.T)),(1,.acc 5 (.int .u8) xs true)]->∃sl,ρ0[j]? = some sl∧OR dat ρ0 lv L sl o) :
  ∃s0 s1 i a c,ρ0=[s0,s1]∧vargs=[.ap lv i 0 0 0]∧s0.k=some i∧L[i]? = some (some (.arr 0 111 2 [.agg [a,c]] (some 1)))∧(a = .nilp∨a = .ap lv i 0 0 0)∧VR dat ρ0 lv (.own 1) c∧OR dat ρ0 lv L s1 (.acc 5 (.int .u8) xs true):=by
 obtain⟨s0,s1,rfl⟩:∃s0 s1,ρ0=[s0,s1]:=by
  match ρ0,k1 with
  |[a,b],_=>exact⟨a,b,rfl⟩
 simp only[VRL,VR]at k2;obtain⟨v,r,rfl,⟨sl,i,e1,e2,rfl⟩,rfl⟩:=k2;obtain rfl:s0=sl:=by simpa using e1
 obtain⟨sl,e4,e5⟩:=k3 0 (.bld 111 (some 1)) (by simp);obtain rfl:s0=sl:=by simpa using e4
 simp only[OR]at e5;obtain⟨i',a,c,q1,q2,q3,q4⟩:=e5
 rw[e2]at q1;injection q1 with q1;subst q1
 obtain⟨sl,e6,e7⟩:=k3 1 (.acc 5 (.int .u8) xs true) (by simp);obtain rfl:s1=sl:=by simpa using e6
 exact⟨s0,s1,i,a,c,rfl,rfl,e2,q2,q3,q4,e7⟩
theorem z5v:FOk prog z1z:=λn R x k kp r h=>by
 refine .inl ⟨(x.1,()),h,λlv L E ρ0 vargs k1 k2 k3 k4 _ =>?_⟩;obtain⟨s0,s1,i,a,c,rfl,rfl,e2,q2,q3,q4,e7⟩:=ymc (xs:=x.1) k1 k2 k3;have hlt:=(Qaa.1 q2).1
 refine(yoz (E:=E) q2 q3).mono λo H' ⟨h1,h2⟩=>⟨_,[s0,s1],h2,⟨rfl,λj o hm =>?_,k4.1,λs sl i' r hk=>.inr ⟨s,sl,r,hk⟩,λi' hi' hno =>?_,λj sl _ h=>h,λs sl i' r hk=>⟨(k4.2 s sl i' r hk).1,?_⟩⟩,⟨(λq hq=>by cases hq),.nil⟩,[],h1,(by simp only[VRL]:VRL dat [s0,s1] lv [] [])⟩
 have hm:(j,o)∈[((0:Nat),(TO.bld 111 (some 1):TO dat.T)),(1,.acc 5 (.int .u8) x.1 true)]:=hm;simp only[Qbl,List.not_mem_nil,or_false,Qbz]at hm
 rcases hm with ⟨rfl,rfl⟩|⟨rfl,rfl⟩
 refine⟨s0,rfl,?_⟩;simp only[OR];exact⟨i,.ap lv i 0 0 0,c,e2,by simp[hlt],.inr rfl,q4⟩;refine⟨s1,rfl,?_⟩
 have:=e7.mono (L':=L.set i (some (.arr 0 111 2 [.agg [.ap lv i 0 0 0,c]] (some 1)))) [] λi' hi' _=>by
  rw[Qam];intro e;subst e;have:=k4.1 0 1 s0 s1 i rfl rfl (.inl e2) hi';cases this
 simpa using this;exact⟨by simpa using hi',Qam λe=>hno 0 s0 rfl (.inl (by rw[e2,e]))⟩;obtain⟨_,b,hb⟩:=k4.2 s sl i' r hk;by_cases e:i=i';subst e;exact⟨_,Qaq hlt⟩;exact⟨b,by rw[Qam e];exact hb⟩
theorem z3p:FOk prog z1f:=λn R x k kp r h=>by
 obtain⟨s,hs,h⟩:=Qce.1 h;have hs:yat x.1=some s:=hs;refine .inl ⟨(s,()),h,λlv L E ρ0 vargs k1 k2 k3 k4 _ =>?_⟩;obtain⟨s0,s1,i,a,c,rfl,rfl,e2,q2,q3,q4,e7⟩:=ymc (xs:=x.1) k1 k2 k3;simp only[VR]at q4;obtain⟨sl,d1,d2,d3⟩:=q4;obtain rfl:s1=sl:=by simpa using d1
 subst d2;simp only[OR]at e7;obtain⟨p1,p2,p3⟩:=e7
 have hb:(s1.v = .nils∧s=[])∨∃j ver ws cp,s1.v = .hs lv j ver 0 ws.length false∧L[j]? = some (some (.arr ver 5 1 ws cp))∧zgm ws=some s∧s1.k=some j:=by
  have hbv:zgm s1.ws=some s:=by rw[zws x.1 s1.ws p1 p2,hs]
  cases hk:s1.k with
  |none=>
   rw[hk]at p3
   rcases p3 with ⟨w1,w2⟩|⟨⟨_,w2⟩,_⟩
   rw[w2]at hbv;simp only[zgm,Qbu]at hbv;exact .inl ⟨w1,hbv.symm⟩
   exact(w2 rfl).elim
  |some j=>
   rw[hk]at p3;obtain⟨ver,cp,w1,w2⟩:=p3;exact .inr ⟨j,ver,s1.ws,cp,w1,w2,hbv,rfl⟩
 refine(ypg (E:=E) (s:=s) q2 (hb.imp id λ⟨j,ver,ws,cp,w1,w2,w3,_⟩=>⟨j,ver,ws,cp,w1,w2,w3⟩)).mono λo H' ⟨h1,L',h2,h3,h4⟩=>⟨L',[],h2,⟨rfl,λj o hm=>(by cases hm),λ_ _ _ _ _ h=>(by simp at h),λ_ _ _ h=>(by simp at h),λi' hi' hno=>⟨by rw[h3];exact hi',h4 i' λj ver n hv e =>?_⟩,λ_ _ h=>(Nat.not_lt_zero _ h).elim,λ_ _ _ h=>(by simp at h)⟩,⟨(λq hq=>by cases hq),.nil⟩,[.str s],h1,?_⟩
 rcases hb with ⟨w1,_⟩|⟨j',ver',ws,cp,w1,_,_,w4⟩
 rw[w1]at hv;cases hv;rw[w1]at hv;injection hv with _ hv;subst hv;exact hno 1 s1 rfl (.inl (by rw[w4,e]));show VRL dat [] lv [TV.str s] [.str s];simp only[VRL,VR];exact⟨_,_,rfl,rfl,rfl⟩
def zzu:Nat->B8->Option (List B8):=λ_ s=>if s.length<4294967281∧s.all (λb=>decide (b.toNat<128))=true then some (Lib.fields s)else none
def zwy:LSh:=⟨[(2,(.d (.sl .str)))],[],0,106,[]⟩
noncomputable def z1y:FI dat:=FI.of dat 126 106 0 [(.d .str)] [] [(.d (.sl .str))] [] true zwy (R:=List B8) (λx=>x.1) (λr=>(r,())) (λn x=>zzu n x.1)
 (λn=>[]) .skip
theorem yl1(s:B8)(hl:s.length<4294967281)(ha:s.all (λb=>decide (b.toNat<128))=true):zjt prog 126 [.str s] (.sl 1 ((Lib.fields s).map V.str) false):=λH W g cargs hG hA=>by
 obtain⟨x,rfl,h0⟩:=y3f hA;cases h0
 have htab:Lib.TabIs prog W "strings.asciiSpace" .u8 Lib.asciiSpaceTab:=by
  obtain⟨_,ty,q,hq⟩:=hG.ziy.1 0 gl0 rfl;unfold Lib.TabIs World.var?;rw[show prog.globalNamed "strings.asciiSpace" = some 0 by kernel_rfl];simp only[Qbq,hq];rfl
 refine .inl ⟨call126 _ _,(Any.strings_Fields ypy (by kernel_rfl) (by kernel_rfl) ⟨s.toArray⟩ W hl (λj b hb =>?_) htab).mono λe W' ⟨h1,h2⟩ =>?_⟩;rw[Qat]at ha;exact Qac (ha b (Qax hb));subst h1;subst h2;have hg:Grow W (W.alloc (.cells ((Lib.fields s).map λl=>Value.string ⟨l.toArray⟩).toArray 9)):=Grow.alloc W _;refine⟨_,g,rfl,hg.step,hG.grow hg,?_⟩
 have hno:¬Go.Ab.Own g H W.heap.size:=λ⟨l,i,o,h,he⟩=>by have:=hG.lt l i o h;omega
 have hcell:∀(j:Nat) (l:B8),(Lib.fields s)[j]? = some l->(W.alloc (.cells ((Lib.fields s).map λl=>Value.string ⟨l.toArray⟩).toArray 9)).cell? ⟨W.heap.size,j,none⟩=some (.string ⟨l.toArray⟩):=λj l hj=>by
  rw[Lib.cell_of_heap (heap_alloc_new W _)];simp[hj]
 have key:∀(j:Nat) (y:V),((Lib.fields s).map V.str)[j]? = some y->∃l,(Lib.fields s)[j]? = some l∧y = .str l:=λj y hj=>by
  rw[Qan,Qaf]at hj;obtain⟨l,h1,rfl⟩:=hj;exact⟨l,h1,rfl⟩
 have:=Rel.sl (W:=W.alloc (.cells ((Lib.fields s).map λl=>Value.string ⟨l.toArray⟩).toArray 9)) (g:=g) (H:=H) 1 ((Lib.fields s).map V.str) false W.heap.size 0 (Lib.fields s).length (λj _=>.string ⟨((Lib.fields s)[j]?.getD []).toArray⟩) hno (by decide) (by simp) (by simp)
  (λj y hj=>by obtain⟨l,_,rfl⟩:=key j y hj;rfl)
  (λj y t v hj ht=>by
   obtain⟨l,hl',rfl⟩:=key j y hj
   cases t with
   |succ t=>simp[V.cells]at ht
   |zero=>
    rw[hl'];have:=hcell j l hl'
    simpa using this)
  (λj y t v hj ht=>rfl)
  (λj y t v hj ht=>by
   obtain⟨l,hl',rfl⟩:=key j y hj
   cases t with
   |succ t=>simp[V.cells]at ht
   |zero=>
    simp only[V.cells,Qcd,Qbu]at ht;subst ht;rw[hl']
    exact .str l)
 have h9:Rel (W.alloc (.cells ((Lib.fields s).map λl=>Value.string ⟨l.toArray⟩).toArray 9)) g H (.sl 1 ((Lib.fields s).map V.str) false) (.slice (some ⟨W.heap.size,0,none⟩) (Lib.fields s).length (Lib.fields s).length):=by simpa using this
 exact h9
theorem z7u:FOk prog z1y:=λn R x k kp r h=>by
 obtain⟨y,hy,h⟩:=Qce.1 (show(zzu n x.1).bind (λr=>k (r,()))=some r from h);unfold zzu at hy;split at hy;rename_i hc;injection hy with hy;subst hy;refine⟨(_,()),h,rfl,rfl,rfl,λlv vargs ha=>⟨[.sl 1 ((Lib.fields x.1).map V.str) false],λρ lv' =>?_,?_⟩⟩;show VRL dat ρ lv' [TV.sl .str (Lib.fields x.1) 0] _;simp only[VRL,VR];exact⟨_,_,rfl,⟨DR.elsl .str _ λz=>.str z,by omega,by omega⟩,rfl⟩
 have ha:VRL dat [] lv [TV.str x.1] vargs:=ha;simp only[VRL,VR]at ha;obtain⟨v,r1,rfl,rfl,rfl⟩:=ha;exact yl1 _ hc.1 hc.2;cases hy
def z5b:Nat->Int->Int->Option B8:=λ_ n b=>if b=10 ∧ -9223372036854775808<=n∧n<=9223372036854775807 then some (Lib.itoa n)else none
def zr7:LSh:=⟨[(4,(.d .str))],[],0,8,[]⟩
noncomputable def zgs:FI dat:=FI.of dat 277 8 0 [(.d (.int .i64)),(.d (.int .i64))] [] [(.d .str)] [] true zr7 (R:=B8) (λx=>x.1) (λr=>(r,())) (λn x=>z5b n x.1 x.2.1)
 (λn=>[]) .skip
theorem yqz(n:Int)(h0 : -9223372036854775808<=n)(h1:n<=9223372036854775807):zjt prog 277 [.int .i64 n,.int .i64 10] (.str (Lib.itoa n)):=λH W g cargs hG hA=>by
 obtain⟨x,y,rfl,e0,e1⟩:=ydw hA;cases e0;cases e1
 have htab:Lib.TabIs prog W "internal/strconv.uint64pow10" .u64 Lib.pow10Tab:=by
  obtain⟨_,ty,q,hq⟩:=hG.ziy.1 5 gl5 rfl;unfold Lib.TabIs World.var?;rw[show prog.globalNamed "internal/strconv.uint64pow10" = some 5 by kernel_rfl];simp only[Qbq,hq];rfl
 have c:=Any.strconv_FormatInt_10 {ymd with} n h0 h1 W htab;refine .inl ⟨call277 _ _,c.mono λe W' ⟨h1,k,os,h2⟩ =>?_⟩;subst h1;subst h2
 have hg:Grow W (Sort.grow (W.drewN k) os):=⟨rfl,rfl,rfl,by simp[Sort.grow,World.drewN],λb hb=>by
  show(W.heap++os)[b]? = _
  rw[Array.getElem?_append_left hb]⟩
 exact⟨_,g,rfl,hg.step,hG.grow hg,.str _⟩
theorem zpc:FOk prog zgs:=λn R x k kp r h=>by
 obtain⟨y,hy,h⟩:=Qce.1 (show(z5b n x.1 x.2.1).bind (λr=>k (r,()))=some r from h);unfold z5b at hy;split at hy;rename_i hc;injection hy with hy;subst hy;refine⟨(_,()),h,rfl,rfl,rfl,λlv vargs ha=>⟨[.str (Lib.itoa x.1)],λρ lv' =>?_,?_⟩⟩;show VRL dat ρ lv' [TV.str (Lib.itoa x.1)] _;simp only[VRL,VR];exact⟨_,_,rfl,rfl,rfl⟩;have ha:VRL dat [] lv [TV.int .i64 x.1,TV.int .i64 x.2.1] vargs:=ha
 simp only[VRL,VR]at ha;obtain⟨v,r1,rfl,rfl,v2,r2,rfl,rfl,rfl⟩:=ha;rw[hc.1];exact yqz _ hc.2.1 hc.2.2;cases hy
def z6w:Nat->B8->Int->Option Int:=λ_ s c=>some (Lib.indexByte s c.toNat.toUInt8)
def zej:LSh:=⟨[(4,(.d (.int .i64)))],[],0,8,[]⟩
noncomputable def z7q:FI dat:=FI.of dat 154 8 0 [(.d .str),(.d (.int .u8))] [] [(.d (.int .i64))] [] true zej (R:=Int) (λx=>x.1) (λr=>(r,())) (λn x=>z6w n x.1 x.2.1)
 (λn=>[]) .skip
theorem yr2(s:B8)(c:Int):zjt prog 154 [.str s,.int .u8 c] (.int .i64 (Lib.indexByte s c.toNat.toUInt8)):=λH W g cargs hG hA=>by
 obtain⟨x,y,rfl,h0,h1⟩:=ydw hA;cases h0;cases h1;have c:=Any.stringslite_IndexByte {yqd with} ⟨s.toArray⟩ c W;refine .inl ⟨call154 _ _,c.mono λe W' ⟨h1,h2⟩ =>?_⟩;subst h1;subst h2;exact⟨_,g,rfl,.refl _ _ _,hG,.int _ _⟩
theorem zdn:FOk prog z7q:=λn R x k kp r h=>by
 refine⟨(Lib.indexByte x.1 x.2.1.toNat.toUInt8,()),h,rfl,rfl,rfl,λlv vargs ha=>⟨[.int .i64 (Lib.indexByte x.1 x.2.1.toNat.toUInt8)],λρ lv' =>?_,?_⟩⟩;show VRL dat ρ lv' [TV.int .i64 (Lib.indexByte x.1 x.2.1.toNat.toUInt8)] _;simp only[VRL,VR];exact⟨_,_,rfl,rfl,rfl⟩;have ha:VRL dat [] lv [TV.str x.1,TV.int .u8 x.2.1] vargs:=ha;simp only[VRL,VR]at ha;obtain⟨v,r1,rfl,rfl,v2,r2,rfl,rfl,rfl⟩:=ha;exact yr2 _ _
def z17:Nat->B8->B8->Option Int:=λ_ s t=>match t with
 |[c]=>some (Lib.indexByte s c)
 |_=>none
def zgk:LSh:=⟨[(4,(.d (.int .i64)))],[],0,143,[]⟩
noncomputable def z5t:FI dat:=FI.of dat 199 143 0 [(.d .str),(.d .str)] [] [(.d (.int .i64))] [] true zgk (R:=Int) (λx=>x.1) (λr=>(r,())) (λn x=>z17 n x.1 x.2.1)
 (λn=>[]) .skip
theorem yr4(s:B8)(c:UInt8):zjt prog 199 [.str s,.str [c]] (.int .i64 (Lib.indexByte s c)):=λH W g cargs hG hA=>by
 obtain⟨x,y,rfl,h0,h1⟩:=ydw hA;cases h0;cases h1;have c:=Any.stringslite_Index_one {yq8 with} ⟨s.toArray⟩ c W;refine .inl ⟨call199 _ _,c.mono λe W' ⟨h1,h2⟩ =>?_⟩;subst h1;subst h2;exact⟨_,g,rfl,.refl _ _ _,hG,.int _ _⟩
theorem z8v:FOk prog z5t:=λn R x k kp r h=>by
 obtain⟨s,t,u⟩:=x;obtain⟨y,hy,h⟩:=Qce.1 (show(z17 n s t).bind (λr=>k (r,()))=some r from h)
 match t,hy with
 |[c],hy=>
  have hy:some (Lib.indexByte s c)=some y:=hy;injection hy with hy;subst hy;refine⟨(_,()),h,rfl,rfl,rfl,λlv vargs ha=>⟨[.int .i64 (Lib.indexByte s c)],λρ lv' =>?_,?_⟩⟩;show VRL dat ρ lv' [TV.int .i64 (Lib.indexByte s c)] _;simp only[VRL,VR];exact⟨_,_,rfl,rfl,rfl⟩;have ha:VRL dat [] lv [TV.str s,TV.str [c]] vargs:=ha;simp only[VRL,VR]at ha;obtain⟨v,r1,rfl,rfl,v2,r2,rfl,rfl,rfl⟩:=ha;exact yr4 _ _
def zd2:Nat->Int->Option B8:=λ_ n=>if -9223372036854775808<=n∧n<=9223372036854775807 then some (Lib.itoa n)else none
def y3p:LSh:=⟨[(2,(.d .str))],[],0,5,[]⟩
noncomputable def zp7:FI dat:=FI.of dat 63 5 0 [(.d (.int .i64))] [] [(.d .str)] [] true y3p (R:=B8) (λx=>x.1) (λr=>(r,())) (λn x=>zd2 n x.1)
 (λn=>[]) .skip
theorem ypm(n:Int)(h0 : -9223372036854775808<=n)(h1:n<=9223372036854775807):zjt prog 63 [.int .i64 n] (.str (Lib.itoa n)):=λH W g cargs hG hA=>by
 obtain⟨x,rfl,e0⟩:=y3f hA;cases e0
 have htab:Lib.TabIs prog W "internal/strconv.uint64pow10" .u64 Lib.pow10Tab:=by
  obtain⟨_,ty,q,hq⟩:=hG.ziy.1 5 gl5 rfl;unfold Lib.TabIs World.var?;rw[show prog.globalNamed "internal/strconv.uint64pow10" = some 5 by kernel_rfl];simp only[Qbq,hq];rfl
 have c:=Any.strconv_Itoa {ym9 with} n h0 h1 W htab;refine .inl ⟨call63 _ _,c.mono λe W' ⟨h1,k,os,h2⟩ =>?_⟩;subst h1;subst h2
 have hg:Grow W (Sort.grow (W.drewN k) os):=⟨rfl,rfl,rfl,by simp[Sort.grow,World.drewN],λb hb=>by
  show(W.heap++os)[b]? = _
  rw[Array.getElem?_append_left hb]⟩
 exact⟨_,g,rfl,hg.step,hG.grow hg,.str _⟩
theorem y08:FOk prog zp7:=λn R x k kp r h=>by
 obtain⟨y,hy,h⟩:=Qce.1 (show(zd2 n x.1).bind (λr=>k (r,()))=some r from h);unfold zd2 at hy;split at hy;rename_i hc;injection hy with hy;subst hy;refine⟨(_,()),h,rfl,rfl,rfl,λlv vargs ha=>⟨[.str (Lib.itoa x.1)],λρ lv' =>?_,?_⟩⟩;show VRL dat ρ lv' [TV.str (Lib.itoa x.1)] _;simp only[VRL,VR];exact⟨_,_,rfl,rfl,rfl⟩;have ha:VRL dat [] lv [TV.int .i64 x.1] vargs:=ha;simp only[VRL,VR]at ha
 obtain⟨v,r1,rfl,rfl,rfl⟩:=ha;exact ypm _ hc.1 hc.2;cases hy
def kzd:Nat->List B8->Option (List B8):=λ_ xs=>if xs.length<4611686018427387904 then some (ybz xs)else none
noncomputable def z05:FI dat:=yfj dat 46 9 kzd
theorem z5u:FOk prog z05:=by
 have e:kzd=λ_ xs=>if xs.length<4611686018427387904 then some (z14 xs)else none:=by funext n xs;simp only[kzd,y2m]
 unfold z05;rw[e];exact ype (λ_ _=>call46 _ _) (λblk cap ss w h1 h2 h3=>Any.slices_Sort_string yih blk 0 cap ss w h1 h2 h3) (λp cap w=>Any.slices_Sort_string_none yih p cap w)
def z3e:Nat->List B8->Option (List B8):=λ_ xs=>if xs.length<=9223372036854775807 then some (zms xs)else none
noncomputable def z8r:FI dat:=zw6 dat 47 9 z3e
theorem zes:FOk prog z8r :=
 ygn (λ_ _=>call47 _ _) (λblk cap zs w h1 h2 h3=>Any.slices_Compact_string yhw blk 0 cap zs w h1 h2 h3) (λp cap w=>Any.slices_Compact_string_empty yhw p cap w)
def zbt:Nat->B8->B8->Option (List B8):=λ_ s t=>if t=[32]∧s.length<=1048576 then some (parts 32 s)else none
def y0k:LSh:=⟨[(4,(.d (.sl .str)))],[],0,8,[]⟩
noncomputable def zny:FI dat:=FI.of dat 102 8 0 [(.d .str),(.d .str)] [] [(.d (.sl .str))] [] true y0k (R:=List B8) (λx=>x.1) (λr=>(r,())) (λn x=>zbt n x.1 x.2.1)
 (λn=>[]) .skip
theorem zv1(b:UInt8):∀(k:Nat) (s:B8),s.countP (· == b)=k->Lib.splitK [b] 0 k s=parts b s
 |0,s,h=>by
  have ha:s.any (· == b)=false:=by
   rw[List.any_eq_false];intro x hx;have:=List.countP_eq_zero.1 h x hx;simpa using this
  rw[parts_eq,yn3 ha];rfl
 |k+1,s,h=>by
  have ha:s.any (· == b)=true:=by
   rw[List.any_eq_true];obtain⟨x,hx,hp⟩:=List.countP_pos_iff.1 (show 0<s.countP (· == b) by omega);exact⟨x,hx,hp⟩
  obtain⟨c1,c2,c3⟩:=yao ha;have hi:Lib.index s [b]=((s.takeWhile (· != b)).length:Int):=by rw[Lib.index_one,zv7,Qbx ha]
  have hn:¬(Lib.index s [b] == -1)=true:=λe=>by have:=Qbm.1 e;omega
  have hc:(cutAt b s).2.2=true:=ha;have hlen:=congrArg List.length (parts_eq b s);rw[Qbx hc,zjp,List.length_cons,zjp]at hlen;rw[Lib.splitK,Qby hn,hi,Int.toNat_natCast,parts_eq,Qbx hc]
  congr 1
  rw[List.length_singleton,c3];exact zv1 b k _ (by show(cutAt b s).2.1.countP _=_;omega)
theorem ydo(s:ByteArray)(w:World)(hs:s.size<4294967281):Calls prog 102 #[.string s,.string ⟨#[32]⟩] w λe w'=>
  ∃l:List ByteArray,l.map (·.data.toList)=parts 32 s.data.toList∧e = .returned (.slice (some ⟨w.heap.size,0,none⟩) l.length l.length)∧w'=w.alloc (.cells (l.map Value.string).toArray 9):=by
 have h1:1<=(⟨#[32]⟩:ByteArray).size:=by decide
 have hlen:=Lib.splitB_all ⟨#[32]⟩ h1 0 _ s rfl
 have c:=Any.strings_genSplit_core (ρ:=zy1) {y8h with} (by kernel_rfl) s ⟨#[32]⟩ 0 (-1) (Lib.countB s ⟨#[32]⟩+1) w hs h1 (Qbv _)
  (λx c hx=>(Any.strings_Index_one {y8h with} x 32 _).mono λe w' ⟨a1,a2⟩=>⟨by rw[a1];exact congrArg (λz=>Ending.returned (Value.int .i64 z)) (Lib.index_one _ _).symm,a2⟩)
  ((Any.strings_Count_one {y8h with} s 32 w).mono λe w' ⟨a1,a2⟩=>⟨by
    rw[a1];show _=Ending.returned (Value.int .i64 ((Lib.count s.data.toList [32]:Nat):Int))
    rw[Lib.count_one];rfl,a2⟩) (by decide) (by decide) (by rw[Qbx (by decide)];have:=Lib.countB_le ⟨#[32]⟩ h1 s.size s (Qbw _);omega)
 rw[Nat.add_sub_cancel,hlen]at c;have e2:Lib.cellsOf (Lib.splitB ⟨#[32]⟩ 0 (Lib.countB s ⟨#[32]⟩) s) (Lib.countB s ⟨#[32]⟩+1)=((Lib.splitB ⟨#[32]⟩ 0 (Lib.countB s ⟨#[32]⟩) s).map Value.string).toArray:=by rw[<-hlen];exact Lib.cellsOf_full _
 rw[e2]at c
 have hp:(Lib.splitB ⟨#[32]⟩ 0 (Lib.countB s ⟨#[32]⟩) s).map (·.data.toList)=parts 32 s.data.toList:=by
  rw[Lib.splitB_data];refine zv1 32 _ _ ?_;show _=Lib.count s.data.toList [32];rw[Lib.count_one];rfl
 go_enter func102,ntmps102
 go_wp2_with (go_at_call 157;refine c.mono ?_;rintro e w' ⟨rfl,hw⟩;rw[hw])
 go_ret
 refine⟨_,hp,?_,rfl⟩;rw[hlen];rfl
theorem yq4{W:World}{g:Gh}{H:Heap}(hG:Go.Ab.Good W g H)(xs:List B8)(hx:xs.length<=1073741824) :
  Rel (W.alloc (.cells (xs.map λl=>Value.string ⟨l.toArray⟩).toArray 9)) g H (.sl 1 (xs.map V.str) false) (.slice (some ⟨W.heap.size,0,none⟩) xs.length xs.length):=by
 have hno:¬Go.Ab.Own g H W.heap.size:=λ⟨l,i,o,h,he⟩=>by have:=hG.lt l i o h;omega
 have hcell:∀(j:Nat) (l:B8),xs[j]? = some l->(W.alloc (.cells (xs.map λl=>Value.string ⟨l.toArray⟩).toArray 9)).cell? ⟨W.heap.size,j,none⟩=some (.string ⟨l.toArray⟩):=λj l hj=>by
  rw[Lib.cell_of_heap (heap_alloc_new W _)];simp[hj]
 have key:∀(j:Nat) (y:V),(xs.map V.str)[j]? = some y->∃l,xs[j]? = some l∧y = .str l:=λj y hj=>by
  rw[Qan,Qaf]at hj;obtain⟨l,h1,rfl⟩:=hj;exact⟨l,h1,rfl⟩
 have:=Rel.sl (W:=W.alloc (.cells (xs.map λl=>Value.string ⟨l.toArray⟩).toArray 9)) (g:=g) (H:=H) 1 (xs.map V.str) false W.heap.size 0 xs.length (λj _=>.string ⟨(xs[j]?.getD []).toArray⟩) hno (by decide) (by simp) (by simp)
  (λj y hj=>by obtain⟨l,_,rfl⟩:=key j y hj;rfl)
  (λj y t v hj ht=>by
   obtain⟨l,hl',rfl⟩:=key j y hj
   cases t with
   |succ t=>simp[V.cells]at ht
   |zero=>
    rw[hl'];have:=hcell j l hl'
    simpa using this)
  (λj y t v hj ht=>rfl)
  (λj y t v hj ht=>by
   obtain⟨l,hl',rfl⟩:=key j y hj
   cases t with
   |succ t=>simp[V.cells]at ht
   |zero=>
    simp only[V.cells,Qcd,Qbu]at ht;subst ht;rw[hl']
    exact .str l)
 simpa using this
theorem mk_data(s:B8):(⟨s.toArray⟩:ByteArray).data.toList=s:=rfl
theorem yot(s:B8)(hs:s.length<=1048576):zjt prog 102 [.str s,.str [32]] (.sl 1 ((parts 32 s).map V.str) false):=λH W g cargs hG hA=>by
 obtain⟨a,b,rfl,h0,h1⟩:=ydw hA;cases h0;cases h1
 have hlen:(parts 32 s).length<=1048577:=by
  rw[zjp];have:=List.countP_le_length (p:=λx=>x==32) (l:=s);omega
 refine .inl ⟨call102 _ _,(ydo ⟨s.toArray⟩ W (by simp only[ByteArray.size];simp;omega)).mono ?_⟩
 rintro e W' ⟨l,hl,rfl,rfl⟩
 rw[mk_data]at hl
 have hlm:l.map Value.string=(parts 32 s).map λz=>Value.string ⟨z.toArray⟩:=by
  rw[<-hl,List.map_map];exact List.map_congr_left λb _=>by simp
 have hll:l.length=(parts 32 s).length:=by rw[<-hl,Qbd]
 rw[hlm,hll];have hg:Grow W (W.alloc (.cells ((parts 32 s).map λl=>Value.string ⟨l.toArray⟩).toArray 9)):=Grow.alloc W _;exact⟨_,g,rfl,hg.step,hG.grow hg,yq4 hG _ (by omega)⟩
theorem zwx:FOk prog zny:=λn R x k kp r h=>by
 obtain⟨y,hy,h⟩:=Qce.1 (show(zbt n x.1 x.2.1).bind (λr=>k (r,()))=some r from h);unfold zbt at hy;split at hy;rename_i hc;injection hy with hy;subst hy;refine⟨(_,()),h,rfl,rfl,rfl,λlv vargs ha=>⟨[.sl 1 ((parts 32 x.1).map V.str) false],λρ lv' =>?_,?_⟩⟩;show VRL dat ρ lv' [TV.sl .str (parts 32 x.1) 0] _;simp only[VRL,VR];exact⟨_,_,rfl,⟨DR.elsl .str _ λz=>.str z,by omega,by omega⟩,rfl⟩
 have ha:VRL dat [] lv [TV.str x.1,TV.str x.2.1] vargs:=ha;simp only[VRL,VR]at ha;obtain⟨v,r1,rfl,rfl,v2,r2,rfl,rfl,rfl⟩:=ha;rw[hc.1];exact yot _ hc.2;cases hy
theorem yfq(l:List ByteArray)(bk o c:Nat)(w:World)(hcells:∀(j:Nat) x,l[j]? = some x->w.cell? ⟨bk,o+j,none⟩=some (.string x))(hN:l.length<=1048576)(hcap:l.length<=c)
  (hlen:(Lib.join (l.map (·.data.toList)) [32]).length<=16777216) (h0:l=[]∨bk<w.heap.size) :
  Calls prog 60 #[.slice (some ⟨bk,o,none⟩) l.length c,.string ⟨#[32]⟩] w λe w'=>e = .returned (.string ⟨(Lib.join (l.map (·.data.toList)) [32]).toArray⟩)∧RowKit.Below w.heap.size w w':=by
 rcases h0 with rfl|hbk
 exact(Any.strings_Join_none y8l zek _ c ⟨#[32]⟩ w).mono λe w' ⟨he,hw⟩=>⟨he,hw▸RowKit.Below.refl _ _⟩
 exact Any.strings_Join y8l zek bk o c l ⟨#[32]⟩ w hcells hbk (by omega) hcap (by show(Lib.join (l.map (·.data.toList)) [32]).length<=_;omega)
theorem join_none(a:Option Addr)(c:Nat)(w:World):Calls prog 60 #[.slice a 0 c,.string ⟨#[32]⟩] w λe w'=>e = .returned (.string ⟨([]:B8).toArray⟩)∧w'=w :=
 (Any.strings_Join_none y8l zek a c ⟨#[32]⟩ w).mono λe w' ⟨he,hw⟩=>⟨he,hw⟩
def zcv:Nat->List B8->B8->Option B8:=λ_ xs t=>if t=[32]∧xs.length<=1048576∧(Lib.join xs [32]).length<=16777216 then some (Lib.join xs [32])else none
noncomputable def zpa:FI dat :=
 {R:=B8,ent:=λn=>{f:=60,p:=0,args:=[.d (.sl .str),.d .str],aos:=[],outs:=[.d .str],ros:=[],pan:=.nilp,pos:=[],pure:=true,go:=λx k _=>(zcv n x.1 x.2.1).bind λr=>k (r,())},
   c:=.skip,K:=⟨λ_=>none,[],λ_=>none,λ_ _=>none⟩,p:=0,args:=[],aos:=[],nt:=0,z02:=λ_=>[],go:=λ_ _=>none}
theorem ypj(xs:List B8)(hb1:xs.length<=1048576)(hb2:(Lib.join xs [32]).length<=16777216){v:V}(hv:DR dat (.sl .str) xs v):zjt prog 60 [v,.str [32]] (.str (Lib.join xs [32])):=λH W g cargs hG hR=>by
 obtain⟨x,y,rfl,h0,h1⟩:=ydw hR;cases h1;refine .inl ⟨call60 _ _,?_⟩
 have nil:∀a c,xs=[]->Calls prog 60 #[.slice a 0 c,.string ⟨#[32]⟩] W λe W'=>∃c g',e = .returned c∧Step W g H W' g' H∧Go.Ab.Good W' g' H∧Rel W' g' H (.str (Lib.join xs [32])) c:=λa c he=>(join_none a c W).mono λe w' ⟨he',hw⟩=>by
  subst he;subst hw;exact⟨_,g,he',.refl _ _ _,hG,.str _⟩
 cases hv with
 |nil=>cases h0;exact nil none 0 rfl
 |sl _ _ ws full hl hd=>
  have hws:ws=xs.map V.str:=by
   refine List.ext_getElem? λj =>?_
   rw[Qan]
   cases hj:xs[j]? with
   |none=>have:=List.getElem?_eq_none_iff.1 hj;simp only[Option.map_none];exact Qcf (by rw[hl];exact this)
   |some z=>
    have hlt:=(Qaa.1 hj).1;obtain⟨w,hw⟩:∃w,ws[j]? = some w:=⟨_,Qab (by rw[hl];exact hlt)⟩;have:=hd j z w hj hw;rw[hw];cases this;rfl
  subst hws;generalize hxs:xs.map V.str=ys at h0
  cases h0 with
  |slnil=>exact nil none 0 (by simpa using hxs)
  |sle _ _ a cap hf=>exact nil _ _ (by simpa using hxs)
  |sl _ _ _ b o cap c hb' hz hcap hf hs hc ho1 hr=>
   subst hxs
   have hcell:∀(j:Nat) (s:B8),xs[j]? = some s->W.cell? ⟨b,o+j,none⟩=some (.string ⟨s.toArray⟩):=λj s hj=>by
    have e1:(xs.map V.str)[j]? = some (.str s):=by rw[Qan,hj];rfl
    have e2:=hc j (.str s) 0 (.str s) e1 rfl;have e3:=hr j (.str s) 0 (.str s) e1 rfl;have e2:W.cell? ⟨b,o+j * 1+0,none⟩=some (c j 0):=e2;rw[Nat.mul_one,Nat.add_zero]at e2;rw[e2];cases hz:c j 0 <;> rw[hz]at e3 <;> cases e3
    rfl
   have hlm:(xs.map λs=>(⟨s.toArray⟩:ByteArray)).map (·.data.toList)=xs:=by rw[List.map_map];exact(List.map_congr_left λs _=>mk_data s).trans (List.map_id _)
   have:=yfq (xs.map λs=>⟨s.toArray⟩) b o cap W (λj x hj=>by
    rw[Qan,Qaf]at hj;obtain⟨s,hs,rfl⟩:=hj
    exact hcell j s hs) (by simpa using hb1) (by simpa using hcap) (by rw[hlm];exact hb2) (by
    cases xs with
    |nil=>exact .inl rfl
    |cons s t=>exact .inr (zvl (hcell 0 s rfl)))
   rw[hlm,Qbd]at this;rw[Qbd];refine this.mono ?_
   rintro e W' ⟨rfl,hB⟩
   have hg:Grow W W':=⟨hB.os,hB.tape,hB.output,hB.size,hB.block⟩;exact⟨_,g,rfl,hg.step,hG.grow hg,.str _⟩
theorem zyl:FOk prog zpa:=λn R x k kp r h=>by
 obtain⟨xs,t,u⟩:=x;change List B8 at xs;change B8 at t;obtain⟨y,hy,h⟩:=Qce.1 (show(zcv n xs t).bind (λr=>k (r,()))=some r from h);unfold zcv at hy;split at hy
 case isFalse=>cases hy
 rename_i hb;obtain⟨rfl,hb1,hb2⟩:=hb;injection hy with hy;subst hy;refine⟨(_,()),h,rfl,rfl,rfl,λlv vargs ha=>⟨[.str (Lib.join xs [32])],λρ lv' =>?_,?_⟩⟩;show VRL dat ρ lv' [TV.str (Lib.join xs [32])] _;simp only[VRL,VR];exact⟨_,_,rfl,rfl,rfl⟩;have ha:VRL dat [] lv [TV.sl .str xs 0,TV.str [32]] vargs:=ha;simp only[VRL,VR]at ha;obtain⟨v,r1,rfl,⟨hv,_,_⟩,v2,r2,rfl,rfl,rfl⟩:=ha;exact ypj xs hb1 hb2 hv
theorem zw3{f:Nat}{vargs:List V}{H:Heap}{rv:V}(hent:∀args w,(callFunc f args).run prog w = .ok (.enter f args) w)
  (h:∀W g cargs,Go.Ab.Good W g H->zgc W g H vargs cargs->Calls prog f cargs W λe W'=>Grow W W'∧∃c,e = .returned c∧Rel W' g H rv c):zni prog f vargs H λo H'=>o = .ret rv∧H'=H:=λW g cargs hG hA=>
 ⟨hent _ _,(h W g cargs hG hA).mono λe W' ⟨hg,c,he,hr⟩=>⟨.ret rv,H,g,⟨rfl,rfl⟩,hg.step,hG.grow hg,c,he,hr⟩⟩
theorem zto{lv:Nat}{L:List (Option zz4)}:Go.Ab.Left dat lv L [] 0 L [] [] () :=
 ⟨rfl,λ_ _ h=>(by cases h),λ_ _ _ _ _ h=>(by simp at h),λ_ _ _ h=>(by simp at h),λi hi _=>⟨hi,rfl⟩,λ_ _ h=>(Nat.not_lt_zero _ h).elim,λ_ _ _ h=>(by simp at h)⟩
def zbg:Nat->B8->Option B8
 |0,_=>none
 |n+1,a0=>some a0
def zyt:LSh:=⟨[(2,(.fn 98 [] [.ptr 0 0]))],[.cells [.d .str]],0,4,[]⟩
noncomputable def z9i:FI dat:=FI.of dat 42 4 0 [(.d .str)] [] [(.fn 98 [] [.ptr 0 0])] [.cells [.d .str]] false zyt (R:=B8) (λx=>x.1) (λr=>(r,())) (λn x=>zbg n x.1)
 (λn=>[]) (ann [] (f42.body.getD .skip) 0).1
theorem y00:(z9i).Good prog dat (tb []):=FI.z2e (hD:=kze _) func42 ntmps42 call42 (by kernel_rfl) (Qac (by kernel_rfl)) (by kernel_rfl) (λn=>by kernel_rfl) (λx=>by kernel_rfl) (λ_=>rfl) trivial
 (λn=>λx=>(zbg.eq_2 x.1 n).trans (by kernel_rfl))
 (λn=>trivial)
 (λx=>.inr (by kernel_rfl))
theorem zye:OkL prog [z9i]:=zko (kze _) (bs:=[]) trivial y00
theorem zwz:FOk prog z9i:=zye.1
def zcz:Nat->B8->Option (Res (Int×Unit) Int):=λ_ s=>if s.length<=1000000 then some (match Lib.atoiAll s with
 |.ok v=>.ok v
 |.range=>.pan (Lib.atoiSat s,())
 |_=>.pan (0,()))else none
noncomputable def zoi:FI dat :=
 {R:=Res (Int×Unit) Int,ent:=λn=>{f:=103,p:=0,args:=[.d .str],aos:=[],outs:=[.d (.int .i64),.nili],ros:=[],pan:=.tup [.d (.int .i64),.iface 233 .any],pos:=[],pure:=false,go:=λx k kp=>(zcz n x.1).bind λo=>zkg o (λr=>k (r,())) λy=>kp y},
   c:=.skip,K:=⟨λ_=>none,[],λ_=>none,λ_ _=>none⟩,p:=0,args:=[],aos:=[],nt:=0,z02:=λ_=>[],go:=λ_ _=>none}
theorem ybi(W:World)(ty:Nat)(t:ByteArray):Below W.heap.size W (Lib.bytesWorld W ty t):=⟨rfl,rfl,rfl,by rw[Lib.bytesWorld_size];omega,λj hj=>Lib.bytesWorld_at_old W ty t j hj⟩
theorem ylq{W:World}{g:Gh}{H:Heap}(hG:Go.Ab.Good W g H){k:Nat}(hk:gle k=true):∃v,W.cell? ⟨k,0,none⟩=some v∧(v = .nilIface∨∃te pe,v = .iface te pe):=by
 obtain⟨_,v,ty,q,h1,h2⟩:=hG.ziy.2 k hk;exact⟨v,by rw[Lib.cell_of_heap h1];rfl,h2⟩
theorem ymx(s:B8)(hs:s.length<=1000000)(H:Heap):zni prog 103 [.str s] H λo H'=>H'=H∧match Lib.atoiAll s with
  |.ok v=>o = .ret (.tup [.int .i64 v,.nili])
  |.range=>o = .ret (.tup [.int .i64 (Lib.atoiSat s),.iface 233 .any])
  |_=>o = .ret (.tup [.int .i64 0,.iface 233 .any]):=by
 have hz:(⟨s.toArray⟩:ByteArray).size<=281474976710656:=by show s.toArray.size<=_;simp;omega
 have tup2:∀{W:World}{g:Gh}{a b:V}{x y:Value},Rel W g H a x->Rel W g H b y->Rel W g H (.tup [a,b]) (.tuple #[x,y]):=λ{W g a b x y} h1 h2=>.tup _ _ rfl λj v hj=>by
  match j,hj with
  |0,hj=>simp at hj;subst hj;exact h1
  |1,hj=>simp at hj;subst hj;exact h2
  |j+2,hj=>simp at hj
 cases h:Lib.atoiAll s
 case ok v=>
  refine(zw3 (rv:=.tup [.int .i64 v,.nili]) (λ_ _=>call103 _ _) λW g cargs hG hA =>?_).mono λo H' ⟨a,b⟩=>⟨b,a⟩
  obtain⟨x,rfl,h0⟩:=y3f hA;cases h0;refine(Any.strconv_Atoi_ok y48 ⟨s.toArray⟩ (by omega) v h W).mono λe W' ⟨h1,h2⟩ =>?_
  have hB:Below W.heap.size W W':=by
   rcases h2 with rfl|⟨t,rfl⟩
   exact .refl _ _;exact ybi _ _ _
  exact⟨⟨hB.os,hB.tape,hB.output,hB.size,hB.block⟩,_,h1,tup2 (.int _ _) .nili⟩
 case range=>
  refine(zw3 (rv:=.tup [.int .i64 (Lib.atoiSat s),.iface 233 .any]) (λ_ _=>call103 _ _) λW g cargs hG hA =>?_).mono λo H' ⟨a,b⟩=>⟨b,a⟩
  obtain⟨x,rfl,h0⟩:=y3f hA;cases h0;obtain⟨ev,hv,hev⟩:=ylq hG (k:=4) rfl;refine(Any.strconv_Atoi_range y48 ⟨s.toArray⟩ hz h ev W hv hev).mono λe W' ⟨N,h1,_,_,hB⟩ =>?_
  exact⟨⟨hB.os,hB.tape,hB.output,hB.size,hB.block⟩,_,h1,tup2 (.int _ _) (.iface _ _ _ (.any _))⟩
 skip
 refine(zw3 (rv:=.tup [.int .i64 0,.iface 233 .any]) (λ_ _=>call103 _ _) λW g cargs hG hA =>?_).mono λo H' ⟨a,b⟩=>⟨b,a⟩
 obtain⟨x,rfl,h0⟩:=y3f hA;cases h0;obtain⟨ev,hv,hev⟩:=ylq hG (k:=3) rfl;refine(Any.strconv_Atoi_syntax y48 ⟨s.toArray⟩ hz h ev W hv hev).mono λe W' ⟨N,h1,_,_,hB⟩ =>?_
 exact⟨⟨hB.os,hB.tape,hB.output,hB.size,hB.block⟩,_,h1,tup2 (.int _ _) (.iface _ _ _ (.any _))⟩
theorem y05:FOk prog zoi:=λn R x k kp r h=>by
 obtain⟨o,ho,h⟩:=Qce.1 (show(zcz n x.1).bind (λo=>zkg o (λr=>k (r,())) λy=>kp y)=some r from h);unfold zcz at ho;split at ho
 case isFalse=>cases ho
 rename_i hs;injection ho with ho;have hr:=λH=>ymx x.1 hs H
 have fin:∀{v:Int}{e:V}{es:Sh},True:=λ{v e es}=>trivial
 cases ha:Lib.atoiAll x.1
 case ok v=>
  rw[ha]at ho hr;subst ho;refine .inl ⟨(v,()),h,λlv L E ρ0 vargs k1 k2 k3 k4 _ =>?_⟩;obtain rfl:ρ0=[]:=Qao k1;have k2:VRL dat [] lv [TV.str x.1] vargs:=k2;simp only[VRL,VR]at k2;obtain⟨v',r1,rfl,rfl,rfl⟩:=k2;refine(hr ⟨lv,L,E⟩).mono λo H' ⟨e1,e2⟩=>⟨L,[],e1,zto,⟨(λq hq=>by cases hq),.nil⟩,[.int .i64 v,.nili],e2,?_⟩
  show VRL dat [] lv [TV.int .i64 v,TV.nili] _;simp only[VRL,VR];exact⟨_,_,rfl,rfl,_,_,rfl,rfl,rfl⟩
 case range=>
  rw[ha]at ho hr;subst ho;refine .inr ⟨(Lib.atoiSat x.1,()),h,λlv L E ρ0 vargs k1 k2 k3 k4 _ =>?_⟩;obtain rfl:ρ0=[]:=Qao k1;have k2:VRL dat [] lv [TV.str x.1] vargs:=k2;simp only[VRL,VR]at k2;obtain⟨v',r1,rfl,rfl,rfl⟩:=k2;refine(hr ⟨lv,L,E⟩).mono λo H' ⟨e1,e2⟩=>⟨L,[],e1,zto,_,e2,?_⟩
  show VR dat [] lv (.tup [TV.int .i64 (Lib.atoiSat x.1),TV.iface 233 .any]) _;simp only[VR,VRL];exact⟨_,rfl,_,_,rfl,rfl,_,_,rfl,⟨_,rfl,trivial⟩,rfl⟩
 skip
 rw[ha]at ho hr;subst ho;refine .inr ⟨((0:Int),()),h,λlv L E ρ0 vargs k1 k2 k3 k4 _ =>?_⟩;obtain rfl:ρ0=[]:=Qao k1;have k2:VRL dat [] lv [TV.str x.1] vargs:=k2;simp only[VRL,VR]at k2;obtain⟨v',r1,rfl,rfl,rfl⟩:=k2;refine(hr ⟨lv,L,E⟩).mono λo H' ⟨e1,e2⟩=>⟨L,[],e1,zto,_,e2,?_⟩
 show VR dat [] lv (.tup [TV.int .i64 0,TV.iface 233 .any]) _;simp only[VR,VRL];exact⟨_,rfl,_,_,rfl,rfl,_,_,rfl,⟨_,rfl,trivial⟩,rfl⟩
end Go.Proofs.YthphaiccgnkobaaGreatDoor
namespace Go.Proofs.YthphaiccgnkobaaGreatDoor
open Go Go.Ab
open Go.Proofs.Tryz
set_option linter.unusedVariables false
set_option maxRecDepth 100000
set_option maxHeartbeats 4000000
def yen:Nat->B8->Ot kz0
 |0,_=>none
 |n+1,a=>
  some (kz0.mk 2 (zz0.mk 0 (yz4.mk 0 0) false [] []) a [])
def zn9:Nat->Int->Ot kz0
 |0,_=>none
 |n+1,a=>
  some (kz0.mk 1 (zz0.mk 1 (yz4.mk a 1) false [] []) [] [])
def zrg:Nat->Option kz0
 |0=>none
 |n+1=>
  some (kz0.mk 1 (zz0.mk 2 (yz4.mk 0 0) true [] []) [] [])
def yah:Nat->kz3->Ot yz0
 |0,_=>none
 |n+1,a=>
  (zn9 n 1).bind λy0=>
  (zrg n).bind λy1=>
  some (yz0.mk [(kzh.mk [107] y0.re)] [(yz5.mk [97] [[110]] [(kz6.mk 1 y1.re [a])])])
def z73:Nat->kz3->Ot Bool
 |0,_=>none
 |n+1,a=>
  some (decide ((a.items.length:Int)>10))
def y3u:LSh:=⟨[(2,dB)],[],0,7,[]⟩
noncomputable def zp0:FI dat:=FI.of dat 87 7 0 [dT 8] [] [dB] [] true y3u (R:=Bool) Prod.fst (·,()) (λn=>u1 (z73 n))
 (λn=>[]) (anb [] f87)
theorem y0l:FOk prog zp0:=okF (bs:=[]) trivial func87 ntmps87 call87
 (λn=>λ_=>tr (z73.eq_2 _ n))
 (λn=>trivial)
mutual
def kzg:Nat->z78->Ot Int
 |0,_=>none
 |n+1,a=>
  zza n 0 a (a.length:Int)
def zza:Nat->Int->z78->Int->Ot Int
 |0,_,_,_=>none
 |n+1,a,b,c=>
  pIf (decide (a<c))
   ((ix b a).bind λx0=>
   (z73 n x0).bind λy1=>
   pIf y1
    (some a)
    (zza n (IntKind.i64.wrap (a+1)) b c))
   (some (-1))
end
def za5:LSh:=⟨[(4,dI)],[],0,19,[]⟩
noncomputable def z3q:FI dat:=FI.of dat 147 19 0 [dL 8,(.fn 87 [] [])] [] [dI] [] true za5 (R:=Int) Prod.fst (·,()) (λn=>u1 (kzg n))
 (λn=>[(0,⟨⟨[(8,dI),(0,dL 8),(1,(.fn 87 [] [])),(7,dI)],[],0,19,[]⟩,u3 (zza n)⟩)]) (anb [(6,0)] f147)
theorem z9l:FOk prog z3q:=okF (bs:=[zp0]) ⟨y0l,trivial⟩ func147 ntmps147 call147
 (λ_ _=>tr (kzg.eq_2 ..))
 (λn=>⟨λ_=>tr (zza.eq_2 ..),
  trivial⟩)
def kz9:Nat->z78->Ot Bool
 |0,_=>none
 |n+1,a=>
  (kzg n a).bind λy0=>
  some (decide (y0>=0))
def z8s:LSh:=⟨[(4,dB)],[],0,9,[]⟩
noncomputable def z25:FI dat:=FI.of dat 86 9 0 [dL 8,(.fn 87 [] [])] [] [dB] [] true z8s (R:=Bool) Prod.fst (·,()) (λn=>u1 (kz9 n))
 (λn=>[]) (anb [] f86)
theorem z8j:FOk prog z25:=okF (bs:=[z3q]) ⟨z9l,trivial⟩ func86 ntmps86 call86
 (λ_ _=>tr (kz9.eq_2 ..))
 (λn=>trivial)
mutual
def z9u:Nat->yz0->Ot Bool
 |0,_=>none
 |n+1,a=>
  pIf (decide ((a.attrs.length:Int)>20))
   (z41 n true a)
   (z41 n (decide ((a.rules.length:Int)>40)) a)
def z41:Nat->Bool->yz0->Ot Bool
 |0,_,_=>none
 |n+1,a,b=>
  pIf a
   (some true)
   (z1v n 0 b.rules (b.rules.length:Int))
def z1v:Nat->Int->yzf->Int->Ot Bool
 |0,_,_,_=>none
 |n+1,a,b,c=>
  pIf (decide (a<c))
   ((ix b a).bind λx0=>
   pIf (decide ((x0.params.length:Int)>4))
    (z3y n b c a true x0)
    (z3y n b c a (decide ((x0.cases.length:Int)>6)) x0))
   (some false)
def z3y:Nat->yzf->Int->Int->Bool->yz5->Ot Bool
 |0,_,_,_,_,_=>none
 |n+1,a,b,c,d,e=>
  pIf d
   (some true)
   (z1x n 0 e.cases a b c (e.cases.length:Int))
def z1x:Nat->Int->z0r->yzf->Int->Int->Int->Ot Bool
 |0,_,_,_,_,_,_=>none
 |n+1,a,b,c,d,e,f=>
  pIf (decide (a<f))
   ((ix b a).bind λx1=>
   pIf (decide ((x1.do_.length:Int)>10))
    (z4a n b c d e f a true)
    ((kz9 n x1.do_).bind λy2=>
    z4a n b c d e f a y2))
   (z1v n (IntKind.i64.wrap (e+1)) c d)
def z4a:Nat->z0r->yzf->Int->Int->Int->Int->Bool->Ot Bool
 |0,_,_,_,_,_,_,_=>none
 |n+1,a,b,c,d,e,f,g=>
  pIf g
   (some true)
   (z1x n (IntKind.i64.wrap (f+1)) a b c d e)
end
def ya7:LSh:=⟨[(2,dB)],[],0,52,[]⟩
noncomputable def zub:FI dat:=FI.of dat 32 52 0 [dT 11] [] [dB] [] true ya7 (R:=Bool) Prod.fst (·,()) (λn=>u1 (z9u n))
 (λn=>[(0,⟨⟨[(1,(.ptr 0 0)),(16,dB)],[(.st 11)],0,52,[]⟩,u2 (z41 n)⟩),(1,⟨⟨[(20,dI),(18,dL 10),(19,dI)],[],0,52,[]⟩,u3 (z1v n)⟩),(2,⟨⟨[(18,dL 10),(19,dI),(20,dI),(4,(.ptr 0 0)),(33,dB)],[(.st 10)],0,52,[]⟩,u5 (z3y n)⟩),(3,⟨⟨[(37,dI),(35,dL 9),(18,dL 10),(19,dI),(20,dI),(36,dI)],[],0,52,[]⟩,u6 (z1x n)⟩),(4,⟨⟨[(35,dL 9),(18,dL 10),(19,dI),(20,dI),(36,dI),(37,dI),(49,dB)],[],0,52,[]⟩,u7 (z4a n)⟩)]) (anb [(5,0),(14,1),(28,2),(36,3),(49,4)] f32)
theorem y5y:FOk prog zub:=okF (bs:=[z25]) ⟨z8j,trivial⟩ func32 ntmps32 call32
 (λ_ _=>tr (z9u.eq_2 ..))
 (λn=>⟨λ_=>tr (z41.eq_2 ..),
  λ_=>tr (z1v.eq_2 ..),
  λ_=>tr (z3y.eq_2 ..),
  λ_=>tr (z1x.eq_2 ..),
  λ_=>tr (z4a.eq_2 ..),
  trivial⟩)
mutual
def z86:Nat->B8->Ot Bool
 |0,_=>none
 |n+1,a=>
  pIf ((a.length:Int)==0)
   (z6k n a true)
   (z6k n a (decide ((a.length:Int)>40)))
def z6k:Nat->B8->Bool->Ot Bool
 |0,_,_=>none
 |n+1,a,b=>
  pIf b
   (some false)
   (zzy n a 0)
def zzy:Nat->B8->Nat->Ot Bool
 |0,_,_=>none
 |n+1,a,b=>
  pIf (decide (b<a.length))
   (pIf (decide (((z9m a b).1:Int)>=97))
     (z45 n ((z9m a b).1:Int) (b:Int) (decide (((z9m a b).1:Int)<=122)) a (b+(z9m a b).2))
     (z45 n ((z9m a b).1:Int) (b:Int) false a (b+(z9m a b).2)))
   (some true)
def z45:Nat->Int->Int->Bool->B8->Nat->Ot Bool
 |0,_,_,_,_,_=>none
 |n+1,a,b,c,d,e=>
  pIf (!c)
   (pIf (b==0)
     (yzt n true d e)
     (pIf (a != 45)
       (pIf (decide (a<48))
         (yzt n true d e)
         (yzt n (decide (a>57)) d e))
       (yzt n false d e)))
   (yzt n false d e)
def yzt:Nat->Bool->B8->Nat->Ot Bool
 |0,_,_,_=>none
 |n+1,a,b,c=>
  pIf a
   (some false)
   (zzy n b c)
end
def y9b:LSh:=⟨[(2,dB)],[],0,44,[]⟩
noncomputable def zn8:FI dat:=FI.of dat 148 44 0 [dS] [] [dB] [] true y9b (R:=Bool) Prod.fst (·,()) (λn=>u1 (z86 n))
 (λn=>[(0,⟨⟨[(0,dS),(13,dB)],[],0,44,[]⟩,u2 (z6k n)⟩),(1,⟨⟨[(15,(.ptr 0 0))],[.siter],0,44,[]⟩,u2 (zzy n)⟩),(2,⟨⟨[(15,(.ptr 0 0)),(4,(.d (.int .i32))),(3,dI),(5,dB)],[.siter],0,44,[]⟩,u5 (z45 n)⟩),(3,⟨⟨[(15,(.ptr 0 0)),(43,dB)],[.siter],0,44,[]⟩,u3 (yzt n)⟩)]) (anb [(5,0),(14,1),(26,2),(28,3)] f148)
theorem zs5:FOk prog zn8:=okF (bs:=[]) trivial func148 ntmps148 call148
 (λ_ _=>tr (z86.eq_2 ..))
 (λn=>⟨λ_=>tr (z6k.eq_2 ..),
  λ_=>tr (zzy.eq_2 ..),
  λ_=>tr (z45.eq_2 ..),
  λ_=>tr (yzt.eq_2 ..),
  trivial⟩)
mutual
def kz8:Nat->(List B8)->B8->Ot Int
 |0,_,_=>none
 |n+1,a,b=>
  kza n 0 a b (a.length:Int)
def kza:Nat->Int->(List B8)->B8->Int->Ot Int
 |0,_,_,_,_=>none
 |n+1,a,b,c,d=>
  pIf (decide (a<d))
   ((ix b a).bind λx0=>
   pIf (c==x0)
    (some a)
    (kza n (IntKind.i64.wrap (a+1)) b c d))
   (some (-1))
end
def zgn:LSh:=⟨[(4,dI)],[],0,19,[]⟩
noncomputable def yzo:FI dat:=FI.of dat 35 19 0 [dA,dS] [] [dI] [] true zgn (R:=Int) Prod.fst (·,()) (λn=>u2 (kz8 n))
 (λn=>[(0,⟨⟨[(8,dI),(0,dA),(1,dS),(7,dI)],[],0,19,[]⟩,u4 (kza n)⟩)]) (anb [(6,0)] f35)
theorem z0y:FOk prog yzo:=okF (bs:=[]) trivial func35 ntmps35 call35
 (λ_ _=>tr (kz8.eq_2 ..))
 (λn=>⟨λ_=>tr (kza.eq_2 ..),
  trivial⟩)
end Go.Proofs.YthphaiccgnkobaaGreatDoor
