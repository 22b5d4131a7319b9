/-
  THE GO STRUCTS AS LEAN STRUCTURES, by a program of this repo (types.py).
-/
import Derived.Test.YthphaiccgnkobaaGreatDoorLib2
import Derived.Test.YthphaiccgnkobaaGreatDoorLib4
import Derived.Test.YthphaiccgnkobaaGreatDoorLib7
import Derived.Test.YthphaiccgnkobaaGreatDoorLib8
import Derived.KernelRfl
import Derived.Shelf.Small.Strs
import Derived.Shelf.Strconv.AtoiAll
import Derived.Shelf.Strconv.Itoa4
import Derived.Shelf.Strings.Split
import Derived.Shelf.Strings.OnBuilder
import Derived.Shelf.Strings.Fields
import Derived.Shelf.Strings.Builder1
import Derived.Shelf.Strings.Search1
import Derived.Shelf.Strings.Search2
import Derived.Shelf.Slices.CompactS
import Derived.Shelf.Sort.Plain
import Derived.Shelf.Slices.In.SortNone
import Derived.Ground.NamesProg
import Derived.Test.YthphaiccgnkobaaGreatDoorProg
import Derived.RangeFuncBox
import Derived.RangeFuncLeaves
import Derived.RangeFuncFrom
import Derived.RangeFuncCalls
import Derived.Shelf.Abstract
import Derived.WalkKit
import Derived.OwnWalkIn
import Derived.TacticsInMore
import Derived.LoopNIn
import Derived.LoopIn
import Derived.Shelf.RegionOpen
import Derived.Test.YthphaiccgnkobaaGreatDoorLib9
namespace Go.Ab
open Go
set_option linter.unusedVariables false
set_option linter.unusedSimpArgs false
structure yz4 where
 num:Int
 den:Int
def yz4.el(x:yz4):V:=.agg [.int .i64 x.num,.int .i64 x.den]
def yz4.size(x:yz4):Nat:=1+1+1
def yz4.wf(x:yz4):Prop:=(IntKind.i64.min<=x.num∧x.num<=IntKind.i64.max)∧(IntKind.i64.min<=x.den∧x.den<=IntKind.i64.max)
theorem yz4.kzc(x:yz4):x.el = .agg [.int .i64 x.num,.int .i64 x.den]:=by rw[yz4.el]
theorem yz4.size_eq(x:yz4):x.size=1+1+1:=by rw[yz4.size]
theorem yz4.z5u(x:yz4):x.wf=((IntKind.i64.min<=x.num∧x.num<=IntKind.i64.max)∧(IntKind.i64.min<=x.den∧x.den<=IntKind.i64.max)):=by rw[yz4.wf]
theorem yz4.zzn(x:yz4):x.el.cells.length=2:=by rw[yz4.kzc];rfl
theorem yz4.zgt(x:yz4):x.el = .agg x.el.cells:=by rw[yz4.kzc];rfl
theorem yz4.kin{D:Nat->Nat->Prop}(x:yz4):V.kin D x.el:=by rw[yz4.kzc];simp only[V.kin,V.zcd,and_true,true_and]
def yz4.ty:Ty yz4:=⟨yz4.el,2,yz4.size,yz4.wf,yz4.zzn⟩
structure kz0 where
 kind:Int
 num:yz4
 truth:Bool
 str:B8
 list:List kz0
theorem kz0.y4o{x y:kz0}(h:y∈x.list):SizeOf.sizeOf y<SizeOf.sizeOf x:=by cases x;have:=List.sizeOf_lt_of_mem h;simp at this ⊢;omega
def kz0.el(x:kz0):V:=.agg [.int .u8 x.kind,.int .i64 x.num.num,.int .i64 x.num.den,.bool x.truth,.str x.str,.sl 6 (x.list.map kz0.el) false]
 termination_by x
 decreasing_by all_goals first|exact kz0.y4o ‹_›
def kz0.size(x:kz0):Nat:=1+x.num.size+1+(x.str.length+1)+((x.list.map kz0.size).sum+1)+1
 termination_by x
 decreasing_by all_goals first|exact kz0.y4o ‹_›
def kz0.wf(x:kz0):Prop:=(IntKind.u8.min<=x.kind∧x.kind<=IntKind.u8.max)∧x.num.wf∧True∧True∧(∀y∈x.list,y.wf)
 termination_by x
 decreasing_by all_goals first|exact kz0.y4o ‹_›
theorem kz0.kzc(x:kz0):x.el = .agg [.int .u8 x.kind,.int .i64 x.num.num,.int .i64 x.num.den,.bool x.truth,.str x.str,.sl 6 (x.list.map kz0.el) false]:=by rw[kz0.el]
theorem kz0.size_eq(x:kz0):x.size=1+x.num.size+1+(x.str.length+1)+((x.list.map kz0.size).sum+1)+1:=by rw[kz0.size]
theorem kz0.z5u(x:kz0):x.wf=((IntKind.u8.min<=x.kind∧x.kind<=IntKind.u8.max)∧x.num.wf∧True∧True∧(∀y∈x.list,y.wf)):=by rw[kz0.wf]
theorem kz0.zzn(x:kz0):x.el.cells.length=6:=by rw[kz0.kzc];rfl
theorem kz0.zgt(x:kz0):x.el = .agg x.el.cells:=by rw[kz0.kzc];rfl
theorem kz0.kin{D:Nat->Nat->Prop}(x:kz0):V.kin D x.el:=by rw[kz0.kzc];simp only[V.kin,V.zcd,and_true,true_and];exact z81 λy hy=>kz0.kin y
 termination_by x
 decreasing_by all_goals first|exact kz0.y4o ‹_›
def kz0.ty:Ty kz0:=⟨kz0.el,6,kz0.size,kz0.wf,kz0.zzn⟩
structure zz1 where
 op:Int
 value:kz0
 name:B8
 args:List zz1
theorem zz1.y4i{x y:zz1}(h:y∈x.args):SizeOf.sizeOf y<SizeOf.sizeOf x:=by cases x;have:=List.sizeOf_lt_of_mem h;simp at this ⊢;omega
def zz1.el(x:zz1):V:=.agg [.int .u8 x.op,.int .u8 x.value.kind,.int .i64 x.value.num.num,.int .i64 x.value.num.den,.bool x.value.truth,.str x.value.str,.sl 6 (x.value.list.map kz0.el) false,.str x.name,.sl 9 (x.args.map zz1.el) false]
 termination_by x
 decreasing_by all_goals first|exact zz1.y4i ‹_›
def zz1.size(x:zz1):Nat:=1+x.value.size+(x.name.length+1)+((x.args.map zz1.size).sum+1)+1
 termination_by x
 decreasing_by all_goals first|exact zz1.y4i ‹_›
def zz1.wf(x:zz1):Prop:=(IntKind.u8.min<=x.op∧x.op<=IntKind.u8.max)∧x.value.wf∧True∧(∀y∈x.args,y.wf)
 termination_by x
 decreasing_by all_goals first|exact zz1.y4i ‹_›
theorem zz1.kzc(x:zz1):x.el = .agg [.int .u8 x.op,.int .u8 x.value.kind,.int .i64 x.value.num.num,.int .i64 x.value.num.den,.bool x.value.truth,.str x.value.str,.sl 6 (x.value.list.map kz0.el) false,.str x.name,.sl 9 (x.args.map zz1.el) false]:=by rw[zz1.el]
theorem zz1.size_eq(x:zz1):x.size=1+x.value.size+(x.name.length+1)+((x.args.map zz1.size).sum+1)+1:=by rw[zz1.size]
theorem zz1.z5u(x:zz1):x.wf=((IntKind.u8.min<=x.op∧x.op<=IntKind.u8.max)∧x.value.wf∧True∧(∀y∈x.args,y.wf)):=by rw[zz1.wf]
theorem zz1.zzn(x:zz1):x.el.cells.length=9:=by rw[zz1.kzc];rfl
theorem zz1.zgt(x:zz1):x.el = .agg x.el.cells:=by rw[zz1.kzc];rfl
theorem zz1.kin{D:Nat->Nat->Prop}(x:zz1):V.kin D x.el:=by rw[zz1.kzc];simp only[V.kin,V.zcd,and_true,true_and];exact⟨z81 λy hy=>kz0.kin y,z81 λy hy=>zz1.kin y⟩
 termination_by x
 decreasing_by all_goals first|exact zz1.y4i ‹_›
def zz1.ty:Ty zz1:=⟨zz1.el,9,zz1.size,zz1.wf,zz1.zzn⟩
structure zzi where
 name:B8
 value:zz1
def zzi.el(x:zzi):V:=.agg [.str x.name,.int .u8 x.value.op,.int .u8 x.value.value.kind,.int .i64 x.value.value.num.num,.int .i64 x.value.value.num.den,.bool x.value.value.truth,.str x.value.value.str,.sl 6 (x.value.value.list.map kz0.el) false,.str x.value.name,.sl 9 (x.value.args.map zz1.el) false]
def zzi.size(x:zzi):Nat:=(x.name.length+1)+x.value.size+1
def zzi.wf(x:zzi):Prop:=True∧x.value.wf
theorem zzi.kzc(x:zzi):x.el = .agg [.str x.name,.int .u8 x.value.op,.int .u8 x.value.value.kind,.int .i64 x.value.value.num.num,.int .i64 x.value.value.num.den,.bool x.value.value.truth,.str x.value.value.str,.sl 6 (x.value.value.list.map kz0.el) false,.str x.value.name,.sl 9 (x.value.args.map zz1.el) false]:=by rw[zzi.el]
theorem zzi.size_eq(x:zzi):x.size=(x.name.length+1)+x.value.size+1:=by rw[zzi.size]
theorem zzi.z5u(x:zzi):x.wf=(True∧x.value.wf):=by rw[zzi.wf]
theorem zzi.zzn(x:zzi):x.el.cells.length=10:=by rw[zzi.kzc];rfl
theorem zzi.zgt(x:zzi):x.el = .agg x.el.cells:=by rw[zzi.kzc];rfl
theorem zzi.kin{D:Nat->Nat->Prop}(x:zzi):V.kin D x.el:=by rw[zzi.kzc];simp only[V.kin,V.zcd,and_true,true_and];exact⟨z81 λy hy=>kz0.kin y,z81 λy hy=>zz1.kin y⟩
def zzi.ty:Ty zzi:=⟨zzi.el,10,zzi.size,zzi.wf,zzi.zzn⟩
structure yzj where
 kind:Int
 name:B8
 args:List zz1
def yzj.el(x:yzj):V:=.agg [.int .u8 x.kind,.str x.name,.sl 9 (x.args.map zz1.el) false]
def yzj.size(x:yzj):Nat:=1+(x.name.length+1)+((x.args.map zz1.size).sum+1)+1
def yzj.wf(x:yzj):Prop:=(IntKind.u8.min<=x.kind∧x.kind<=IntKind.u8.max)∧True∧(∀y∈x.args,y.wf)
theorem yzj.kzc(x:yzj):x.el = .agg [.int .u8 x.kind,.str x.name,.sl 9 (x.args.map zz1.el) false]:=by rw[yzj.el]
theorem yzj.size_eq(x:yzj):x.size=1+(x.name.length+1)+((x.args.map zz1.size).sum+1)+1:=by rw[yzj.size]
theorem yzj.z5u(x:yzj):x.wf=((IntKind.u8.min<=x.kind∧x.kind<=IntKind.u8.max)∧True∧(∀y∈x.args,y.wf)):=by rw[yzj.wf]
theorem yzj.zzn(x:yzj):x.el.cells.length=3:=by rw[yzj.kzc];rfl
theorem yzj.zgt(x:yzj):x.el = .agg x.el.cells:=by rw[yzj.kzc];rfl
theorem yzj.kin{D:Nat->Nat->Prop}(x:yzj):V.kin D x.el:=by rw[yzj.kzc];simp only[V.kin,V.zcd,and_true,true_and];exact z81 λy hy=>zz1.kin y
def yzj.ty:Ty yzj:=⟨yzj.el,3,yzj.size,yzj.wf,yzj.zzn⟩
structure zz4 where
 kind:Int
 axis:Int
 name:B8
 args:List zz1
 items:List yzj
def zz4.el(x:zz4):V:=.agg [.int .u8 x.kind,.int .u8 x.axis,.str x.name,.sl 9 (x.args.map zz1.el) false,.sl 3 (x.items.map yzj.el) false]
def zz4.size(x:zz4):Nat:=1+1+(x.name.length+1)+((x.args.map zz1.size).sum+1)+((x.items.map yzj.size).sum+1)+1
def zz4.wf(x:zz4):Prop:=(IntKind.u8.min<=x.kind∧x.kind<=IntKind.u8.max)∧(IntKind.u8.min<=x.axis∧x.axis<=IntKind.u8.max)∧True∧(∀y∈x.args,y.wf)∧(∀y∈x.items,y.wf)
theorem zz4.kzc(x:zz4):x.el = .agg [.int .u8 x.kind,.int .u8 x.axis,.str x.name,.sl 9 (x.args.map zz1.el) false,.sl 3 (x.items.map yzj.el) false]:=by rw[zz4.el]
theorem zz4.size_eq(x:zz4):x.size=1+1+(x.name.length+1)+((x.args.map zz1.size).sum+1)+((x.items.map yzj.size).sum+1)+1:=by rw[zz4.size]
theorem zz4.z5u(x:zz4):x.wf=((IntKind.u8.min<=x.kind∧x.kind<=IntKind.u8.max)∧(IntKind.u8.min<=x.axis∧x.axis<=IntKind.u8.max)∧True∧(∀y∈x.args,y.wf)∧(∀y∈x.items,y.wf)):=by rw[zz4.wf]
theorem zz4.zzn(x:zz4):x.el.cells.length=5:=by rw[zz4.kzc];rfl
theorem zz4.zgt(x:zz4):x.el = .agg x.el.cells:=by rw[zz4.kzc];rfl
theorem zz4.kin{D:Nat->Nat->Prop}(x:zz4):V.kin D x.el:=by rw[zz4.kzc];simp only[V.kin,V.zcd,and_true,true_and];exact⟨z81 λy hy=>zz1.kin y,z81 λy hy=>yzj.kin y⟩
def zz4.ty:Ty zz4:=⟨zz4.el,5,zz4.size,zz4.wf,zz4.zzn⟩
structure zz6 where
 weight:Int
 when_:zz1
 do_:List zz4
def zz6.el(x:zz6):V:=.agg [.int .i64 x.weight,.int .u8 x.when_.op,.int .u8 x.when_.value.kind,.int .i64 x.when_.value.num.num,.int .i64 x.when_.value.num.den,.bool x.when_.value.truth,.str x.when_.value.str,.sl 6 (x.when_.value.list.map kz0.el) false,.str x.when_.name,.sl 9 (x.when_.args.map zz1.el) false,.sl 5 (x.do_.map zz4.el) false]
def zz6.size(x:zz6):Nat:=1+x.when_.size+((x.do_.map zz4.size).sum+1)+1
def zz6.wf(x:zz6):Prop:=(IntKind.i64.min<=x.weight∧x.weight<=IntKind.i64.max)∧x.when_.wf∧(∀y∈x.do_,y.wf)
theorem zz6.kzc(x:zz6):x.el = .agg [.int .i64 x.weight,.int .u8 x.when_.op,.int .u8 x.when_.value.kind,.int .i64 x.when_.value.num.num,.int .i64 x.when_.value.num.den,.bool x.when_.value.truth,.str x.when_.value.str,.sl 6 (x.when_.value.list.map kz0.el) false,.str x.when_.name,.sl 9 (x.when_.args.map zz1.el) false,.sl 5 (x.do_.map zz4.el) false]:=by rw[zz6.el]
theorem zz6.size_eq(x:zz6):x.size=1+x.when_.size+((x.do_.map zz4.size).sum+1)+1:=by rw[zz6.size]
theorem zz6.z5u(x:zz6):x.wf=((IntKind.i64.min<=x.weight∧x.weight<=IntKind.i64.max)∧x.when_.wf∧(∀y∈x.do_,y.wf)):=by rw[zz6.wf]
theorem zz6.zzn(x:zz6):x.el.cells.length=11:=by rw[zz6.kzc];rfl
theorem zz6.zgt(x:zz6):x.el = .agg x.el.cells:=by rw[zz6.kzc];rfl
theorem zz6.kin{D:Nat->Nat->Prop}(x:zz6):V.kin D x.el:=by rw[zz6.kzc];simp only[V.kin,V.zcd,and_true,true_and];exact⟨z81 λy hy=>kz0.kin y,z81 λy hy=>zz1.kin y,z81 λy hy=>zz4.kin y⟩
def zz6.ty:Ty zz6:=⟨zz6.el,11,zz6.size,zz6.wf,zz6.zzn⟩
structure yz5 where
 name:B8
 params:List B8
 cases:List zz6
def yz5.el(x:yz5):V:=.agg [.str x.name,.sl 1 (x.params.map V.str) false,.sl 11 (x.cases.map zz6.el) false]
def yz5.size(x:yz5):Nat:=(x.name.length+1)+((x.params.map (λs=>s.length+1)).sum+1)+((x.cases.map zz6.size).sum+1)+1
def yz5.wf(x:yz5):Prop:=True∧(∀y∈x.params,True)∧(∀y∈x.cases,y.wf)
theorem yz5.kzc(x:yz5):x.el = .agg [.str x.name,.sl 1 (x.params.map V.str) false,.sl 11 (x.cases.map zz6.el) false]:=by rw[yz5.el]
theorem yz5.size_eq(x:yz5):x.size=(x.name.length+1)+((x.params.map (λs=>s.length+1)).sum+1)+((x.cases.map zz6.size).sum+1)+1:=by rw[yz5.size]
theorem yz5.z5u(x:yz5):x.wf=(True∧(∀y∈x.params,True)∧(∀y∈x.cases,y.wf)):=by rw[yz5.wf]
theorem yz5.zzn(x:yz5):x.el.cells.length=3:=by rw[yz5.kzc];rfl
theorem yz5.zgt(x:yz5):x.el = .agg x.el.cells:=by rw[yz5.kzc];rfl
theorem yz5.kin{D:Nat->Nat->Prop}(x:yz5):V.kin D x.el:=by rw[yz5.kzc];simp only[V.kin,V.zcd,and_true,true_and];exact⟨z81 λ_ _=>by simp[V.kin],z81 λy hy=>zz6.kin y⟩
def yz5.ty:Ty yz5:=⟨yz5.el,3,yz5.size,yz5.wf,yz5.zzn⟩
structure yz1 where
 attrs:List zzi
 rules:List yz5
def yz1.el(x:yz1):V:=.agg [.sl 10 (x.attrs.map zzi.el) false,.sl 3 (x.rules.map yz5.el) false]
def yz1.size(x:yz1):Nat:=((x.attrs.map zzi.size).sum+1)+((x.rules.map yz5.size).sum+1)+1
def yz1.wf(x:yz1):Prop:=(∀y∈x.attrs,y.wf)∧(∀y∈x.rules,y.wf)
theorem yz1.kzc(x:yz1):x.el = .agg [.sl 10 (x.attrs.map zzi.el) false,.sl 3 (x.rules.map yz5.el) false]:=by rw[yz1.el]
theorem yz1.size_eq(x:yz1):x.size=((x.attrs.map zzi.size).sum+1)+((x.rules.map yz5.size).sum+1)+1:=by rw[yz1.size]
theorem yz1.z5u(x:yz1):x.wf=((∀y∈x.attrs,y.wf)∧(∀y∈x.rules,y.wf)):=by rw[yz1.wf]
theorem yz1.zzn(x:yz1):x.el.cells.length=2:=by rw[yz1.kzc];rfl
theorem yz1.zgt(x:yz1):x.el = .agg x.el.cells:=by rw[yz1.kzc];rfl
theorem yz1.kin{D:Nat->Nat->Prop}(x:yz1):V.kin D x.el:=by rw[yz1.kzc];simp only[V.kin,V.zcd,and_true,true_and];exact⟨z81 λy hy=>zzi.kin y,z81 λy hy=>yz5.kin y⟩
def yz1.ty:Ty yz1:=⟨yz1.el,2,yz1.size,yz1.wf,yz1.zzn⟩
structure kzs where
 name:B8
 many:Int
def kzs.el(x:kzs):V:=.agg [.str x.name,.int .i64 x.many]
def kzs.size(x:kzs):Nat:=(x.name.length+1)+1+1
def kzs.wf(x:kzs):Prop:=True∧(IntKind.i64.min<=x.many∧x.many<=IntKind.i64.max)
theorem kzs.kzc(x:kzs):x.el = .agg [.str x.name,.int .i64 x.many]:=by rw[kzs.el]
theorem kzs.size_eq(x:kzs):x.size=(x.name.length+1)+1+1:=by rw[kzs.size]
theorem kzs.z5u(x:kzs):x.wf=(True∧(IntKind.i64.min<=x.many∧x.many<=IntKind.i64.max)):=by rw[kzs.wf]
theorem kzs.zzn(x:kzs):x.el.cells.length=2:=by rw[kzs.kzc];rfl
theorem kzs.zgt(x:kzs):x.el = .agg x.el.cells:=by rw[kzs.kzc];rfl
theorem kzs.kin{D:Nat->Nat->Prop}(x:kzs):V.kin D x.el:=by rw[kzs.kzc];simp only[V.kin,V.zcd,and_true,true_and]
def kzs.ty:Ty kzs:=⟨kzs.el,2,kzs.size,kzs.wf,kzs.zzn⟩
structure kzd where
 p:yz1
 ok:Bool
def kzd.el(x:kzd):V:=.agg [.sl 10 (x.p.attrs.map zzi.el) false,.sl 3 (x.p.rules.map yz5.el) false,.bool x.ok]
def kzd.size(x:kzd):Nat:=x.p.size+1+1
def kzd.wf(x:kzd):Prop:=x.p.wf∧True
theorem kzd.kzc(x:kzd):x.el = .agg [.sl 10 (x.p.attrs.map zzi.el) false,.sl 3 (x.p.rules.map yz5.el) false,.bool x.ok]:=by rw[kzd.el]
theorem kzd.size_eq(x:kzd):x.size=x.p.size+1+1:=by rw[kzd.size]
theorem kzd.z5u(x:kzd):x.wf=(x.p.wf∧True):=by rw[kzd.wf]
theorem kzd.zzn(x:kzd):x.el.cells.length=3:=by rw[kzd.kzc];rfl
theorem kzd.zgt(x:kzd):x.el = .agg x.el.cells:=by rw[kzd.kzc];rfl
theorem kzd.kin{D:Nat->Nat->Prop}(x:kzd):V.kin D x.el:=by rw[kzd.kzc];simp only[V.kin,V.zcd,and_true,true_and];exact⟨z81 λy hy=>zzi.kin y,z81 λy hy=>yz5.kin y⟩
def kzd.ty:Ty kzd:=⟨kzd.el,3,kzd.size,kzd.wf,kzd.zzn⟩
structure z2q where
 name:B8
 many:Int
def z2q.el(x:z2q):V:=.agg [.str x.name,.int .i64 x.many]
def z2q.size(x:z2q):Nat:=(x.name.length+1)+1+1
def z2q.wf(x:z2q):Prop:=True∧(IntKind.i64.min<=x.many∧x.many<=IntKind.i64.max)
theorem z2q.kzc(x:z2q):x.el = .agg [.str x.name,.int .i64 x.many]:=by rw[z2q.el]
theorem z2q.size_eq(x:z2q):x.size=(x.name.length+1)+1+1:=by rw[z2q.size]
theorem z2q.z5u(x:z2q):x.wf=(True∧(IntKind.i64.min<=x.many∧x.many<=IntKind.i64.max)):=by rw[z2q.wf]
theorem z2q.zzn(x:z2q):x.el.cells.length=2:=by rw[z2q.kzc];rfl
theorem z2q.zgt(x:z2q):x.el = .agg x.el.cells:=by rw[z2q.kzc];rfl
theorem z2q.kin{D:Nat->Nat->Prop}(x:z2q):V.kin D x.el:=by rw[z2q.kzc];simp only[V.kin,V.zcd,and_true,true_and]
def z2q.ty:Ty z2q:=⟨z2q.el,2,z2q.size,z2q.wf,z2q.zzn⟩
structure kz2 where
 s:B8
def kz2.el(x:kz2):V:=.agg [.str x.s]
def kz2.size(x:kz2):Nat:=(x.s.length+1)+1
def kz2.wf(x:kz2):Prop:=True
theorem kz2.kzc(x:kz2):x.el = .agg [.str x.s]:=by rw[kz2.el]
theorem kz2.size_eq(x:kz2):x.size=(x.s.length+1)+1:=by rw[kz2.size]
theorem kz2.z5u(x:kz2):x.wf=(True):=by rw[kz2.wf]
theorem kz2.zzn(x:kz2):x.el.cells.length=1:=by rw[kz2.kzc];rfl
theorem kz2.zgt(x:kz2):x.el = .agg x.el.cells:=by rw[kz2.kzc];rfl
theorem kz2.kin{D:Nat->Nat->Prop}(x:kz2):V.kin D x.el:=by rw[kz2.kzc];simp only[V.kin,V.zcd,and_true,true_and]
def kz2.ty:Ty kz2:=⟨kz2.el,1,kz2.size,kz2.wf,kz2.zzn⟩
structure zz3 where
 s:B8
 at_:Int
 ok:Bool
def zz3.el(x:zz3):V:=.agg [.str x.s,.int .i64 x.at_,.bool x.ok]
def zz3.size(x:zz3):Nat:=(x.s.length+1)+1+1+1
def zz3.wf(x:zz3):Prop:=True∧(IntKind.i64.min<=x.at_∧x.at_<=IntKind.i64.max)∧True
theorem zz3.kzc(x:zz3):x.el = .agg [.str x.s,.int .i64 x.at_,.bool x.ok]:=by rw[zz3.el]
theorem zz3.size_eq(x:zz3):x.size=(x.s.length+1)+1+1+1:=by rw[zz3.size]
theorem zz3.z5u(x:zz3):x.wf=(True∧(IntKind.i64.min<=x.at_∧x.at_<=IntKind.i64.max)∧True):=by rw[zz3.wf]
theorem zz3.zzn(x:zz3):x.el.cells.length=3:=by rw[zz3.kzc];rfl
theorem zz3.zgt(x:zz3):x.el = .agg x.el.cells:=by rw[zz3.kzc];rfl
theorem zz3.kin{D:Nat->Nat->Prop}(x:zz3):V.kin D x.el:=by rw[zz3.kzc];simp only[V.kin,V.zcd,and_true,true_and]
def zz3.ty:Ty zz3:=⟨zz3.el,3,zz3.size,zz3.wf,zz3.zzn⟩
abbrev GRatio_l:=List yz4
abbrev zzw:=List kz0
abbrev yz6:=List zz1
abbrev z02:=List zzi
abbrev ztt:=List yzj
abbrev zaf:=List zz4
abbrev z1o:=List zz6
abbrev yzf:=List yz5
abbrev z05p:=List yz1
abbrev z86:=List kzs
abbrev z05c:=List kzd
abbrev zcw:=List z2q
abbrev z04m:=List kz2
abbrev z04i:=List zz3
structure zf8 where
 e0:B8
 e1:B8
 e2:B8
 e3:B8
 e4:B8
 e5:B8
 e6:B8
 e7:B8
def zf8.el(x:zf8):V:=.agg [.str x.e0,.str x.e1,.str x.e2,.str x.e3,.str x.e4,.str x.e5,.str x.e6,.str x.e7]
theorem zf8.kzc(x:zf8):x.el = .agg [.str x.e0,.str x.e1,.str x.e2,.str x.e3,.str x.e4,.str x.e5,.str x.e6,.str x.e7]:=rfl
theorem zf8.kin{Dm:Nat->Nat->Prop}(x:zf8):V.kin Dm x.el:=by simp[zf8.el,V.kin,V.zcd]
structure zf1 where
 e0:B8
 e1:B8
 e2:B8
 e3:B8
 e4:B8
 e5:B8
 e6:B8
def zf1.el(x:zf1):V:=.agg [.str x.e0,.str x.e1,.str x.e2,.str x.e3,.str x.e4,.str x.e5,.str x.e6]
theorem zf1.kzc(x:zf1):x.el = .agg [.str x.e0,.str x.e1,.str x.e2,.str x.e3,.str x.e4,.str x.e5,.str x.e6]:=rfl
theorem zf1.kin{Dm:Nat->Nat->Prop}(x:zf1):V.kin Dm x.el:=by simp[zf1.el,V.kin,V.zcd]
structure zfh where
 e0:B8
 e1:B8
 e2:B8
 e3:B8
def zfh.el(x:zfh):V:=.agg [.str x.e0,.str x.e1,.str x.e2,.str x.e3]
theorem zfh.kzc(x:zfh):x.el = .agg [.str x.e0,.str x.e1,.str x.e2,.str x.e3]:=rfl
theorem zfh.kin{Dm:Nat->Nat->Prop}(x:zfh):V.kin Dm x.el:=by simp[zfh.el,V.kin,V.zcd]
def kz0.re(x:kz0):kz0:=⟨x.kind,x.num,x.truth,x.str,x.list⟩
@[simp] theorem kz0.kz3 (x:kz0):x.re=x:=by cases x;simp[kz0.re]
def zz1.re(x:zz1):zz1:=⟨x.op,x.value.re,x.name,x.args⟩
@[simp] theorem zz1.kz3 (x:zz1):x.re=x:=by cases x;simp[zz1.re]
def zzi.re(x:zzi):zzi:=⟨x.name,x.value.re⟩
@[simp] theorem zzi.kz3 (x:zzi):x.re=x:=by cases x;simp[zzi.re]
def zz6.re(x:zz6):zz6:=⟨x.weight,x.when_.re,x.do_⟩
@[simp] theorem zz6.kz3 (x:zz6):x.re=x:=by cases x;simp[zz6.re]
def datT:Nat->Type
 |0=>zf8
 |1=>zf1
 |2=>zfh
 |3=>yz4
 |4=>kz0
 |5=>zz1
 |6=>zzi
 |7=>yzj
 |8=>zz4
 |9=>zz6
 |10=>yz5
 |11=>yz1
 |12=>kzs
 |13=>kzd
 |14=>z2q
 |15=>kz2
 |16=>zz3
 |_=>Unit
def zix:Nat->List DTy
 |0=>[.str,.str,.str,.str,.str,.str,.str,.str]
 |1=>[.str,.str,.str,.str,.str,.str,.str]
 |2=>[.str,.str,.str,.str]
 |3=>[.int .i64,.int .i64]
 |4=>[.int .u8,.int .i64,.int .i64,.bool,.str,.sl (.st 4)]
 |5=>[.int .u8,.int .u8,.int .i64,.int .i64,.bool,.str,.sl (.st 4),.str,.sl (.st 5)]
 |6=>[.str,.int .u8,.int .u8,.int .i64,.int .i64,.bool,.str,.sl (.st 4),.str,.sl (.st 5)]
 |7=>[.int .u8,.str,.sl (.st 5)]
 |8=>[.int .u8,.int .u8,.str,.sl (.st 5),.sl (.st 7)]
 |9=>[.int .i64,.int .u8,.int .u8,.int .i64,.int .i64,.bool,.str,.sl (.st 4),.str,.sl (.st 5),.sl (.st 8)]
 |10=>[.str,.sl .str,.sl (.st 9)]
 |11=>[.sl (.st 6),.sl (.st 10)]
 |12=>[.str,.int .i64]
 |13=>[.sl (.st 6),.sl (.st 10),.bool]
 |14=>[.str,.int .i64]
 |15=>[.str]
 |16=>[.str,.int .i64,.bool]
 |_=>[]
def z016:List (Nat×DTy):=[(2,.int .i64),(3,.int .i64),(4,.bool),(5,.int .u8),(6,.int .u8),(9,.str),(10,.str),(11,.str),(12,.int .u64),(21,.int .i32),(23,.st 3),(24,.sl (.st 4)),(26,.st 4),(27,.sl (.st 5)),(29,.st 5),(31,.int .i64),(33,.sl (.st 6)),(34,.sl (.st 10)),(36,.st 11),(38,.sl (.st 7)),(40,.st 8),(43,.st 7),(44,.sl .str),(45,.sl (.st 9)),(47,.st 10),(49,.st 6),(55,.sl (.st 8)),(57,.st 9),(83,.sl (.st 12)),(86,.st 12),(91,.st 13),(103,.sl (.st 14)),(106,.st 14),(109,.sl (.int .u8)),(152,.int .u64),(196,.int .i64),(203,.int .u32),(205,.int .u64),(217,.st 0),(218,.st 1),(219,.st 2),(230,.int .i64),(236,.int .u64),(270,.st 15),(295,.int .u16),(335,.st 16),(344,.int .u8),(345,.int .u8),(347,.int .i32),(348,.int .i32)]
def datOw:Nat->Nat->Option Nat
 |10,2=>some 57
 |9,10=>some 40
 |8,4=>some 43
 |_,_=>none
def dat:Dat where
 T:=datT
 fl:=zix
 get:=λi=>match i with
  |0=>λ(x:zf8)=>(x.e0,x.e1,x.e2,x.e3,x.e4,x.e5,x.e6,x.e7,())
  |1=>λ(x:zf1)=>(x.e0,x.e1,x.e2,x.e3,x.e4,x.e5,x.e6,())
  |2=>λ(x:zfh)=>(x.e0,x.e1,x.e2,x.e3,())
  |3=>λ(x:yz4)=>(x.num,x.den,())
  |4=>λ(x:kz0)=>(x.kind,x.num.num,x.num.den,x.truth,x.str,x.list,())
  |5=>λ(x:zz1)=>(x.op,x.value.kind,x.value.num.num,x.value.num.den,x.value.truth,x.value.str,x.value.list,x.name,x.args,())
  |6=>λ(x:zzi)=>(x.name,x.value.op,x.value.value.kind,x.value.value.num.num,x.value.value.num.den,x.value.value.truth,x.value.value.str,x.value.value.list,x.value.name,x.value.args,())
  |7=>λ(x:yzj)=>(x.kind,x.name,x.args,())
  |8=>λ(x:zz4)=>(x.kind,x.axis,x.name,x.args,x.items,())
  |9=>λ(x:zz6)=>(x.weight,x.when_.op,x.when_.value.kind,x.when_.value.num.num,x.when_.value.num.den,x.when_.value.truth,x.when_.value.str,x.when_.value.list,x.when_.name,x.when_.args,x.do_,())
  |10=>λ(x:yz5)=>(x.name,x.params,x.cases,())
  |11=>λ(x:yz1)=>(x.attrs,x.rules,())
  |12=>λ(x:kzs)=>(x.name,x.many,())
  |13=>λ(x:kzd)=>(x.p.attrs,x.p.rules,x.ok,())
  |14=>λ(x:z2q)=>(x.name,x.many,())
  |15=>λ(x:kz2)=>(x.s,())
  |16=>λ(x:zz3)=>(x.s,x.at_,x.ok,())
  |_+17=>λ_=>()
 make:=λi=>match i with
  |0=>λx=>zf8.mk x.1 x.2.1 x.2.2.1 x.2.2.2.1 x.2.2.2.2.1 x.2.2.2.2.2.1 x.2.2.2.2.2.2.1 x.2.2.2.2.2.2.2.1
  |1=>λx=>zf1.mk x.1 x.2.1 x.2.2.1 x.2.2.2.1 x.2.2.2.2.1 x.2.2.2.2.2.1 x.2.2.2.2.2.2.1
  |2=>λx=>zfh.mk x.1 x.2.1 x.2.2.1 x.2.2.2.1
  |3=>λx=>yz4.mk x.1 x.2.1
  |4=>λx=>kz0.mk x.1 (yz4.mk x.2.1 x.2.2.1) x.2.2.2.1 x.2.2.2.2.1 x.2.2.2.2.2.1
  |5=>λx=>zz1.mk x.1 (kz0.mk x.2.1 (yz4.mk x.2.2.1 x.2.2.2.1) x.2.2.2.2.1 x.2.2.2.2.2.1 x.2.2.2.2.2.2.1) x.2.2.2.2.2.2.2.1 x.2.2.2.2.2.2.2.2.1
  |6=>λx=>zzi.mk x.1 (zz1.mk x.2.1 (kz0.mk x.2.2.1 (yz4.mk x.2.2.2.1 x.2.2.2.2.1) x.2.2.2.2.2.1 x.2.2.2.2.2.2.1 x.2.2.2.2.2.2.2.1) x.2.2.2.2.2.2.2.2.1 x.2.2.2.2.2.2.2.2.2.1)
  |7=>λx=>yzj.mk x.1 x.2.1 x.2.2.1
  |8=>λx=>zz4.mk x.1 x.2.1 x.2.2.1 x.2.2.2.1 x.2.2.2.2.1
  |9=>λx=>zz6.mk x.1 (zz1.mk x.2.1 (kz0.mk x.2.2.1 (yz4.mk x.2.2.2.1 x.2.2.2.2.1) x.2.2.2.2.2.1 x.2.2.2.2.2.2.1 x.2.2.2.2.2.2.2.1) x.2.2.2.2.2.2.2.2.1 x.2.2.2.2.2.2.2.2.2.1) x.2.2.2.2.2.2.2.2.2.2.1
  |10=>λx=>yz5.mk x.1 x.2.1 x.2.2.1
  |11=>λx=>yz1.mk x.1 x.2.1
  |12=>λx=>kzs.mk x.1 x.2.1
  |13=>λx=>kzd.mk (yz1.mk x.1 x.2.1) x.2.2.1
  |14=>λx=>z2q.mk x.1 x.2.1
  |15=>λx=>kz2.mk x.1
  |16=>λx=>zz3.mk x.1 x.2.1 x.2.2.1
  |_+17=>λ_=>()
 enc:=λi=>match i with
  |0=>zf8.el
  |1=>zf1.el
  |2=>zfh.el
  |3=>yz4.el
  |4=>kz0.el
  |5=>zz1.el
  |6=>zzi.el
  |7=>yzj.el
  |8=>zz4.el
  |9=>zz6.el
  |10=>yz5.el
  |11=>yz1.el
  |12=>kzs.el
  |13=>kzd.el
  |14=>z2q.el
  |15=>kz2.el
  |16=>zz3.el
  |_+17=>λ_=>.agg []
 ty:=fnd z016
 ow:=datOw
theorem zz8(P:Program):dat.Ok P where
 enc:=λi=>match i with
  |0=>λx=>zf8.kzc x
  |1=>λx=>zf1.kzc x
  |2=>λx=>zfh.kzc x
  |3=>λx=>yz4.kzc x
  |4=>λx=>kz0.kzc x
  |5=>λx=>zz1.kzc x
  |6=>λx=>zzi.kzc x
  |7=>λx=>yzj.kzc x
  |8=>λx=>zz4.kzc x
  |9=>λx=>zz6.kzc x
  |10=>λx=>yz5.kzc x
  |11=>λx=>yz1.kzc x
  |12=>λx=>kzs.kzc x
  |13=>λx=>kzd.kzc x
  |14=>λx=>z2q.kzc x
  |15=>λx=>kz2.kzc x
  |16=>λx=>zz3.kzc x
  |_+17=>λ_=>rfl
 getMake:=λi=>match i with
  |0=>λx=>rfl
  |1=>λx=>rfl
  |2=>λx=>rfl
  |3=>λx=>rfl
  |4=>λx=>rfl
  |5=>λx=>rfl
  |6=>λx=>rfl
  |7=>λx=>rfl
  |8=>λx=>rfl
  |9=>λx=>rfl
  |10=>λx=>rfl
  |11=>λx=>rfl
  |12=>λx=>rfl
  |13=>λx=>rfl
  |14=>λx=>rfl
  |15=>λx=>rfl
  |16=>λx=>rfl
  |_+17=>λ_=>rfl
 flat:=λi=>match i with
  |0=>λt h=>by simp only[dat,zix,Qbg,List.not_mem_nil,or_false]at h;rcases h with rfl|rfl|rfl|rfl|rfl|rfl|rfl|rfl <;> trivial
  |1=>λt h=>by simp only[dat,zix,Qbg,List.not_mem_nil,or_false]at h;rcases h with rfl|rfl|rfl|rfl|rfl|rfl|rfl <;> trivial
  |2=>λt h=>by simp only[dat,zix,Qbg,List.not_mem_nil,or_false]at h;rcases h with rfl|rfl|rfl|rfl <;> trivial
  |3=>λt h=>by simp only[dat,zix,Qbg,List.not_mem_nil,or_false]at h;rcases h with rfl|rfl <;> trivial
  |4=>λt h=>by simp only[dat,zix,Qbg,List.not_mem_nil,or_false]at h;rcases h with rfl|rfl|rfl|rfl|rfl|rfl <;> trivial
  |5=>λt h=>by simp only[dat,zix,Qbg,List.not_mem_nil,or_false]at h;rcases h with rfl|rfl|rfl|rfl|rfl|rfl|rfl|rfl|rfl <;> trivial
  |6=>λt h=>by simp only[dat,zix,Qbg,List.not_mem_nil,or_false]at h;rcases h with rfl|rfl|rfl|rfl|rfl|rfl|rfl|rfl|rfl|rfl <;> trivial
  |7=>λt h=>by simp only[dat,zix,Qbg,List.not_mem_nil,or_false]at h;rcases h with rfl|rfl|rfl <;> trivial
  |8=>λt h=>by simp only[dat,zix,Qbg,List.not_mem_nil,or_false]at h;rcases h with rfl|rfl|rfl|rfl|rfl <;> trivial
  |9=>λt h=>by simp only[dat,zix,Qbg,List.not_mem_nil,or_false]at h;rcases h with rfl|rfl|rfl|rfl|rfl|rfl|rfl|rfl|rfl|rfl|rfl <;> trivial
  |10=>λt h=>by simp only[dat,zix,Qbg,List.not_mem_nil,or_false]at h;rcases h with rfl|rfl|rfl <;> trivial
  |11=>λt h=>by simp only[dat,zix,Qbg,List.not_mem_nil,or_false]at h;rcases h with rfl|rfl <;> trivial
  |12=>λt h=>by simp only[dat,zix,Qbg,List.not_mem_nil,or_false]at h;rcases h with rfl|rfl <;> trivial
  |13=>λt h=>by simp only[dat,zix,Qbg,List.not_mem_nil,or_false]at h;rcases h with rfl|rfl|rfl <;> trivial
  |14=>λt h=>by simp only[dat,zix,Qbg,List.not_mem_nil,or_false]at h;rcases h with rfl|rfl <;> trivial
  |15=>λt h=>by simp only[dat,zix,Qbg,List.not_mem_nil,or_false]at h;rcases h with rfl <;> trivial
  |16=>λt h=>by simp only[dat,zix,Qbg,List.not_mem_nil,or_false]at h;rcases h with rfl|rfl|rfl <;> trivial
  |_+17=>λt h=>by cases h
 ty:=λe t h=>by
  have:=z2o h;simp only[z016,Qbg,Qbs,List.not_mem_nil,or_false]at this
  rcases this with ⟨_,rfl⟩|⟨_,rfl⟩|⟨_,rfl⟩|⟨_,rfl⟩|⟨_,rfl⟩|⟨_,rfl⟩|⟨_,rfl⟩|⟨_,rfl⟩|⟨_,rfl⟩|⟨_,rfl⟩|⟨_,rfl⟩|⟨_,rfl⟩|⟨_,rfl⟩|⟨_,rfl⟩|⟨_,rfl⟩|⟨_,rfl⟩|⟨_,rfl⟩|⟨_,rfl⟩|⟨_,rfl⟩|⟨_,rfl⟩|⟨_,rfl⟩|⟨_,rfl⟩|⟨_,rfl⟩|⟨_,rfl⟩|⟨_,rfl⟩|⟨_,rfl⟩|⟨_,rfl⟩|⟨_,rfl⟩|⟨_,rfl⟩|⟨_,rfl⟩|⟨_,rfl⟩|⟨_,rfl⟩|⟨_,rfl⟩|⟨_,rfl⟩|⟨_,rfl⟩|⟨_,rfl⟩|⟨_,rfl⟩|⟨_,rfl⟩|⟨_,rfl⟩|⟨_,rfl⟩|⟨_,rfl⟩|⟨_,rfl⟩|⟨_,rfl⟩|⟨_,rfl⟩|⟨_,rfl⟩|⟨_,rfl⟩|⟨_,rfl⟩|⟨_,rfl⟩|⟨_,rfl⟩|⟨_,rfl⟩ <;> simp
 kin:=λi=>match i with
  |0=>λx _=>zf8.kin x
  |1=>λx _=>zf1.kin x
  |2=>λx _=>zfh.kin x
  |3=>λx _=>yz4.kin x
  |4=>λx _=>kz0.kin x
  |5=>λx _=>zz1.kin x
  |6=>λx _=>zzi.kin x
  |7=>λx _=>yzj.kin x
  |8=>λx _=>zz4.kin x
  |9=>λx _=>zz6.kin x
  |10=>λx _=>yz5.kin x
  |11=>λx _=>yz1.kin x
  |12=>λx _=>kzs.kin x
  |13=>λx _=>kzd.kin x
  |14=>λx _=>z2q.kin x
  |15=>λx _=>kz2.kin x
  |16=>λx _=>zz3.kin x
  |_+17=>λ_ _=>by simp only[dat,V.kin,V.zcd]
def anb(l:List (Nat×Nat))(f:Func):AC:=(ann l (f.body.getD .skip) 0).1
abbrev dI:Sh:=.d (.int .i64)
abbrev dB:Sh:=.d .bool
abbrev dS:Sh:=.d .str
abbrev dU:Sh:=.d (.int .u8)
abbrev dA:Sh:=.d (.sl .str)
abbrev dT(i:Nat):Sh:=.d (.st i)
abbrev dL(i:Nat):Sh:=.d (.sl (.st i))
abbrev Ot:=Option
theorem tr{α:Type}{a b c:α}(h:a=b)(k:b=c:=by kernel_rfl):a=c:=h.trans k
def u1{a r x:Type}(f:a->r)(y:a×x):r:=f y.1
def u2{a b r x:Type}(f:a->b->r)(y:a×b×x):r:=u1 (f y.1) y.2
def u3{a b c r x:Type}(f:a->b->c->r)(y:a×b×c×x):r:=u2 (f y.1) y.2
def u4{a b c d r x:Type}(f:a->b->c->d->r)(y:a×b×c×d×x):r:=u3 (f y.1) y.2
def u5{a b c d e r x:Type}(f:a->b->c->d->e->r)(y:a×b×c×d×e×x):r:=u4 (f y.1) y.2
def u6{a b c d e g r x:Type}(f:a->b->c->d->e->g->r)(y:a×b×c×d×e×g×x):r:=u5 (f y.1) y.2
def u7{a b c d e g h r x:Type}(f:a->b->c->d->e->g->h->r)(y:a×b×c×d×e×g×h×x):r:=u6 (f y.1) y.2
def u8{a b c d e g h i r x:Type}(f:a->b->c->d->e->g->h->i->r)(y:a×b×c×d×e×g×h×i×x):r:=u7 (f y.1) y.2
def u9{a b c d e g h i j r x:Type}(f:a->b->c->d->e->g->h->i->j->r)(y:a×b×c×d×e×g×h×i×j×x):r:=u8 (f y.1) y.2
def u10{a b c d e g h i j k r x:Type}(f:a->b->c->d->e->g->h->i->j->k->r)(y:a×b×c×d×e×g×h×i×j×k×x):r:=u9 (f y.1) y.2
def u11{a b c d e g h i j k l r x:Type}(f:a->b->c->d->e->g->h->i->j->k->l->r)(y:a×b×c×d×e×g×h×i×j×k×l×x):r:=u10 (f y.1) y.2
theorem okG{R:Type}{P:Program}{D:Dat}{hD:D.Ok P}{f nt p:Nat}{args:List Sh}{aos:List OSh}{outs:List Sh}{ros:List OSh}{pure:Bool}{l:LSh}{pack:HL D.T l.tys->R}{un:R->HL D.T (Sh.z04 outs++z03 ros)}
  {go:Nat->HL D.T (Sh.z04 args++z03 aos)->Option R} {z0s:Nat->List (Nat×Lb D R)}{c:AC}{gs:List Nat}{fn:Func}{bs:List (FI D)}(hbs:OkL P bs)
  (hf:P.funcs[f]? = some fn) (hnt:fn.ntmps=nt) (hent:∀args w,(callFunc f args).run P w = .ok (.enter f args) w)
  (hs:∀n x,go (n+1) x=run P D (tb bs n) (jump D (z0s n)) c (entry D args aos nt gs x) (zwx D l pack))
  (hls:∀n,zvn (λj lb=>∀x,lb.go x=zxp P D (tb bs n) (jump D (z0s n)) j c (zwx D l pack) (lb.sh.bld D x)) (z0s (n+1)))
  (hb:fn.body=some c.erase) (hnd:decide c.labels.Nodup=true) (hchk:yrf p nt args outs aos ros pure l c gs=true) (hp:∀n,y3l p (z0s n)=true)
  (hout:∀x,zxd P D (l.bld D x) fn.results.toList=some (z1u D (λk=>k) outs (HL.fst _ (un (pack x)))))
  (hz:∀x,go 0 x=none) (hlz:zvn (λ_ lb=>∀x,lb.go x=none) (z0s 0))
  (hros:∀x,pure=true∨(l.bld D x).o=z55 D (λk=>k) ros 0 (HL.snd _ (un (pack x)))) (hrng:c.zke=[]) :
  FOk P (FI.of D f nt p args aos outs ros pure l pack un go z0s c gs) :=
 (zq0 hD hbs (FI.z0t (hD:=hD) hf hnt hent hb (Qac hnd) hchk hp hout hz hlz hs hls hros hrng)).1
theorem okF{R:Type}{f nt p:Nat}{args:List Sh}{aos:List OSh}{outs:List Sh}{ros:List OSh}{pure:Bool}{l:LSh}{pack:HL dat.T l.tys->R}{un:R->HL dat.T (Sh.z04 outs++z03 ros)}
  {go:Nat->HL dat.T (Sh.z04 args++z03 aos)->Option R} {z0s:Nat->List (Nat×Lb dat R)}{c:AC}{gs:List Nat}{fn:Func}{P:Program}{bs:List (FI dat)}(hbs:OkL P bs)
  (hf:P.funcs[f]? = some fn) (hnt:fn.ntmps=nt) (hent:∀args w,(callFunc f args).run P w = .ok (.enter f args) w)
  (hs:∀n x,go (n+1) x=run P dat (tb bs n) (jump dat (z0s n)) c (entry dat args aos nt gs x) (zwx dat l pack))
  (hls:∀n,zvn (λj lb=>∀x,lb.go x=zxp P dat (tb bs n) (jump dat (z0s n)) j c (zwx dat l pack) (lb.sh.bld dat x)) (z0s (n+1)))
  (hb:fn.body=some c.erase:=by kernel_rfl) (hnd:decide c.labels.Nodup=true:=by kernel_rfl) (hchk:yrf p nt args outs aos ros pure l c gs=true:=by kernel_rfl) (hp:∀n,y3l p (z0s n)=true:=by exact λn=>by kernel_rfl)
  (hout:∀x,zxd P dat (l.bld dat x) fn.results.toList=some (z1u dat (λk=>k) outs (HL.fst _ (un (pack x)))):=by exact λx=>by kernel_rfl)
  (hz:∀x,go 0 x=none:=by exact λ_=>rfl) (hlz:zvn (λ_ lb=>∀x,lb.go x=none) (z0s 0):=by repeat (first|exact trivial|refine⟨λ_=>rfl,?_⟩))
  (hros:∀x,pure=true∨(l.bld dat x).o=z55 dat (λk=>k) ros 0 (HL.snd _ (un (pack x))):=by first|exact λx=>.inl rfl|exact λx=>.inr (by kernel_rfl)) (hrng:c.zke=[]:=by kernel_rfl) :
  FOk P (FI.of dat f nt p args aos outs ros pure l pack un go z0s c gs) :=
 okG (hD:=zz8 P) hbs hf hnt hent hs hls hb hnd hchk hp hout hz hlz hros hrng
end Go.Ab
namespace Go.Proofs
open Go.Shelf
open Go.Proofs.Tryz
def yrp:Go.Shelf.Ren:=⟨λ|137=>99|217=>154|266=>198|n=>n,λ|9=>9|5=>5|3=>3|n=>n,λ|n=>n⟩
theorem z04g:Go.Proofs.Lays.n137 prog yrp:={
 mixed:=by kernel_rfl
 f137:=func99.trans (congrArg some (by kernel_rfl))
 f217:=func154.trans (congrArg some (by kernel_rfl))
 f266:=func198.trans (congrArg some (by kernel_rfl))
 t3:=underlying3
 a3:=isAgg3
 z3:=sizeOf3
 v3:=zeroValue3
 t5:=underlying5
 a5:=isAgg5
 z5:=sizeOf5
 v5:=zeroValue5
 t9:=underlying9
 a9:=isAgg9
 z9:=sizeOf9
 v9:=zeroValue9}
def yqp:Go.Shelf.Ren:=⟨λ|190=>46|125=>109|258=>108|128=>171|129=>172|302=>162|303=>163|304=>164|305=>165|306=>166|307=>167|308=>168|309=>169|310=>170|333=>209|329=>210|330=>211|334=>212|335=>213|336=>214|344=>251|n=>n,λ|31=>44|9=>9|3=>3|46=>152|0=>0|51=>203|53=>205|4=>4|183=>197|182=>196|131=>79|5=>5|218=>236|222=>240|228=>282|229=>183|n=>n,λ|n=>n⟩
theorem yvc:Go.Proofs.Lays.n190 prog yqp:={
 mixed:=by kernel_rfl
 f125:=func109.trans (congrArg some (by kernel_rfl))
 f128:=func171.trans (congrArg some (by kernel_rfl))
 f129:=func172.trans (congrArg some (by kernel_rfl))
 f190:=func46.trans (congrArg some (by kernel_rfl))
 f258:=func108.trans (congrArg some (by kernel_rfl))
 f302:=func162.trans (congrArg some (by kernel_rfl))
 f303:=func163.trans (congrArg some (by kernel_rfl))
 f304:=func164.trans (congrArg some (by kernel_rfl))
 f305:=func165.trans (congrArg some (by kernel_rfl))
 f306:=func166.trans (congrArg some (by kernel_rfl))
 f307:=func167.trans (congrArg some (by kernel_rfl))
 f308:=func168.trans (congrArg some (by kernel_rfl))
 f309:=func169.trans (congrArg some (by kernel_rfl))
 f310:=func170.trans (congrArg some (by kernel_rfl))
 f329:=func210.trans (congrArg some (by kernel_rfl))
 f330:=func211.trans (congrArg some (by kernel_rfl))
 f333:=func209.trans (congrArg some (by kernel_rfl))
 f334:=func212.trans (congrArg some (by kernel_rfl))
 f335:=func213.trans (congrArg some (by kernel_rfl))
 f336:=func214.trans (congrArg some (by kernel_rfl))
 f344:=func251.trans (congrArg some (by kernel_rfl))
 t0:=underlying0
 a0:=isAgg0
 z0:=sizeOf0
 v0:=zeroValue0
 t3:=underlying3
 a3:=isAgg3
 z3:=sizeOf3
 v3:=zeroValue3
 t4:=underlying4
 a4:=isAgg4
 z4:=sizeOf4
 v4:=zeroValue4
 t5:=underlying5
 a5:=isAgg5
 z5:=sizeOf5
 v5:=zeroValue5
 t9:=underlying9
 a9:=isAgg9
 z9:=sizeOf9
 v9:=zeroValue9
 t31:=underlying44
 a31:=isAgg44
 z31:=sizeOf44
 v31:=zeroValue44
 t46:=underlying152
 a46:=isAgg152
 z46:=sizeOf152
 v46:=zeroValue152
 t51:=underlying203
 a51:=isAgg203
 z51:=sizeOf203
 v51:=zeroValue203
 t53:=underlying205
 a53:=isAgg205
 z53:=sizeOf205
 v53:=zeroValue205
 t131:=underlying79
 a131:=isAgg79
 z131:=sizeOf79
 v131:=zeroValue79
 t182:=underlying196
 a182:=isAgg196
 z182:=sizeOf196
 v182:=zeroValue196
 t183:=underlying197
 a183:=isAgg197
 z183:=sizeOf197
 v183:=zeroValue197
 t218:=underlying236
 a218:=isAgg236
 z218:=sizeOf236
 v218:=zeroValue236
 t222:=underlying240
 a222:=isAgg240
 z222:=sizeOf240
 v222:=zeroValue240
 t228:=underlying282
 a228:=isAgg282
 z228:=sizeOf282
 v228:=zeroValue282
 t229:=underlying183
 a229:=isAgg183
 z229:=sizeOf183
 v229:=zeroValue183}
def yrc:Go.Shelf.Ren:=⟨λ|194=>47|n=>n,λ|31=>44|9=>9|3=>3|4=>4|0=>0|n=>n,λ|n=>n⟩
theorem yvq:Go.Proofs.Lays.n194 prog yrc:={
 mixed:=by kernel_rfl
 f194:=func47.trans (congrArg some (by kernel_rfl))
 t0:=underlying0
 a0:=isAgg0
 z0:=sizeOf0
 v0:=zeroValue0
 t3:=underlying3
 a3:=isAgg3
 z3:=sizeOf3
 v3:=zeroValue3
 t4:=underlying4
 a4:=isAgg4
 z4:=sizeOf4
 v4:=zeroValue4
 t9:=underlying9
 a9:=isAgg9
 z9:=sizeOf9
 v9:=zeroValue9
 t31:=underlying44
 a31:=isAgg44
 z31:=sizeOf44
 v31:=zeroValue44}
def y8k:Go.Shelf.Ren:=⟨λ|146=>102|221=>157|268=>201|138=>202|143=>203|195=>245|197=>246|218=>247|219=>199|260=>274|217=>154|225=>239|224=>240|267=>241|266=>198|314=>268|n=>n,λ|9=>9|31=>44|3=>3|4=>4|0=>0|105=>274|21=>21|5=>5|46=>152|119=>213|139=>328|138=>327|146=>306|51=>203|n=>n,λ|1=>2|3=>6|4=>7|n=>n⟩
theorem ymg:Go.Proofs.Lays.n146 prog y8k:={
 mixed:=by kernel_rfl
 f138:=func202.trans (congrArg some (by kernel_rfl))
 f143:=func203.trans (congrArg some (by kernel_rfl))
 f146:=func102.trans (congrArg some (by kernel_rfl))
 f195:=func245.trans (congrArg some (by kernel_rfl))
 f197:=func246.trans (congrArg some (by kernel_rfl))
 f217:=func154.trans (congrArg some (by kernel_rfl))
 f218:=func247.trans (congrArg some (by kernel_rfl))
 f219:=func199.trans (congrArg some (by kernel_rfl))
 f221:=func157.trans (congrArg some (by kernel_rfl))
 f224:=func240.trans (congrArg some (by kernel_rfl))
 f225:=func239.trans (congrArg some (by kernel_rfl))
 f260:=func274.trans (congrArg some (by kernel_rfl))
 f266:=func198.trans (congrArg some (by kernel_rfl))
 f267:=func241.trans (congrArg some (by kernel_rfl))
 f268:=func201.trans (congrArg some (by kernel_rfl))
 f314:=func268.trans (congrArg some (by kernel_rfl))
 t0:=underlying0
 a0:=isAgg0
 z0:=sizeOf0
 v0:=zeroValue0
 t3:=underlying3
 a3:=isAgg3
 z3:=sizeOf3
 v3:=zeroValue3
 t4:=underlying4
 a4:=isAgg4
 z4:=sizeOf4
 v4:=zeroValue4
 t5:=underlying5
 a5:=isAgg5
 z5:=sizeOf5
 v5:=zeroValue5
 t9:=underlying9
 a9:=isAgg9
 z9:=sizeOf9
 v9:=zeroValue9
 t21:=underlying21
 a21:=isAgg21
 z21:=sizeOf21
 v21:=zeroValue21
 t31:=underlying44
 a31:=isAgg44
 z31:=sizeOf44
 v31:=zeroValue44
 t46:=underlying152
 a46:=isAgg152
 z46:=sizeOf152
 v46:=zeroValue152
 t51:=underlying203
 a51:=isAgg203
 z51:=sizeOf203
 v51:=zeroValue203
 t105:=underlying274
 a105:=isAgg274
 z105:=sizeOf274
 v105:=zeroValue274
 t119:=underlying213
 a119:=isAgg213
 z119:=sizeOf213
 t138:=underlying327
 a138:=isAgg327
 z138:=sizeOf327
 v138:=zeroValue327
 t139:=underlying328
 a139:=isAgg328
 z139:=sizeOf328
 v139:=zeroValue328
 t146:=underlying306
 a146:=isAgg306
 z146:=sizeOf306
 v146:=zeroValue306
 g1:=by kernel_rfl
 g3:=by kernel_rfl
 g4:=by kernel_rfl}
def y82:Go.Shelf.Ren:=⟨λ|156=>60|165=>123|166=>59|169=>66|240=>122|241=>180|276=>179|277=>223|n=>n,λ|31=>44|9=>9|3=>3|4=>4|0=>0|20=>20|72=>111|76=>114|70=>108|37=>109|75=>113|127=>163|164=>209|5=>5|80=>123|n=>n,λ|n=>n⟩
theorem yk8:Go.Proofs.Lays.n156 prog y82:={
 mixed:=by kernel_rfl
 f156:=func60.trans (congrArg some (by kernel_rfl))
 f165:=func123.trans (congrArg some (by kernel_rfl))
 f166:=func59.trans (congrArg some (by kernel_rfl))
 f169:=func66.trans (congrArg some (by kernel_rfl))
 f240:=func122.trans (congrArg some (by kernel_rfl))
 f241:=func180.trans (congrArg some (by kernel_rfl))
 f276:=func179.trans (congrArg some (by kernel_rfl))
 f277:=func223.trans (congrArg some (by kernel_rfl))
 t0:=underlying0
 a0:=isAgg0
 z0:=sizeOf0
 v0:=zeroValue0
 t3:=underlying3
 a3:=isAgg3
 z3:=sizeOf3
 v3:=zeroValue3
 t4:=underlying4
 a4:=isAgg4
 z4:=sizeOf4
 v4:=zeroValue4
 t9:=underlying9
 a9:=isAgg9
 z9:=sizeOf9
 v9:=zeroValue9
 t20:=underlying20
 a20:=isAgg20
 z20:=sizeOf20
 v20:=zeroValue20
 t31:=underlying44
 a31:=isAgg44
 z31:=sizeOf44
 v31:=zeroValue44
 t37:=underlying109
 a37:=isAgg109
 z37:=sizeOf109
 v37:=zeroValue109
 t70:=underlying108
 a70:=isAgg108
 z70:=sizeOf108
 v70:=zeroValue108
 t72:=underlying111
 a72:=isAgg111
 z72:=sizeOf111
 v72:=zeroValue111
 t75:=underlying113
 a75:=isAgg113
 z75:=sizeOf113
 v75:=zeroValue113
 t76:=underlying114
 a76:=isAgg114
 z76:=sizeOf114
 v76:=zeroValue114
 t127:=underlying163
 a127:=isAgg163
 z127:=sizeOf163
 v127:=zeroValue163
 t164:=underlying209
 a164:=isAgg209
 z164:=sizeOf209
 v164:=zeroValue209}
def yqb:Go.Shelf.Ren:=⟨λ|157=>126|229=>184|199=>185|261=>229|311=>261|312=>262|n=>n,λ|9=>9|31=>44|3=>3|5=>5|4=>4|119=>213|0=>0|40=>215|152=>252|21=>21|154=>254|51=>203|141=>256|196=>294|193=>291|198=>297|49=>295|194=>292|201=>300|226=>314|46=>152|227=>315|n=>n,λ|0=>0|6=>1|n=>n⟩
theorem z045:Go.Proofs.Lays.n157 prog yqb:={
 mixed:=by kernel_rfl
 f157:=func126.trans (congrArg some (by kernel_rfl))
 f199:=func185.trans (congrArg some (by kernel_rfl))
 f229:=func184.trans (congrArg some (by kernel_rfl))
 f261:=func229.trans (congrArg some (by kernel_rfl))
 f311:=func261.trans (congrArg some (by kernel_rfl))
 f312:=func262.trans (congrArg some (by kernel_rfl))
 t0:=underlying0
 a0:=isAgg0
 z0:=sizeOf0
 v0:=zeroValue0
 t3:=underlying3
 a3:=isAgg3
 z3:=sizeOf3
 v3:=zeroValue3
 t4:=underlying4
 a4:=isAgg4
 z4:=sizeOf4
 v4:=zeroValue4
 t5:=underlying5
 a5:=isAgg5
 z5:=sizeOf5
 v5:=zeroValue5
 t9:=underlying9
 a9:=isAgg9
 z9:=sizeOf9
 v9:=zeroValue9
 t21:=underlying21
 a21:=isAgg21
 z21:=sizeOf21
 v21:=zeroValue21
 t31:=underlying44
 a31:=isAgg44
 z31:=sizeOf44
 v31:=zeroValue44
 t40:=underlying215
 a40:=isAgg215
 z40:=sizeOf215
 v40:=zeroValue215
 t46:=underlying152
 a46:=isAgg152
 z46:=sizeOf152
 v46:=zeroValue152
 t49:=underlying295
 a49:=isAgg295
 z49:=sizeOf295
 v49:=zeroValue295
 t51:=underlying203
 a51:=isAgg203
 z51:=sizeOf203
 v51:=zeroValue203
 t119:=underlying213
 a119:=isAgg213
 z119:=sizeOf213
 t141:=underlying256
 a141:=isAgg256
 z141:=sizeOf256
 v141:=zeroValue256
 t152:=underlying252
 a152:=isAgg252
 z152:=sizeOf252
 v152:=zeroValue252
 t154:=underlying254
 a154:=isAgg254
 z154:=sizeOf254
 v154:=zeroValue254
 t193:=underlying291
 a193:=isAgg291
 z193:=sizeOf291
 v193:=zeroValue291
 t194:=underlying292
 a194:=isAgg292
 z194:=sizeOf292
 v194:=zeroValue292
 t196:=underlying294
 a196:=isAgg294
 z196:=sizeOf294
 v196:=zeroValue294
 t198:=underlying297
 a198:=isAgg297
 z198:=sizeOf297
 v198:=zeroValue297
 t201:=underlying300
 a201:=isAgg300
 z201:=sizeOf300
 v201:=zeroValue300
 t226:=underlying314
 a226:=isAgg314
 z226:=sizeOf314
 v226:=zeroValue314
 t227:=underlying315
 a227:=isAgg315
 z227:=sizeOf315
 v227:=zeroValue315
 g0:=by kernel_rfl
 g6:=by kernel_rfl}
def y7v:Go.Shelf.Ren:=⟨λ|169=>66|n=>n,λ|70=>108|9=>9|0=>0|72=>111|37=>109|127=>163|3=>3|5=>5|n=>n,λ|n=>n⟩
theorem yk7:Go.Proofs.Lays.n169 prog y7v:={
 mixed:=by kernel_rfl
 f169:=func66.trans (congrArg some (by kernel_rfl))
 t0:=underlying0
 a0:=isAgg0
 z0:=sizeOf0
 v0:=zeroValue0
 t3:=underlying3
 a3:=isAgg3
 z3:=sizeOf3
 v3:=zeroValue3
 t9:=underlying9
 a9:=isAgg9
 z9:=sizeOf9
 v9:=zeroValue9
 t37:=underlying109
 a37:=isAgg109
 z37:=sizeOf109
 v37:=zeroValue109
 t70:=underlying108
 a70:=isAgg108
 z70:=sizeOf108
 v70:=zeroValue108
 t72:=underlying111
 a72:=isAgg111
 z72:=sizeOf111
 v72:=zeroValue111
 t127:=underlying163
 a127:=isAgg163
 z127:=sizeOf163
 v127:=zeroValue163}
def yqm:Go.Shelf.Ren:=⟨λ|217=>154|266=>198|n=>n,λ|9=>9|5=>5|3=>3|n=>n,λ|n=>n⟩
theorem z04q:Go.Proofs.Lays.n217 prog yqm:={
 mixed:=by kernel_rfl
 f217:=func154.trans (congrArg some (by kernel_rfl))
 f266:=func198.trans (congrArg some (by kernel_rfl))
 t3:=underlying3
 a3:=isAgg3
 z3:=sizeOf3
 v3:=zeroValue3
 t5:=underlying5
 a5:=isAgg5
 z5:=sizeOf5
 v5:=zeroValue5
 t9:=underlying9
 a9:=isAgg9
 z9:=sizeOf9
 v9:=zeroValue9}
def yon:Go.Shelf.Ren:=⟨λ|219=>199|217=>154|225=>239|224=>240|267=>241|266=>198|314=>268|n=>n,λ|9=>9|3=>3|4=>4|5=>5|46=>152|146=>306|51=>203|n=>n,λ|1=>2|n=>n⟩
theorem z03w:Go.Proofs.Lays.n219 prog yon:={
 mixed:=by kernel_rfl
 f217:=func154.trans (congrArg some (by kernel_rfl))
 f219:=func199.trans (congrArg some (by kernel_rfl))
 f224:=func240.trans (congrArg some (by kernel_rfl))
 f225:=func239.trans (congrArg some (by kernel_rfl))
 f266:=func198.trans (congrArg some (by kernel_rfl))
 f267:=func241.trans (congrArg some (by kernel_rfl))
 f314:=func268.trans (congrArg some (by kernel_rfl))
 t3:=underlying3
 a3:=isAgg3
 z3:=sizeOf3
 v3:=zeroValue3
 t4:=underlying4
 a4:=isAgg4
 z4:=sizeOf4
 v4:=zeroValue4
 t5:=underlying5
 a5:=isAgg5
 z5:=sizeOf5
 v5:=zeroValue5
 t9:=underlying9
 a9:=isAgg9
 z9:=sizeOf9
 v9:=zeroValue9
 t46:=underlying152
 a46:=isAgg152
 z46:=sizeOf152
 v46:=zeroValue152
 t51:=underlying203
 a51:=isAgg203
 z51:=sizeOf203
 v51:=zeroValue203
 t146:=underlying306
 a146:=isAgg306
 z146:=sizeOf306
 v146:=zeroValue306
 g1:=by kernel_rfl}
def yl2:Go.Shelf.Ren:=⟨λ|171=>63|243=>125|246=>183|283=>225|284=>226|285=>227|286=>228|129=>172|317=>257|318=>258|319=>259|320=>260|337=>279|338=>280|n=>n,λ|3=>3|9=>9|2=>2|4=>4|171=>248|0=>0|53=>205|37=>109|5=>5|173=>250|212=>288|51=>203|20=>20|213=>289|46=>152|232=>329|233=>330|n=>n,λ|17=>5|18=>8|19=>9|n=>n⟩
theorem yyy:Go.Proofs.LaysM.n171 prog yl2:={
 mixed:=by kernel_rfl
 f129:=func172.trans (congrArg some (by kernel_rfl))
 f171:=func63.trans (congrArg some (by kernel_rfl))
 f243:=func125.trans (congrArg some (by kernel_rfl))
 f246:=func183.trans (congrArg some (by kernel_rfl))
 f283:=func225.trans (congrArg some (by kernel_rfl))
 f284:=func226.trans (congrArg some (by kernel_rfl))
 f285:=func227.trans (congrArg some (by kernel_rfl))
 f286:=func228.trans (congrArg some (by kernel_rfl))
 f317:=func257.trans (congrArg some (by kernel_rfl))
 f318:=func258.trans (congrArg some (by kernel_rfl))
 f319:=func259.trans (congrArg some (by kernel_rfl))
 f320:=func260.trans (congrArg some (by kernel_rfl))
 f337:=func279.trans (congrArg some (by kernel_rfl))
 f338:=func280.trans (congrArg some (by kernel_rfl))
 t0:=underlying0
 a0:=isAgg0
 z0:=sizeOf0
 v0:=zeroValue0
 t2:=underlying2
 a2:=isAgg2
 z2:=sizeOf2
 v2:=zeroValue2
 t3:=underlying3
 a3:=isAgg3
 z3:=sizeOf3
 v3:=zeroValue3
 t4:=underlying4
 a4:=isAgg4
 z4:=sizeOf4
 v4:=zeroValue4
 t5:=underlying5
 a5:=isAgg5
 z5:=sizeOf5
 v5:=zeroValue5
 t9:=underlying9
 a9:=isAgg9
 z9:=sizeOf9
 v9:=zeroValue9
 t20:=underlying20
 a20:=isAgg20
 z20:=sizeOf20
 v20:=zeroValue20
 t37:=underlying109
 a37:=isAgg109
 z37:=sizeOf109
 v37:=zeroValue109
 t46:=underlying152
 a46:=isAgg152
 z46:=sizeOf152
 v46:=zeroValue152
 t51:=underlying203
 a51:=isAgg203
 z51:=sizeOf203
 v51:=zeroValue203
 t53:=underlying205
 a53:=isAgg205
 z53:=sizeOf205
 v53:=zeroValue205
 t171:=underlying248
 a171:=isAgg248
 z171:=sizeOf248
 v171:=zeroValue248
 t173:=underlying250
 a173:=isAgg250
 z173:=sizeOf250
 v173:=zeroValue250
 t212:=underlying288
 a212:=isAgg288
 z212:=sizeOf288
 v212:=zeroValue288
 t213:=underlying289
 a213:=isAgg289
 z213:=sizeOf289
 t232:=underlying329
 a232:=isAgg329
 z232:=sizeOf329
 v232:=zeroValue329
 t233:=underlying330
 a233:=isAgg330
 z233:=sizeOf330
 v233:=zeroValue330
 g17:=by kernel_rfl
 g18:=by kernel_rfl
 g19:=by kernel_rfl
 i0:=by kernel_rfl
 i2:=by kernel_rfl
 i3:=by kernel_rfl
 i4:=by kernel_rfl
 i5:=by kernel_rfl
 i9:=by kernel_rfl
 i20:=by kernel_rfl
 i37:=by kernel_rfl
 i46:=by kernel_rfl
 i51:=by kernel_rfl
 i53:=by kernel_rfl
 i171:=by kernel_rfl
 i173:=by kernel_rfl
 i212:=by kernel_rfl
 i232:=by kernel_rfl
 i233:=by kernel_rfl
 m17:=by kernel_rfl
 m18:=by kernel_rfl
 m19:=by kernel_rfl}
def yn2:Go.Shelf.Ren:=⟨λ|173=>277|246=>183|283=>225|284=>226|285=>227|286=>228|129=>172|317=>257|318=>258|319=>259|320=>260|337=>279|338=>280|n=>n,λ|2=>2|3=>3|9=>9|4=>4|171=>248|0=>0|53=>205|37=>109|5=>5|173=>250|212=>288|51=>203|20=>20|213=>289|46=>152|232=>329|233=>330|n=>n,λ|17=>5|18=>8|19=>9|n=>n⟩
theorem z00z:Go.Proofs.LaysM.n173 prog yn2:={
 mixed:=by kernel_rfl
 f129:=func172.trans (congrArg some (by kernel_rfl))
 f173:=func277.trans (congrArg some (by kernel_rfl))
 f246:=func183.trans (congrArg some (by kernel_rfl))
 f283:=func225.trans (congrArg some (by kernel_rfl))
 f284:=func226.trans (congrArg some (by kernel_rfl))
 f285:=func227.trans (congrArg some (by kernel_rfl))
 f286:=func228.trans (congrArg some (by kernel_rfl))
 f317:=func257.trans (congrArg some (by kernel_rfl))
 f318:=func258.trans (congrArg some (by kernel_rfl))
 f319:=func259.trans (congrArg some (by kernel_rfl))
 f320:=func260.trans (congrArg some (by kernel_rfl))
 f337:=func279.trans (congrArg some (by kernel_rfl))
 f338:=func280.trans (congrArg some (by kernel_rfl))
 t0:=underlying0
 a0:=isAgg0
 z0:=sizeOf0
 v0:=zeroValue0
 t2:=underlying2
 a2:=isAgg2
 z2:=sizeOf2
 v2:=zeroValue2
 t3:=underlying3
 a3:=isAgg3
 z3:=sizeOf3
 v3:=zeroValue3
 t4:=underlying4
 a4:=isAgg4
 z4:=sizeOf4
 v4:=zeroValue4
 t5:=underlying5
 a5:=isAgg5
 z5:=sizeOf5
 v5:=zeroValue5
 t9:=underlying9
 a9:=isAgg9
 z9:=sizeOf9
 v9:=zeroValue9
 t20:=underlying20
 a20:=isAgg20
 z20:=sizeOf20
 v20:=zeroValue20
 t37:=underlying109
 a37:=isAgg109
 z37:=sizeOf109
 v37:=zeroValue109
 t46:=underlying152
 a46:=isAgg152
 z46:=sizeOf152
 v46:=zeroValue152
 t51:=underlying203
 a51:=isAgg203
 z51:=sizeOf203
 v51:=zeroValue203
 t53:=underlying205
 a53:=isAgg205
 z53:=sizeOf205
 v53:=zeroValue205
 t171:=underlying248
 a171:=isAgg248
 z171:=sizeOf248
 v171:=zeroValue248
 t173:=underlying250
 a173:=isAgg250
 z173:=sizeOf250
 v173:=zeroValue250
 t212:=underlying288
 a212:=isAgg288
 z212:=sizeOf288
 v212:=zeroValue288
 t213:=underlying289
 a213:=isAgg289
 z213:=sizeOf289
 t232:=underlying329
 a232:=isAgg329
 z232:=sizeOf329
 v232:=zeroValue329
 t233:=underlying330
 a233:=isAgg330
 z233:=sizeOf330
 v233:=zeroValue330
 g17:=by kernel_rfl
 g18:=by kernel_rfl
 g19:=by kernel_rfl
 i0:=by kernel_rfl
 i2:=by kernel_rfl
 i3:=by kernel_rfl
 i4:=by kernel_rfl
 i5:=by kernel_rfl
 i9:=by kernel_rfl
 i20:=by kernel_rfl
 i37:=by kernel_rfl
 i46:=by kernel_rfl
 i51:=by kernel_rfl
 i53:=by kernel_rfl
 i171:=by kernel_rfl
 i173:=by kernel_rfl
 i212:=by kernel_rfl
 i232:=by kernel_rfl
 i233:=by kernel_rfl
 m17:=by kernel_rfl
 m18:=by kernel_rfl
 m19:=by kernel_rfl}
def ykk:Go.Shelf.Ren:=⟨λ|172=>103|244=>158|245=>159|247=>204|279=>205|280=>206|281=>207|282=>208|287=>248|316=>249|171=>63|205=>250|321=>275|322=>276|243=>125|246=>183|283=>225|284=>226|285=>227|286=>228|129=>172|317=>257|318=>258|319=>259|320=>260|337=>279|338=>280|n=>n,λ|9=>9|3=>3|75=>113|76=>114|4=>4|5=>5|167=>230|37=>109|0=>0|85=>231|2=>2|168=>233|53=>205|175=>276|46=>152|210=>280|127=>163|145=>312|143=>310|21=>21|171=>248|173=>250|212=>288|51=>203|20=>20|213=>289|232=>329|233=>330|80=>123|n=>n,λ|15=>3|16=>4|17=>5|18=>8|19=>9|n=>n⟩
theorem ydr:Go.Proofs.LaysC.n172 prog ykk:={
 mixed:=by kernel_rfl
 f129:=func172.trans (congrArg some (by kernel_rfl))
 f171:=func63.trans (congrArg some (by kernel_rfl))
 f172:=func103.trans (congrArg some (by kernel_rfl))
 f205:=func250.trans (congrArg some (by kernel_rfl))
 f243:=func125.trans (congrArg some (by kernel_rfl))
 f244:=func158.trans (congrArg some (by kernel_rfl))
 f245:=func159.trans (congrArg some (by kernel_rfl))
 f246:=func183.trans (congrArg some (by kernel_rfl))
 f247:=func204.trans (congrArg some (by kernel_rfl))
 f279:=func205.trans (congrArg some (by kernel_rfl))
 f280:=func206.trans (congrArg some (by kernel_rfl))
 f281:=func207.trans (congrArg some (by kernel_rfl))
 f282:=func208.trans (congrArg some (by kernel_rfl))
 f283:=func225.trans (congrArg some (by kernel_rfl))
 f284:=func226.trans (congrArg some (by kernel_rfl))
 f285:=func227.trans (congrArg some (by kernel_rfl))
 f286:=func228.trans (congrArg some (by kernel_rfl))
 f287:=func248.trans (congrArg some (by kernel_rfl))
 f316:=func249.trans (congrArg some (by kernel_rfl))
 f317:=func257.trans (congrArg some (by kernel_rfl))
 f318:=func258.trans (congrArg some (by kernel_rfl))
 f319:=func259.trans (congrArg some (by kernel_rfl))
 f320:=func260.trans (congrArg some (by kernel_rfl))
 f321:=func275.trans (congrArg some (by kernel_rfl))
 f322:=func276.trans (congrArg some (by kernel_rfl))
 f337:=func279.trans (congrArg some (by kernel_rfl))
 f338:=func280.trans (congrArg some (by kernel_rfl))
 t0:=underlying0
 a0:=isAgg0
 z0:=sizeOf0
 v0:=zeroValue0
 t2:=underlying2
 a2:=isAgg2
 z2:=sizeOf2
 v2:=zeroValue2
 t3:=underlying3
 a3:=isAgg3
 z3:=sizeOf3
 v3:=zeroValue3
 t4:=underlying4
 a4:=isAgg4
 z4:=sizeOf4
 v4:=zeroValue4
 t5:=underlying5
 a5:=isAgg5
 z5:=sizeOf5
 v5:=zeroValue5
 t9:=underlying9
 a9:=isAgg9
 z9:=sizeOf9
 v9:=zeroValue9
 t20:=underlying20
 a20:=isAgg20
 z20:=sizeOf20
 v20:=zeroValue20
 t21:=underlying21
 a21:=isAgg21
 z21:=sizeOf21
 v21:=zeroValue21
 t37:=underlying109
 a37:=isAgg109
 z37:=sizeOf109
 v37:=zeroValue109
 t46:=underlying152
 a46:=isAgg152
 z46:=sizeOf152
 v46:=zeroValue152
 t51:=underlying203
 a51:=isAgg203
 z51:=sizeOf203
 v51:=zeroValue203
 t53:=underlying205
 a53:=isAgg205
 z53:=sizeOf205
 v53:=zeroValue205
 t75:=underlying113
 a75:=isAgg113
 z75:=sizeOf113
 v75:=zeroValue113
 t76:=underlying114
 a76:=isAgg114
 z76:=sizeOf114
 v76:=zeroValue114
 t85:=underlying231
 a85:=isAgg231
 z85:=sizeOf231
 v85:=zeroValue231
 t127:=underlying163
 a127:=isAgg163
 z127:=sizeOf163
 v127:=zeroValue163
 t143:=underlying310
 a143:=isAgg310
 z143:=sizeOf310
 v143:=zeroValue310
 t145:=underlying312
 a145:=isAgg312
 z145:=sizeOf312
 v145:=zeroValue312
 t167:=underlying230
 a167:=isAgg230
 z167:=sizeOf230
 v167:=zeroValue230
 t168:=underlying233
 a168:=isAgg233
 z168:=sizeOf233
 v168:=zeroValue233
 t171:=underlying248
 a171:=isAgg248
 z171:=sizeOf248
 v171:=zeroValue248
 t173:=underlying250
 a173:=isAgg250
 z173:=sizeOf250
 v173:=zeroValue250
 t175:=underlying276
 a175:=isAgg276
 z175:=sizeOf276
 v175:=zeroValue276
 t210:=underlying280
 a210:=isAgg280
 z210:=sizeOf280
 v210:=zeroValue280
 t212:=underlying288
 a212:=isAgg288
 z212:=sizeOf288
 v212:=zeroValue288
 t213:=underlying289
 a213:=isAgg289
 z213:=sizeOf289
 t232:=underlying329
 a232:=isAgg329
 z232:=sizeOf329
 v232:=zeroValue329
 t233:=underlying330
 a233:=isAgg330
 z233:=sizeOf330
 v233:=zeroValue330
 g15:=by kernel_rfl
 g16:=by kernel_rfl
 g17:=by kernel_rfl
 g18:=by kernel_rfl
 g19:=by kernel_rfl
 t80:=underlying123
 a80:=isAgg123
 z80:=sizeOf123
 v80:=zeroValue123
 i0:=by kernel_rfl
 i2:=by kernel_rfl
 i3:=by kernel_rfl
 i4:=by kernel_rfl
 i5:=by kernel_rfl
 i9:=by kernel_rfl
 i20:=by kernel_rfl
 i21:=by kernel_rfl
 i37:=by kernel_rfl
 i46:=by kernel_rfl
 i51:=by kernel_rfl
 i53:=by kernel_rfl
 i75:=by kernel_rfl
 i76:=by kernel_rfl
 i80:=by kernel_rfl
 i85:=by kernel_rfl
 i127:=by kernel_rfl
 i143:=by kernel_rfl
 i145:=by kernel_rfl
 i167:=by kernel_rfl
 i168:=by kernel_rfl
 i171:=by kernel_rfl
 i173:=by kernel_rfl
 i175:=by kernel_rfl
 i210:=by kernel_rfl
 i212:=by kernel_rfl
 i232:=by kernel_rfl
 i233:=by kernel_rfl
 m15:=by kernel_rfl
 m16:=by kernel_rfl
 m17:=by kernel_rfl
 m18:=by kernel_rfl
 m19:=by kernel_rfl
 c0:=by kernel_rfl
 c2:=by kernel_rfl
 c3:=by kernel_rfl
 c4:=by kernel_rfl
 c5:=by kernel_rfl
 c9:=by kernel_rfl
 c20:=by kernel_rfl
 c21:=by kernel_rfl
 c37:=by kernel_rfl
 c46:=by kernel_rfl
 c51:=by kernel_rfl
 c53:=by kernel_rfl
 c75:=by kernel_rfl
 c76:=by kernel_rfl
 c80:=by kernel_rfl
 c85:=by kernel_rfl
 c127:=by kernel_rfl
 c143:=by kernel_rfl
 c145:=by kernel_rfl
 c167:=by kernel_rfl
 c168:=by kernel_rfl
 c171:=by kernel_rfl
 c173:=by kernel_rfl
 c175:=by kernel_rfl
 c210:=by kernel_rfl
 c212:=by kernel_rfl
 c213:=by kernel_rfl
 c232:=by kernel_rfl
 c233:=by kernel_rfl}
theorem zi9:Builder.Extra prog y82:={
 sizeBuilder:=by kernel_rfl
 liesBuilder:=by kernel_rfl
 t5:=underlying5
 a5:=isAgg5
 z5:=sizeOf5
 v5:=zeroValue5
 infoByte:=by kernel_rfl
 cellsByte:=by kernel_rfl
 sizeByte:=by kernel_rfl
 neB5:=by decide}
theorem z43:Builder.Extra prog y7v:={
 sizeBuilder:=by kernel_rfl
 liesBuilder:=by kernel_rfl
 t5:=underlying5
 a5:=isAgg5
 z5:=sizeOf5
 v5:=zeroValue5
 infoByte:=by kernel_rfl
 cellsByte:=by kernel_rfl
 sizeByte:=by kernel_rfl
 neB5:=by decide}
end Go.Proofs
namespace Go.Proofs.YthphaiccgnkobaaGreatDoor
open Go Go.Ab Go.Proofs
set_option linter.unusedSimpArgs false
open Go.RowKit
open Go.Proofs.Tryz
set_option linter.unusedVariables false
set_option linter.unusedSimpArgs false
attribute [local go_sem] Oper.semAt_some
theorem yv1:∀{s},s.any (· == 10)=false->lnA s=s∧lnB s=[]
 |[],_=>⟨rfl,rfl⟩
 |c::r,h=>by
  simp only[List.any_cons,Bool.or_eq_false_iff]at h;obtain⟨h1,h2⟩:=yv1 h.2;simp[lnA,lnB,h.1,h1,h2,and_self]
theorem yvn:∀{s},s.any (· == 10)=true->lnA s=s.take ((s.takeWhile (· != 10)).length+1)∧lnB s=s.drop ((s.takeWhile (· != 10)).length+1)
 |[],h=>by simp at h
 |c::r,h=>by
  cases hc:c==10;have ih:=yvn (s:=r) (by simpa[hc]using h);simp[lnA,lnB,List.takeWhile_cons,List.drop_succ_cons]
  grind
  simp[lnA,lnB,hc,bne]
abbrev S(s:B8):Value:=.string ⟨s.toArray⟩
theorem yqx(n)(s){k}(hk:Lib.indexByte s 10=k)(W):CallsIn Fence.wide n prog 99 #[S s,.int .u8 10] W λe W'=>e = .returned (.int .i64 k)∧W'=W:=by
 subst hk;refine callsIn_wide.2 ?_;exact(Any.strings_IndexByte {z04g with} ⟨s.toArray⟩ 10 W).mono λe w' ⟨a1,a2⟩=>⟨by rw[a1];rfl,a2⟩
def yug(Bs:Nat)(W:World):Nat:=match W.cell? ⟨Bs,0,none⟩with
 |some (.string b)=>b.size
 |_=>0
set_option maxRecDepth 100000 in
set_option maxHeartbeats 2000000 in
theorem yxl(n l Bs:Nat)(K:B8->World->Prop)(Kx:World->Prop)(s:B8)(W:World)
  (hc:∀r W,K r W->W.cell? ⟨Bs,0,none⟩=some (.string ⟨r.toArray⟩)∧W.frozen? ⟨Bs,0,none⟩=false)
  (hg:∀r W W',K r W->Grow W W'->K r W')
  (hY:∀r W,r≠[]->K r W->YieldAt Fence.wide (n-1) prog l #[.string ⟨(lnA r).toArray⟩] (W.setCell ⟨Bs,0,none⟩ (.string ⟨(lnB r).toArray⟩)) λe W'=>
   (e = .returned (.bool true)∧K (lnB r) W')∨(e = .returned (.bool false)∧Kx W'))
  (hs:s.length<=4611686018427387904) (h0:K s W):CallsIn Fence.wide n prog 98 #[.func (.yield l) #[] #[],.pointer (some ⟨Bs,0,none⟩)] W λe W'=>(∃v,e = .returned v)∧(K [] W'∨Kx W'):=by
 refine callsIn_of_wp func98 rfl trivial ?_ rfl;simp only[ntmps98,List.size_toArray,List.length_cons,Qbv,Nat.reduceAdd,Nat.reduceSub,Array.replicate_succ,Array.replicate_zero,List.push_toArray,List.append_toArray,List.nil_append,List.cons_append];have hmx:prog.follows .mixedOrders=true:=by kernel_rfl
 have hK1:∀r W,K r W->yug Bs W=r.length:=λr W h=>by unfold yug;rw[(hc r W h).1];simp[ByteArray.size]
 gi_wp2
 gi_loopw [] (λwr=>∃r,K r wr∧r.length<=4611686018427387904) (λwr=>yug Bs wr)
 case atStart=>exact⟨s,h0,hs⟩
 case round=>
  obtain⟨r,hK,hr⟩:=hrel;obtain⟨hc1,hf1⟩:=hc _ _ hK;by_cases hr0:r=[]
  ·subst hr0
   gi_wp2
   go_end0
   exact⟨⟨_,rfl⟩,.inl hK⟩
  ·have hpos:(0:Int)<(r.length:Int):=by have:=List.length_pos_iff.2 hr0;omega
   cases ha:r.any (· == 10)with
   |false=>
    have hidx:Lib.indexByte r 10 = -1:=by rw[y56,ha];rfl
    obtain⟨l1,l2⟩:=yv1 ha;have hy:=hY r wr hr0 hK;rw[l1,l2]at hy;obtain⟨fn,tmps,assign,body,hy,hR⟩:=hy
    gi_wp2_with (refine⟨trivial,(λh=>by cases h),?_⟩;gi_at_call 99;refine(yqx _ r hidx _).mono ?_;rintro e w2 ⟨rfl,rfl⟩)
    refine⟨(λh=>by cases h),hR.mono ?_⟩
    rintro e W3 (⟨rfl,hK3⟩|⟨rfl,hKx⟩)
    ·gi_wp2
     go_roundw
     case rel=>exact⟨_,hK3,Qbo _⟩
     case measure=>
      have hl:=hK1 _ _ hK3;have hl0:=hK1 _ _ hK;simp only[hl,hl0];exact List.length_pos_iff.2 hr0
    ·gi_wp2
     refine bodyPost_ret (results_none rfl _ _ _) rfl ?_
     exact⟨⟨_,rfl⟩,.inr hKx⟩
   |true=>
    have hidx:Lib.indexByte r 10=((r.takeWhile (· != 10)).length:Int):=by rw[y56,ha];rfl
    obtain⟨l1,l2⟩:=yvn ha;obtain⟨hk,_,_⟩:=ylc ha;generalize (r.takeWhile (· != 10)).length=k at hidx l1 l2 hk;have hw1:IntKind.i64.wrap ((k:Int)+1)=((k+1:Nat):Int):=by rw[show((k:Int)+1)=((k+1:Nat):Int) by omega];exact wrk (by omega)
    have hy:=hY r wr.drew hr0 (hg _ _ _ hK (Grow.drawn wr _));rw[l1,l2]at hy;obtain⟨fn,tmps,assign,body,hy,hR⟩:=hy
    have ex1:ByteArray.extract ⟨r.toArray⟩ 0 (k+1)=⟨(r.take (k+1)).toArray⟩:=by
     apply ByteArray.ext;simp[ByteArray.data_extract]
    have ex2:ByteArray.extract ⟨r.toArray⟩ (k+1) r.length=⟨(r.drop (k+1)).toArray⟩:=by
     apply ByteArray.ext;simp[ByteArray.data_extract];rw[List.take_of_length_le (by simp)]
    rw[show wr.drew.setCell ⟨Bs,0,none⟩ (.string ⟨(r.drop (k+1)).toArray⟩)=(wr.setCell ⟨Bs,0,none⟩ (.string ⟨(r.drop (k+1)).toArray⟩)).drew from rfl]at hy hR
    gi_wp2_with (refine⟨trivial,(λh=>by cases h),?_⟩;gi_at_call 99;refine(yqx _ r hidx _).mono ?_;rintro e w2 ⟨rfl,rfl⟩)
    gi_region_o
    gi_wp2
    refine⟨(λh=>by cases h),hR.mono ?_⟩
    rintro e W3 (⟨rfl,hK3⟩|⟨rfl,hKx⟩)
    ·gi_wp2
     go_roundw
     case rel=>exact⟨_,hK3,by rw[List.length_drop];omega⟩
     case measure=>
      have hl:=hK1 _ _ hK3;have hl0:=hK1 _ _ hK;simp only[hl,hl0];rw[List.length_drop];omega
    ·gi_wp2
     refine bodyPost_ret (results_none rfl _ _ _) rfl ?_;exact⟨⟨_,rfl⟩,.inr hKx⟩
theorem yxh:zhd prog 98:=⟨λ_ _=>call98 _ _,λn l Bs K Kx s W hc hg hY hs h0=>yxl n l Bs K Kx s W hc hg hY hs h0⟩
end Go.Proofs.YthphaiccgnkobaaGreatDoor
namespace Go.Proofs.YthphaiccgnkobaaGreatDoor
open Go Go.RowKit Go.Shelf Go.Proofs
open Go.Ab (Qaf)
open Go.Proofs.Tryz
set_option linter.unusedVariables false
set_option maxRecDepth 100000
theorem yxb(b)(w)(h0:w.cell? ⟨b,0,none⟩=some (.pointer (some ⟨b,0,none⟩))) :
  Calls prog 122 #[.pointer (some ⟨b,0,none⟩)] w λe w'=>e = .returned (.tuple #[])∧w'=w:=by
 obtain⟨j,hj,_⟩:=Qaf.1 z43.sizeBuilder
 go_wp2
 rw[Lib.run_neq_ptr_same w _ underlying108 hj]
 go_wp2
 go_end0
 exact⟨rfl,rfl⟩
theorem ytt(b)(w)(h0:w.cell? ⟨b,0,none⟩=some (.pointer none))(hsh:w.shape? b=some (111,2))(hfz:w.frozen? ⟨b,0,none⟩=false) :
  Calls prog 122 #[.pointer (some ⟨b,0,none⟩)] w λe w'=>e = .returned (.tuple #[])∧w'=w.setCell ⟨b,0,none⟩ (.pointer (some ⟨b,0,none⟩)):=by
 obtain⟨j,hj,hjs⟩:=Qaf.1 z43.sizeBuilder
 go_enter func122,ntmps122
 go_wp2
 rw[Lib.run_to_unsafe w ⟨b,0,none⟩ underlying108 underlying209 hj (by rw[hjs];decide) hsh (Nat.zero_lt_succ 1)];simp[Result.andThen];rw[Oper.upon_value]
 go_wp2
 rw[run_callFunc_extern func179 (by kernel_rfl) (by kernel_rfl) (by kernel_rfl) (e:=Extern.AbiNoEscape.same) (by kernel_rfl)];rw[Lib.run_noEscape];simp[Result.andThen];rw[Oper.upon_value]
 go_wp2
 rw[Lib.run_from_unsafe w ⟨b,0,none⟩ underlying209 underlying108 hj hsh z43.liesBuilder];simp[Result.andThen];rw[Oper.upon_value]
 go_wp2
 go_end0
 exact⟨rfl,rfl⟩
theorem ytg(b g cap)(p)(l)(cur)(w)(h0:l≠[])(hbk:w.heap[b]? = some (.cells #[p,.slice (some ⟨g,0,none⟩) l.length cap] 111 (0,0)))(hg:w.heap[g]? = some (.cells cur 5 (0,0)))(hlcap:l.length<=cap)(hlc:l.length<=cur.size)(hmax:l.length<=9223372036854775807)
  (hc:∀(j:Nat) (x:UInt8),l[j]? = some x->w.cell? ⟨g,j,none⟩=some (.int .u8 x.toNat)) :
  Calls prog 66 #[.pointer (some ⟨b,0,none⟩)] w λe w'=>e = .returned (.string ⟨l.toArray⟩)∧w'=w.drew.freeze ⟨g,0,none⟩ l.length:=by
 have hl0:l.length≠0:=by simpa using h0
 have c1:w.drew.cell? ⟨b,1,none⟩=some (.slice (some ⟨g,0,none⟩) l.length cap):=by
  have:w.drew.heap[b]? = some (.cells #[p,.slice (some ⟨g,0,none⟩) l.length cap] 111 (0,0)):=hbk;rw[Lib.cell_of_heap this];rfl
 have hSD:(Builtin.unsafeSliceData_ #[109] 163 #[.slice (some ⟨g,0,none⟩) l.length cap]).run prog w.drew = .ok (.pointer (some ⟨g,0,none⟩)) w.drew :=
  Lib.run_unsafeSliceData_row _ _ _ _ _ _ (by omega)
 have hUS:=by
  refine Lib.run_unsafeString_row w.drew 163 3 9 5 underlying163 z43.cellsByte g cur.size (by have hg':w.drew.heap[g]? = some (.cells cur 5 (0,0)):=hg;simp[World.shape?,hg']) l h0 hlc hmax ?_;intro j x hx;have:=hc j x hx;have hadd:(⟨g,0,none⟩:Addr).add j=⟨g,j,none⟩:=by unfold Addr.add;split <;> simp_all
  simp_all
 go_wp2
 go_region
 all_goals (go_wp2;go_ret;exact⟨rfl,rfl⟩)
end Go.Proofs.YthphaiccgnkobaaGreatDoor
namespace Go.Proofs.YthphaiccgnkobaaGreatDoor
open Go Go.Ab Go.RowKit Go.Proofs
open Go.Proofs.Tryz
set_option linter.unusedVariables false
set_option linter.unusedSimpArgs false
theorem ydd{W g H u cs}(h:zk0 W g H [u] cs):∃x,cs = #[x]∧Rel W g H u x:=by
 obtain⟨h1,h2⟩:=h;have hsz:=by simpa using h1
 obtain⟨c,hc⟩:=List.length_eq_one_iff.1 hsz;have hc':cs = #[c]:=by grind
 subst hc';exact⟨c,rfl,by simpa using h2 0 _ rfl⟩
theorem yuv{W g H lv i a c}(hG:Go.Ab.Good W g H)(hg:H.get lv i=some (.arr 0 111 2 [.agg [a,c]] (some 1))) :
  g.cap lv i=1∧∃p v,W.heap[g.ab lv i]? = some (.cells #[p,v] 111 (0,0))∧Rel W g H a p∧Rel W g H c v∧p.oneCell'=true∧v.oneCell'=true:=by
 obtain⟨cc,k1,k2,k3,k3',k4,k5,k6,k7,k8⟩:=hG.obj _ _ _ hg;have hcap:=k5 1 rfl;rw[hcap]at k3;obtain⟨l⟩:=cc
 match l,k3 with
 |[p,v],_=>
  refine⟨hcap,p,v,k1,k8 0 _ 0 a rfl rfl,k8 0 _ 1 c rfl rfl,k7 0 _ 0 a rfl rfl,k7 0 _ 1 c rfl rfl⟩
 |[],h=>simp at h
 |[_],h=>simp at h
 |_::_::_::_,h=>simp at h
theorem y3g{α:Type}{L:List α}{i x}(h:L[i]? = some x):L.set i x=L:=by
 refine List.ext_getElem? λj =>?_
 grind
theorem z015{lv i L E a c}(hL:L[i]? = some (some (.arr 0 111 2 [.agg [a,c]] (some 1))))(ha:a = .nilp∨a = .ap lv i 0 0 0) :
  znq prog 122 [.ap lv i 0 0 0] ⟨lv,L,E⟩ λo H'=>o = .ret (.tup [])∧H'=⟨lv,L.set i (some (.arr 0 111 2 [.agg [.ap lv i 0 0 0,c]] (some 1))),E⟩:=by
 intro W g cargs hG hR;have hg:(⟨lv,L,E⟩:Heap).get lv i=some (.arr 0 111 2 [.agg [a,c]] (some 1)):=by simp[Heap.get,hL]
 obtain⟨x,rfl,h0⟩:=ydd hR;obtain⟨hcap,p,v,k1,k2,k3,k4,k5⟩:=yuv hG hg;refine⟨call122 _ _,?_⟩
 cases h0 with
 |ap _ _ _ _ _ ad hd hv hadr=>
  have had:=hadr _ _ _ _ hg;subst had
  rcases ha with rfl|rfl
  cases k2;refine(ytt (g.ab lv i) W (by rw[Lib.cell_of_heap k1];rfl) (by simp[World.shape?,k1]) (by simp[World.frozen?,k1])).mono ?_
  rintro e W' ⟨rfl,rfl⟩
  have hh:(W.setCell ⟨g.ab lv i,0,none⟩ (.pointer (some ⟨g.ab lv i,0,none⟩))).heap[g.ab lv i]? = some (.cells #[.pointer (some ⟨g.ab lv i,0,none⟩),v] 111 (0,0)):=by simp[World.setCell,Qby,k1]
  obtain⟨q1,q2⟩:=zei (W':=W.setCell ⟨g.ab lv i,0,none⟩ (.pointer (some ⟨g.ab lv i,0,none⟩))) hG (o':=.arr 0 111 2 [.agg [.ap lv i 0 0 0,c]] (some 1)) hg rfl rfl rfl rfl (by simp[World.setCell]) (λb hb1 hb2=>Below.heap_setCell _ _ _ _ λe=>hb2 e)
   (λver ty sz xs cp he=>by cases he;exact⟨_,_,_,rfl,Qbp _,λ_=>Qbp _⟩) (λhst=>by
   refine yqn (c := #[.pointer (some ⟨g.ab lv i,0,none⟩),v]) hcap hh (by decide) rfl ⟨rfl,λj u hj =>?_,λj u hj =>?_⟩
   match j,hj with
   |0,_=>rfl
   |1,_=>exact k5
   |j+2,hj=>simp[V.cells]at hj
   match j,hj with
   |0,hj=>
    simp[Qbn]at hj;subst hj
    exact .ap lv i 0 0 0 _ hd (λ_ _ _ _ _ _=>Qbo _) λty sz xs cp h=>by simp
   |1,hj=>
    simp[Qbn]at hj;subst hj
    exact k3.mono hst
   |j+2,hj=>simp[V.cells]at hj)
  refine⟨.ret (.tup []),_,g,⟨rfl,rfl⟩,?_,?_,_,rfl,.tup [] #[] rfl (by simp)⟩
  simp_all[Heap.set]
  simp_all[Heap.set]
  have hp:p = .pointer (some ⟨g.ab lv i,0,none⟩):=by
   cases k2 with
   |ap _ _ _ _ _ ad hd hv hadr=>rw[hadr _ _ _ _ hg]
  subst hp;refine(yxb (g.ab lv i) W (by rw[Lib.cell_of_heap k1];rfl)).mono ?_
  rintro e W' ⟨rfl,rfl⟩
  rw[y3g hL];exact⟨.ret (.tup []),_,g,⟨rfl,rfl⟩,.refl _ _ _,hG,_,rfl,.tup [] #[] rfl (by simp)⟩
theorem z03x{lv i:Nat}{L:List (Option kzg)}{E:Nat->Nat->Option kzg}{a c:V}{s:B8}(hL:L[i]? = some (some (.arr 0 111 2 [.agg [a,c]] (some 1))))
  (hb:(c = .nils∧s=[])∨∃j ver ws cp,c = .hs lv j ver 0 ws.length false∧L[j]? = some (some (.arr ver 5 1 ws cp))∧zkq ws=some s) :
  znq prog 66 [.ap lv i 0 0 0] ⟨lv,L,E⟩ λo H'=>o = .ret (.str s)∧∃L',H'=⟨lv,L',E⟩∧L'.length=L.length∧∀k,(∀j ver n,c = .hs lv j ver 0 n false->k≠j)->L'[k]? = L[k]? := by
 intro W g cargs hG hR;have hg:(⟨lv,L,E⟩:Heap).get lv i=some (.arr 0 111 2 [.agg [a,c]] (some 1)):=by simp[Heap.get,hL]
 obtain⟨x,rfl,h0⟩:=ydd hR;obtain⟨hcap,p,v,k1,k2,k3,k4,k5⟩:=yuv hG hg;refine⟨call66 _ _,?_⟩
 have below:∀{W':World},Below W.heap.size W W'->s=[]->∀(e:Ending),e = .returned (.string ⟨#[]⟩) ->
   ∃o H' g',(o=Out.ret (.str s)∧∃L',H'=⟨lv,L',E⟩∧L'.length=L.length∧∀k,(∀j ver n,c = .hs lv j ver 0 n false->k≠j)->L'[k]? = L[k]?)∧Step W g ⟨lv,L,E⟩ W' g' H'∧Go.Ab.Good W' g' H'∧yuy W' g' H' o e:=λ{W'} hB hs e he=>by
  subst he;subst hs;have hgr:Grow W W':=⟨hB.os,hB.tape,hB.output,hB.size,hB.block⟩;exact⟨.ret (.str []),⟨lv,L,E⟩,g,⟨rfl,L,rfl,rfl,λ_ _=>rfl⟩,hgr.step,hG.grow hgr,_,rfl,.str []⟩
 cases h0 with
 |ap _ _ _ _ _ ad hd hv hadr=>
  have had:ad=⟨g.ab lv i,0,none⟩:=hadr _ _ _ _ hg;subst had
  rcases hb with ⟨rfl,hs⟩|⟨j,ver,ws,cp,rfl,hj,hbs⟩
  cases k3;refine(Any.Builder_String_nil yk7 z43 W.heap.size (g.ab lv i) p W k1).mono ?_
  rintro e W' ⟨he,hB⟩
  exact below hB hs e he;have hgj:(⟨lv,L,E⟩:Heap).get lv j=some (.arr ver 5 1 ws cp):=by simp[Heap.get,hj]
  obtain⟨b1,b2⟩:=zpp hbs;obtain⟨cc,m1,m2,m3,m3',m4,m5,m6,m7,m8⟩:=hG.obj _ _ _ hgj
  cases k3 with
  |hs _ _ _ _ _ _ ad m cap hd' hv' ha'=>
   obtain⟨rfl,rfl,⟨c1,c2,_⟩,c3⟩:=ha' _ _ _ _ hgj;by_cases hs:s=[];have hw0:ws.length=0:=by rw[<-b1,hs];rfl
   rw[hw0]at k1;by_cases hc0:cap=0;subst hc0;refine(Any.Builder_String_noroom yk7 z43 W.heap.size (g.ab lv i) (g.ab lv j) p cc W (Qbp _) k1 m1).mono ?_
   rintro e W' ⟨he,hB⟩
   exact below hB hs e he;refine(Any.Builder_String_room yk7 z43 W.heap.size (g.ab lv i) (g.ab lv j) cap p W hc0 k1).mono ?_
   rintro e W' ⟨he,hB⟩
   exact below hB hs e he;have hsz:s.length<=cc.size:=by rw[m3];omega
   refine(ytg (g.ab lv i) (g.ab lv j) cap p s cc W hs (by rw[b1];exact k1) m1 (by rw[b1];exact c1) hsz (by unfold maxLen at m3';omega) λq x hq =>?_).mono ?_;have hq':=b2 q x hq;have hrel:=m8 q _ 0 _ hq' rfl;rw[Lib.cell_of_heap m1];have hql:q<cc.size:=Qbe (Qaa.1 hq).1 hsz;rw[Nat.mul_one,Nat.add_zero,Qae,Qas hql]at hrel
   rw[Qas hql];simp only[Option.getD_some]at hrel;generalize cc[q]=z at hrel;cases hrel;rfl
   rintro e W' ⟨rfl,rfl⟩
   obtain⟨g1,g2,g3,g4⟩:=yjp hG hgj
   have hfz:∀k,k≠g.ab lv j->(W.drew.freeze ⟨g.ab lv j,0,none⟩ s.length).heap[k]? = W.heap[k]? := λk hk=>by
    unfold World.freeze;split;rfl;simp only[Qby];rw[Qbr (λe=>hk e.symm)];rfl
   have hsize:(W.drew.freeze ⟨g.ab lv j,0,none⟩ s.length).heap.size=W.heap.size:=by
    unfold World.freeze;split;rfl;exact Array.size_modify ..
   have hos:(W.drew.freeze ⟨g.ab lv j,0,none⟩ s.length).os=W.os∧(W.drew.freeze ⟨g.ab lv j,0,none⟩ s.length).tape=W.tape∧(W.drew.freeze ⟨g.ab lv j,0,none⟩ s.length).output=W.output:=by unfold World.freeze;split <;> exact⟨rfl,rfl,rfl⟩
   have hob:Go.Ab.Own g ⟨lv,L,E⟩ (g.ab lv j):=⟨_,_,_,hgj,rfl⟩
   have hst:Step W g ⟨lv,L,E⟩ (W.drew.freeze ⟨g.ab lv j,0,none⟩ s.length) g ((⟨lv,L,E⟩:Heap).zyy j) :=
    ⟨hos.1,hos.2.1,hos.2.2,Nat.le_of_eq hsize.symm,λb hb hno=>hfz b (λe=>hno (by rw[e];exact hob)),g2.own,g2.dom,g2.new,g2.blk,g2.arr,g2.lv,g2.base⟩
   have hst2:∀l k o,((⟨lv,L,E⟩:Heap).zyy j).get l k=some o->o.blk g l k≠g.ab lv j:=λl k o ho e=>by
    obtain⟨q1,q2⟩:=Heap.zdf ho;exact q2 (hG.inj _ _ _ _ _ _ q1 hgj e)
   refine⟨.ret (.str s),(⟨lv,L,E⟩:Heap).zyy j,g,⟨rfl,L.set j none,rfl,by simp,λk hk =>?_⟩,hst,⟨g1.dom,λl k o ho=>by rw[hsize];exact g1.lt l k o ho,g1.inj,g1.fresh,λl k o ho =>?_,hG.zns.step hst,(by show g.base<=_;rw[hsize];exact hG.base)⟩,_,rfl,.str s⟩;rw[Qam (λe=>hk j ver ws.length rfl e.symm)];have ho':=hG.obj l k o (Heap.zdf ho).1
   exact ho'.mono hst (hfz _ (hst2 l k o ho)) rfl rfl rfl
set_option maxRecDepth 100000
def z06:Nat->List Int->Option (List Int):=λ_ xs=>some xs
noncomputable def z3m:FI dat :=
 {R:=List Int,ent:=λn=>{f:=122,p:=1,args:=[.bp 0],aos:=[.bld 111 1,.acc 5 (.int .u8) true],outs:=[],ros:=[.bld 111 1,.acc 5 (.int .u8) true],pan:=.nilp,pos:=[.bld 111 1,.acc 5 (.int .u8) true],pure:=false,go:=λx k _=>(z06 n x.1).bind λr=>k (r,())},
   c:=.skip,K:=⟨λ_=>none,[],λ_=>none,λ_ _=>none⟩,p:=0,args:=[],aos:=[],nt:=0,z0s:=λ_=>[],go:=λ_ _=>none}
def yzy:Nat->List Int->Option B8:=λ_ xs=>yby xs
noncomputable def z2j:FI dat :=
 {R:=B8,ent:=λn=>{f:=66,p:=0,args:=[.bp 0],aos:=[.bld 111 1,.acc 5 (.int .u8) true],outs:=[.d .str],ros:=[],pan:=.nilp,pos:=[],pure:=false,go:=λx k _=>(yzy n x.1).bind λr=>k (r,())},
   c:=.skip,K:=⟨λ_=>none,[],λ_=>none,λ_ _=>none⟩,p:=0,args:=[],aos:=[],nt:=0,z0s:=λ_=>[],go:=λ_ _=>none}
theorem z01a{lv L ρ0 vargs}{xs:List Int}(k1:ρ0.length=2)(k2:VRL dat ρ0 lv [TV.bp 0 0] vargs)
  (k3:∀j o,(j,o)∈[((0:Nat),(TO.bld 111 (some 1):TO dat.T)),(1,.acc 5 (.int .u8) xs true)]->∃sl,ρ0[j]? = some sl∧OR dat ρ0 lv L sl o) :
  ∃s0 s1 i a c,ρ0=[s0,s1]∧vargs=[.ap lv i 0 0 0]∧s0.k=some i∧L[i]? = some (some (.arr 0 111 2 [.agg [a,c]] (some 1)))∧(a = .nilp∨a = .ap lv i 0 0 0)∧VR dat ρ0 lv (.own 1) c∧OR dat ρ0 lv L s1 (.acc 5 (.int .u8) xs true):=by
 obtain⟨s0,s1,rfl⟩:∃s0 s1,ρ0=[s0,s1]:=by
  match ρ0,k1 with
  |[a,b],_=>exact⟨a,b,rfl⟩
 obtain⟨v,r,rfl,⟨sl,i,e1,e2,rfl⟩,rfl⟩:=k2;obtain rfl:s0=sl:=by simpa using e1
 obtain⟨sl,e4,e5⟩:=k3 0 (.bld 111 (some 1)) (by simp);obtain rfl:s0=sl:=by simpa using e4
 obtain⟨i',a,c,q1,q2,q3,q4⟩:=e5;rw[e2]at q1;cases q1;obtain⟨sl,e6,e7⟩:=k3 1 (.acc 5 (.int .u8) xs true) (by simp);obtain rfl:s1=sl:=by simpa using e6
 exact⟨s0,s1,i,a,c,rfl,rfl,e2,q2,q3,q4,e7⟩
theorem z8n:FOk prog z3m:=λn R x k kp r h=>by
 refine .inl ⟨(x.1,()),h,λlv L E ρ0 vargs k1 k2 k3 k4 _ =>?_⟩;obtain⟨s0,s1,i,a,c,rfl,rfl,e2,q2,q3,q4,e7⟩:=z01a (xs:=x.1) k1 k2 k3;have hlt:=(Qaa.1 q2).1
 refine(z015 (E:=E) q2 q3).mono λo H' ⟨h1,h2⟩=>⟨_,[s0,s1],h2,⟨rfl,λj o hm =>?_,k4.1,λs sl i' r hk=>.inr ⟨s,sl,r,hk⟩,λi' hi' hno =>?_,λj sl _ h=>h,λs sl i' r hk=>⟨(k4.2 s sl i' r hk).1,?_⟩⟩,⟨(λq hq=>by cases hq),.nil⟩,[],h1,(by simp[VRL]:VRL dat [s0,s1] lv [] [])⟩
 have hm:(j,o)∈[((0:Nat),(TO.bld 111 (some 1):TO dat.T)),(1,.acc 5 (.int .u8) x.1 true)]:=hm;simp[Qbs]at hm
 rcases hm with ⟨rfl,rfl⟩|⟨rfl,rfl⟩
 refine⟨s0,rfl,?_⟩;simp only[OR];exact⟨i,.ap lv i 0 0 0,c,e2,by simp[hlt],.inr rfl,q4⟩;refine⟨s1,rfl,?_⟩
 have:=e7.mono (L':=L.set i (some (.arr 0 111 2 [.agg [.ap lv i 0 0 0,c]] (some 1)))) [] λi' hi' _=>by
  rw[Qam];intro e;subst e;have:=k4.1 0 1 s0 s1 i rfl rfl (.inl e2) hi';cases this
 simpa using this;exact⟨by simpa using hi',Qam λe=>hno 0 s0 rfl (.inl (by rw[e2,e]))⟩;obtain⟨_,b,hb⟩:=k4.2 s sl i' r hk;by_cases e:i=i'
 grind
 grind
theorem z5l:FOk prog z2j:=λn R x k kp r h=>by
 obtain⟨s,hs,h⟩:=Qbx.1 h;have hs:yby x.1=some s:=hs;refine .inl ⟨(s,()),h,λlv L E ρ0 vargs k1 k2 k3 k4 _ =>?_⟩;obtain⟨s0,s1,i,a,c,rfl,rfl,e2,q2,q3,q4,e7⟩:=z01a (xs:=x.1) k1 k2 k3;obtain⟨sl,d1,d2,d3⟩:=q4;obtain rfl:s1=sl:=by simpa using d1
 subst d2;obtain⟨p1,p2,p3⟩:=e7
 have hb:(s1.v = .nils∧s=[])∨∃j ver ws cp,s1.v = .hs lv j ver 0 ws.length false∧L[j]? = some (some (.arr ver 5 1 ws cp))∧zkq ws=some s∧s1.k=some j:=by
  have hbv:zkq s1.ws=some s:=by rw[y6a x.1 s1.ws p1 p2,hs]
  cases hk:s1.k with
  |none=>
   rw[hk]at p3
   rcases p3 with ⟨w1,w2⟩|⟨⟨_,w2⟩,_⟩
   simp_all[zkq]
   grind
  |some j=>
   rw[hk]at p3;obtain⟨ver,cp,w1,w2⟩:=p3;exact .inr ⟨j,ver,s1.ws,cp,w1,w2,hbv,rfl⟩
 refine(z03x (E:=E) (s:=s) q2 (hb.imp id λ⟨j,ver,ws,cp,w1,w2,w3,_⟩=>⟨j,ver,ws,cp,w1,w2,w3⟩)).mono λo H' ⟨h1,L',h2,h3,h4⟩=>⟨L',[],h2,⟨rfl,λj o hm=>(by cases hm),λ_ _ _ _ _ h=>(by simp at h),λ_ _ _ h=>(by simp at h),λi' hi' hno=>⟨by rw[h3];exact hi',h4 i' λj ver n hv e =>?_⟩,λ_ _ h=>(Nat.not_lt_zero _ h).elim,λ_ _ _ h=>(by simp at h)⟩,⟨(λq hq=>by cases hq),.nil⟩,[.str s],h1,?_⟩
 rcases hb with ⟨w1,_⟩|⟨j',ver',ws,cp,w1,_,_,w4⟩
 grind
 rw[w1]at hv;cases hv;exact hno 1 s1 rfl (.inl (by rw[w4,e]));show VRL dat [] lv [TV.str s] [.str s];simp only[VRL,VR]
 grind
def kzb:Nat->B8->Option (List B8):=λ_ s=>if s.length<4294967281∧s.all (λb=>decide (b.toNat<128))=true then some (Lib.fields s)else none
def y62:LSh:=⟨[(2,(.d (.sl .str)))],[],0,106,[]⟩
noncomputable def z3f:FI dat:=FI.of dat 126 106 0 [(.d .str)] [] [(.d (.sl .str))] [] true y62 (R:=List B8) (λx=>x.1) (λr=>(r,())) (λn x=>kzb n x.1)
 (λn=>[]) .skip
theorem yy5(s)(hl:s.length<4294967281)(ha:s.all (λb=>decide (b.toNat<128))=true):zpq prog 126 [.str s] (.sl 1 ((Lib.fields s).map V.str) false):=λH W g cargs hG hA=>by
 obtain⟨x,rfl,h0⟩:=ydd hA;cases h0
 have htab:Lib.TabIs prog W "strings.asciiSpace" .u8 Lib.asciiSpaceTab:=by
  obtain⟨_,ty,q,hq⟩:=hG.zns.1 0 gl0 rfl;unfold Lib.TabIs World.var?;rw[show prog.globalNamed "strings.asciiSpace" = some 0 by kernel_rfl];simp[hq];rfl
 refine .inl ⟨call126 _ _,(Any.strings_Fields z045 (by kernel_rfl) (by kernel_rfl) ⟨s.toArray⟩ W hl (λj b hb =>?_) htab).mono λe W' ⟨h1,h2⟩ =>?_⟩;rw[Qat]at ha
 grind
 subst h1;subst h2;have hg:Grow W (W.alloc (.cells ((Lib.fields s).map λl=>Value.string ⟨l.toArray⟩).toArray 9)):=Grow.alloc W _;refine⟨_,g,rfl,hg.step,hG.grow hg,?_⟩;have hno:¬Go.Ab.Own g H W.heap.size:=λ⟨l,i,o,h,he⟩=>by have:=hG.lt l i o h;omega
 have hcell:∀(j:Nat) (l:B8),(Lib.fields s)[j]? = some l->(W.alloc (.cells ((Lib.fields s).map λl=>Value.string ⟨l.toArray⟩).toArray 9)).cell? ⟨W.heap.size,j,none⟩=some (.string ⟨l.toArray⟩):=λj l hj=>by
  simp_all
 have key:∀(j:Nat) (y:V),((Lib.fields s).map V.str)[j]? = some y->∃l,(Lib.fields s)[j]? = some l∧y = .str l:=λj y hj=>by
  rw[Qan,Qaf]at hj
  grind
 have:=Rel.sl (W:=W.alloc (.cells ((Lib.fields s).map λl=>Value.string ⟨l.toArray⟩).toArray 9)) (g:=g) (H:=H) 1 ((Lib.fields s).map V.str) false W.heap.size 0 (Lib.fields s).length (λj _=>.string ⟨((Lib.fields s)[j]?.getD []).toArray⟩) hno (by decide) (by simp) (by simp)
  (λj y hj=>by obtain⟨l,_,rfl⟩:=key j y hj;rfl)
  (λj y t v hj ht=>by
   obtain⟨l,hl',rfl⟩:=key j y hj
   grind[V.cells])
  (λj y t v hj ht=>rfl)
  (λj y t v hj ht=>by
   obtain⟨l,hl',rfl⟩:=key j y hj
   cases t with
   |succ t=>simp[V.cells]at ht
   |zero=>
    simp[Qbn]at ht;subst ht;rw[hl']
    exact .str l)
 have h9:=by simpa using this
 exact h9
theorem zas:FOk prog z3f:=λn R x k kp r h=>by
 obtain⟨y,hy,h⟩:=Qbx.1 (show(kzb n x.1).bind (λr=>k (r,()))=some r from h);unfold kzb at hy;split at hy;rename_i hc;cases hy;refine⟨(_,()),h,rfl,rfl,rfl,λlv vargs ha=>⟨[.sl 1 ((Lib.fields x.1).map V.str) false],λρ lv' =>?_,?_⟩⟩;show VRL dat ρ lv' [TV.sl .str (Lib.fields x.1) 0] _;simp only[VRL,VR];exact⟨_,_,rfl,⟨DR.elsl .str _ λz=>.str z,by omega,by omega⟩,rfl⟩
 have ha:VRL dat [] lv [TV.str x.1] vargs:=ha;simp[VR]at ha;obtain⟨v,r1,rfl,rfl,rfl⟩:=ha;exact yy5 _ hc.1 hc.2;cases hy
def z1d:Nat->Int->Int->Option B8:=λ_ n b=>if b=10 ∧ -9223372036854775808<=n∧n<=9223372036854775807 then some (Lib.itoa n)else none
def zyu:LSh:=⟨[(4,(.d .str))],[],0,8,[]⟩
noncomputable def zl9:FI dat:=FI.of dat 277 8 0 [(.d (.int .i64)),(.d (.int .i64))] [] [(.d .str)] [] true zyu (R:=B8) (λx=>x.1) (λr=>(r,())) (λn x=>z1d n x.1 x.2.1)
 (λn=>[]) .skip
theorem z067(n)(h0 : -9223372036854775808<=n)(h1:n<=9223372036854775807):zpq prog 277 [.int .i64 n,.int .i64 10] (.str (Lib.itoa n)):=λH W g cargs hG hA=>by
 obtain⟨x,y,rfl,e0,e1⟩:=yqc hA;cases e0;cases e1
 have htab:Lib.TabIs prog W "internal/strconv.uint64pow10" .u64 Lib.pow10Tab:=by
  obtain⟨_,ty,q,hq⟩:=hG.zns.1 5 gl5 rfl;unfold Lib.TabIs World.var?;rw[show prog.globalNamed "internal/strconv.uint64pow10" = some 5 by kernel_rfl];simp[hq];rfl
 have c:=Any.strconv_FormatInt_10 {z00z with} n h0 h1 W htab;refine .inl ⟨call277 _ _,c.mono λe W' ⟨h1,k,os,h2⟩ =>?_⟩;subst h1;subst h2
 have hg:Grow W (Sort.grow (W.drewN k) os):=⟨rfl,rfl,rfl,by simp_all,λb hb=>by
  show(W.heap++os)[b]? = _
  grind⟩
 exact⟨_,g,rfl,hg.step,hG.grow hg,.str _⟩
theorem zxg:FOk prog zl9:=λn R x k kp r h=>by
 obtain⟨y,hy,h⟩:=Qbx.1 (show(z1d n x.1 x.2.1).bind (λr=>k (r,()))=some r from h);unfold z1d at hy;split at hy;rename_i hc;cases hy;refine⟨(_,()),h,rfl,rfl,rfl,λlv vargs ha=>⟨[.str (Lib.itoa x.1)],λρ lv' =>?_,?_⟩⟩;show VRL dat ρ lv' [TV.str (Lib.itoa x.1)] _;simp only[VRL,VR]
 grind
 have ha:VRL dat [] lv [TV.int .i64 x.1,TV.int .i64 x.2.1] vargs:=ha;simp[VR]at ha;obtain⟨v,r1,rfl,rfl,v2,r2,rfl,rfl,rfl⟩:=ha;rw[hc.1];exact z067 _ hc.2.1 hc.2.2;cases hy
def za4:Nat->B8->Int->Option Int:=λ_ s c=>some (Lib.indexByte s c.toNat.toUInt8)
def zhx:LSh:=⟨[(4,(.d (.int .i64)))],[],0,8,[]⟩
noncomputable def zax:FI dat:=FI.of dat 154 8 0 [(.d .str),(.d (.int .u8))] [] [(.d (.int .i64))] [] true zhx (R:=Int) (λx=>x.1) (λr=>(r,())) (λn x=>za4 n x.1 x.2.1)
 (λn=>[]) .skip
theorem z068(s)(c):zpq prog 154 [.str s,.int .u8 c] (.int .i64 (Lib.indexByte s c.toNat.toUInt8)):=λH W g cargs hG hA=>by
 obtain⟨x,y,rfl,h0,h1⟩:=yqc hA;cases h0;cases h1;have c:=Any.stringslite_IndexByte {z04q with} ⟨s.toArray⟩ c W;refine .inl ⟨call154 _ _,c.mono λe W' ⟨h1,h2⟩ =>?_⟩;subst h1;subst h2;exact⟨_,g,rfl,.refl _ _ _,hG,.int _ _⟩
theorem zh6:FOk prog zax:=λn R x k kp r h=>by
 refine⟨(Lib.indexByte x.1 x.2.1.toNat.toUInt8,()),h,rfl,rfl,rfl,λlv vargs ha=>⟨[.int .i64 (Lib.indexByte x.1 x.2.1.toNat.toUInt8)],λρ lv' =>?_,?_⟩⟩;show VRL dat ρ lv' [TV.int .i64 (Lib.indexByte x.1 x.2.1.toNat.toUInt8)] _;simp only[VRL,VR]
 grind
 obtain⟨v,r1,rfl,rfl,v2,r2,rfl,rfl,rfl⟩:=ha;exact z068 _ _
def z29:Nat->B8->B8->Option Int:=λ_ s t=>match t with
 |[c]=>some (Lib.indexByte s c)
 |_=>none
def zkm:LSh:=⟨[(4,(.d (.int .i64)))],[],0,143,[]⟩
noncomputable def z8q:FI dat:=FI.of dat 199 143 0 [(.d .str),(.d .str)] [] [(.d (.int .i64))] [] true zkm (R:=Int) (λx=>x.1) (λr=>(r,())) (λn x=>z29 n x.1 x.2.1)
 (λn=>[]) .skip
theorem z061(s)(c):zpq prog 199 [.str s,.str [c]] (.int .i64 (Lib.indexByte s c)):=λH W g cargs hG hA=>by
 obtain⟨x,y,rfl,h0,h1⟩:=yqc hA;cases h0;cases h1;have c:=Any.stringslite_Index_one {z03w with} ⟨s.toArray⟩ c W;refine .inl ⟨call199 _ _,c.mono λe W' ⟨h1,h2⟩ =>?_⟩;subst h1;subst h2;exact⟨_,g,rfl,.refl _ _ _,hG,.int _ _⟩
theorem zcr:FOk prog z8q:=λn R x k kp r h=>by
 obtain⟨s,t,u⟩:=x;obtain⟨y,hy,h⟩:=Qbx.1 (show(z29 n s t).bind (λr=>k (r,()))=some r from h)
 match t,hy with
 |[c],hy=>
  refine⟨(_,()),h,rfl,rfl,rfl,λlv vargs ha=>⟨[.int .i64 (Lib.indexByte s c)],λρ lv' =>?_,?_⟩⟩;show VRL dat ρ lv' [TV.int .i64 (Lib.indexByte s c)] _;simp only[VRL,VR]
  grind
  obtain⟨v,r1,rfl,rfl,v2,r2,rfl,rfl,rfl⟩:=ha;exact z061 _ _
def zag:Nat->Int->Option B8:=λ_ n=>if -9223372036854775808<=n∧n<=9223372036854775807 then some (Lib.itoa n)else none
def ycd:LSh:=⟨[(2,(.d .str))],[],0,5,[]⟩
noncomputable def zx8:FI dat:=FI.of dat 63 5 0 [(.d (.int .i64))] [] [(.d .str)] [] true ycd (R:=B8) (λx=>x.1) (λr=>(r,())) (λn x=>zag n x.1)
 (λn=>[]) .skip
theorem z04a(n)(h0 : -9223372036854775808<=n)(h1:n<=9223372036854775807):zpq prog 63 [.int .i64 n] (.str (Lib.itoa n)):=λH W g cargs hG hA=>by
 obtain⟨x,rfl,e0⟩:=ydd hA;cases e0
 have htab:Lib.TabIs prog W "internal/strconv.uint64pow10" .u64 Lib.pow10Tab:=by
  obtain⟨_,ty,q,hq⟩:=hG.zns.1 5 gl5 rfl;unfold Lib.TabIs World.var?;rw[show prog.globalNamed "internal/strconv.uint64pow10" = some 5 by kernel_rfl];simp[hq];rfl
 have c:=Any.strconv_Itoa {yyy with} n h0 h1 W htab;refine .inl ⟨call63 _ _,c.mono λe W' ⟨h1,k,os,h2⟩ =>?_⟩;subst h1;subst h2
 have hg:Grow W (Sort.grow (W.drewN k) os):=⟨rfl,rfl,rfl,by simp_all,λb hb=>by
  show(W.heap++os)[b]? = _
  grind⟩
 exact⟨_,g,rfl,hg.step,hG.grow hg,.str _⟩
theorem y94:FOk prog zx8:=λn R x k kp r h=>by
 obtain⟨y,hy,h⟩:=Qbx.1 (show(zag n x.1).bind (λr=>k (r,()))=some r from h);unfold zag at hy;split at hy;rename_i hc;cases hy;refine⟨(_,()),h,rfl,rfl,rfl,λlv vargs ha=>⟨[.str (Lib.itoa x.1)],λρ lv' =>?_,?_⟩⟩;show VRL dat ρ lv' [TV.str (Lib.itoa x.1)] _;simp only[VRL,VR]
 grind
 have ha:VRL dat [] lv [TV.int .i64 x.1] vargs:=ha;simp[VR]at ha;obtain⟨v,r1,rfl,rfl,rfl⟩:=ha;exact z04a _ hc.1 hc.2;cases hy
def kze:Nat->List B8->Option (List B8):=λ_ xs=>if xs.length<4611686018427387904 then some (yp3 xs)else none
noncomputable def z0u:FI dat:=ytv dat 46 9 kze
theorem z8k:FOk prog z0u:=by
 have e:kze=λ_ xs=>if xs.length<4611686018427387904 then some (z4c xs)else none:=by grind[kze,yco]
 unfold z0u;rw[e];exact z03q (λ_ _=>call46 _ _) (λblk cap ss w h1 h2 h3=>Any.slices_Sort_string yvc blk 0 cap ss w h1 h2 h3) (λp cap w=>Any.slices_Sort_string_none yvc p cap w)
def zbu:Nat->List B8->Option (List B8):=λ_ xs=>if xs.length<=9223372036854775807 then some (zwe xs)else none
noncomputable def zc9:FI dat:=y72 dat 47 9 zbu
theorem zim:FOk prog zc9 :=
 yum (λ_ _=>call47 _ _) (λblk cap zs w h1 h2 h3=>Any.slices_Compact_string yvq blk 0 cap zs w h1 h2 h3) (λp cap w=>Any.slices_Compact_string_empty yvq p cap w)
def zf5:Nat->B8->B8->Option (List B8):=λ_ s t=>if t=[32]∧s.length<=1048576 then some (parts 32 s)else none
def ya6:LSh:=⟨[(4,(.d (.sl .str)))],[],0,8,[]⟩
noncomputable def zui:FI dat:=FI.of dat 102 8 0 [(.d .str),(.d .str)] [] [(.d (.sl .str))] [] true ya6 (R:=List B8) (λx=>x.1) (λr=>(r,())) (λn x=>zf5 n x.1 x.2.1)
 (λn=>[]) .skip
theorem y3x(b):∀(k) (s),s.countP (· == b)=k->Lib.splitK [b] 0 k s=parts b s
 |0,s,h=>by
  have ha:s.any (· == b)=false:=by
   grind
  rw[parts_eq,z038 ha];rfl
 |k+1,s,h=>by
  have ha:s.any (· == b)=true:=by
   grind[List.countP_pos_iff]
  obtain⟨c1,c2,c3⟩:=ylc ha;have hi:Lib.index s [b]=((s.takeWhile (· != b)).length:Int):=by rw[Lib.index_one,y56,Qbq ha]
  have hn:¬(Lib.index s [b] == -1)=true:=λe=>by grind
  have hc:(cutAt b s).2.2=true:=ha;have hlen:=congrArg List.length (parts_eq b s);rw[Qbq hc,zo2,List.length_cons,zo2]at hlen;rw[Lib.splitK,Qbr hn,hi,Int.toNat_natCast,parts_eq,Qbq hc]
  congr 1
  rw[List.length_singleton,c3];exact y3x b k _ (by grind[cutAt])
theorem yoi(s)(w)(hs:s.size<4294967281):Calls prog 102 #[.string s,.string ⟨#[32]⟩] w λe w'=>
  ∃l:List ByteArray,l.map (·.data.toList)=parts 32 s.data.toList∧e = .returned (.slice (some ⟨w.heap.size,0,none⟩) l.length l.length)∧w'=w.alloc (.cells (l.map Value.string).toArray 9):=by
 have h1:1<=(⟨#[32]⟩:ByteArray).size:=by decide
 have hlen:=Lib.splitB_all ⟨#[32]⟩ h1 0 _ s rfl
 have c:=Any.strings_genSplit_core (ρ:=y8k) {ymg with} (by kernel_rfl) s ⟨#[32]⟩ 0 (-1) (Lib.countB s ⟨#[32]⟩+1) w hs h1 (Qbo _)
  (λx c hx=>(Any.strings_Index_one {ymg with} x 32 _).mono λe w' ⟨a1,a2⟩=>⟨by rw[a1];exact congrArg (λz=>Ending.returned (Value.int .i64 z)) (Lib.index_one _ _).symm,a2⟩)
  ((Any.strings_Count_one {ymg with} s 32 w).mono λe w' ⟨a1,a2⟩=>⟨by
    rw[a1];show _=Ending.returned (Value.int .i64 ((Lib.count s.data.toList [32]:Nat):Int))
    rw[Lib.count_one];rfl,a2⟩) (by decide) (by decide) (by rw[Qbq (by decide)];have:=Lib.countB_le ⟨#[32]⟩ h1 s.size s (Qbp _);omega)
 have e2:Lib.cellsOf (Lib.splitB ⟨#[32]⟩ 0 (Lib.countB s ⟨#[32]⟩) s) (Lib.countB s ⟨#[32]⟩+1)=((Lib.splitB ⟨#[32]⟩ 0 (Lib.countB s ⟨#[32]⟩) s).map Value.string).toArray:=by rw[<-hlen];exact Lib.cellsOf_full _
 have hp:(Lib.splitB ⟨#[32]⟩ 0 (Lib.countB s ⟨#[32]⟩) s).map (·.data.toList)=parts 32 s.data.toList:=by
  rw[Lib.splitB_data];refine y3x 32 _ _ ?_;show _=Lib.count s.data.toList [32];rw[Lib.count_one];rfl
 go_enter func102,ntmps102
 go_wp2_with (go_at_call 157;refine c.mono ?_;rintro e w' ⟨rfl,hw⟩;rw[hw])
 go_ret
 refine⟨_,hp,?_,rfl⟩;rw[hlen];rfl
theorem z049{W g H}(hG:Go.Ab.Good W g H)(xs:List B8)(hx:xs.length<=1073741824) :
  Rel (W.alloc (.cells (xs.map λl=>Value.string ⟨l.toArray⟩).toArray 9)) g H (.sl 1 (xs.map V.str) false) (.slice (some ⟨W.heap.size,0,none⟩) xs.length xs.length):=by
 have hno:¬Go.Ab.Own g H W.heap.size:=λ⟨l,i,o,h,he⟩=>by have:=hG.lt l i o h;omega
 have hcell:∀(j:Nat) (l:B8),xs[j]? = some l->(W.alloc (.cells (xs.map λl=>Value.string ⟨l.toArray⟩).toArray 9)).cell? ⟨W.heap.size,j,none⟩=some (.string ⟨l.toArray⟩):=λj l hj=>by
  simp_all
 have key:∀(j:Nat) (y:V),(xs.map V.str)[j]? = some y->∃l,xs[j]? = some l∧y = .str l:=λj y hj=>by
  rw[Qan,Qaf]at hj
  grind
 have:=Rel.sl (W:=W.alloc (.cells (xs.map λl=>Value.string ⟨l.toArray⟩).toArray 9)) (g:=g) (H:=H) 1 (xs.map V.str) false W.heap.size 0 xs.length (λj _=>.string ⟨(xs[j]?.getD []).toArray⟩) hno (by decide) (by simp) (by simp)
  (λj y hj=>by obtain⟨l,_,rfl⟩:=key j y hj;rfl)
  (λj y t v hj ht=>by
   obtain⟨l,hl',rfl⟩:=key j y hj
   grind[V.cells])
  (λj y t v hj ht=>rfl)
  (λj y t v hj ht=>by
   obtain⟨l,hl',rfl⟩:=key j y hj
   cases t with
   |succ t=>simp[V.cells]at ht
   |zero=>
    simp[Qbn]at ht;subst ht;rw[hl']
    exact .str l)
 simpa using this
theorem mk_data(s):(⟨s.toArray⟩:ByteArray).data.toList=s:=rfl
theorem z02m(s)(hs:s.length<=1048576):zpq prog 102 [.str s,.str [32]] (.sl 1 ((parts 32 s).map V.str) false):=λH W g cargs hG hA=>by
 obtain⟨a,b,rfl,h0,h1⟩:=yqc hA;cases h0;cases h1
 have hlen:(parts 32 s).length<=1048577:=by
  grind[zo2]
 refine .inl ⟨call102 _ _,(yoi ⟨s.toArray⟩ W (by simp only[ByteArray.size];simp;omega)).mono ?_⟩
 rintro e W' ⟨l,hl,rfl,rfl⟩
 have hlm:l.map Value.string=(parts 32 s).map λz=>Value.string ⟨z.toArray⟩:=by
  grind[List.map_congr_left]
 have hll:l.length=(parts 32 s).length:=by grind
 rw[hlm,hll];have hg:Grow W (W.alloc (.cells ((parts 32 s).map λl=>Value.string ⟨l.toArray⟩).toArray 9)):=Grow.alloc W _;exact⟨_,g,rfl,hg.step,hG.grow hg,z049 hG _ (by omega)⟩
theorem y68:FOk prog zui:=λn R x k kp r h=>by
 obtain⟨y,hy,h⟩:=Qbx.1 (show(zf5 n x.1 x.2.1).bind (λr=>k (r,()))=some r from h);unfold zf5 at hy;split at hy;rename_i hc;cases hy;refine⟨(_,()),h,rfl,rfl,rfl,λlv vargs ha=>⟨[.sl 1 ((parts 32 x.1).map V.str) false],λρ lv' =>?_,?_⟩⟩;show VRL dat ρ lv' [TV.sl .str (parts 32 x.1) 0] _;simp only[VRL,VR];exact⟨_,_,rfl,⟨DR.elsl .str _ λz=>.str z,by omega,by omega⟩,rfl⟩
 have ha:VRL dat [] lv [TV.str x.1,TV.str x.2.1] vargs:=ha;simp[VR]at ha;obtain⟨v,r1,rfl,rfl,v2,r2,rfl,rfl,rfl⟩:=ha;rw[hc.1];exact z02m _ hc.2;cases hy
theorem yt8(l)(bk o c)(w)(hcells:∀(j:Nat) x,l[j]? = some x->w.cell? ⟨bk,o+j,none⟩=some (.string x))(hN:l.length<=1048576)(hcap:l.length<=c)
  (hlen:(Lib.join (l.map (·.data.toList)) [32]).length<=16777216) (h0:l=[]∨bk<w.heap.size) :
  Calls prog 60 #[.slice (some ⟨bk,o,none⟩) l.length c,.string ⟨#[32]⟩] w λe w'=>e = .returned (.string ⟨(Lib.join (l.map (·.data.toList)) [32]).toArray⟩)∧RowKit.Below w.heap.size w w':=by
 rcases h0 with rfl|hbk
 exact(Any.strings_Join_none yk8 zi9 _ c ⟨#[32]⟩ w).mono λe w' ⟨he,hw⟩=>⟨he,hw▸RowKit.Below.refl _ _⟩
 exact Any.strings_Join yk8 zi9 bk o c l ⟨#[32]⟩ w hcells hbk (by omega) hcap (by grind)
theorem join_none(a)(c)(w):Calls prog 60 #[.slice a 0 c,.string ⟨#[32]⟩] w λe w'=>e = .returned (.string ⟨([]:B8).toArray⟩)∧w'=w :=
 (Any.strings_Join_none yk8 zi9 a c ⟨#[32]⟩ w).mono λe w' ⟨he,hw⟩=>⟨he,hw⟩
def zak:Nat->List B8->B8->Option B8:=λ_ xs t=>if t=[32]∧xs.length<=1048576∧(Lib.join xs [32]).length<=16777216 then some (Lib.join xs [32])else none
noncomputable def zwy:FI dat :=
 {R:=B8,ent:=λn=>{f:=60,p:=0,args:=[.d (.sl .str),.d .str],aos:=[],outs:=[.d .str],ros:=[],pan:=.nilp,pos:=[],pure:=true,go:=λx k _=>(zak n x.1 x.2.1).bind λr=>k (r,())},
   c:=.skip,K:=⟨λ_=>none,[],λ_=>none,λ_ _=>none⟩,p:=0,args:=[],aos:=[],nt:=0,z0s:=λ_=>[],go:=λ_ _=>none}
theorem z04v(xs)(hb1:xs.length<=1048576)(hb2:(Lib.join xs [32]).length<=16777216){v}(hv:DR dat (.sl .str) xs v):zpq prog 60 [v,.str [32]] (.str (Lib.join xs [32])):=λH W g cargs hG hR=>by
 obtain⟨x,y,rfl,h0,h1⟩:=yqc hR;cases h1;refine .inl ⟨call60 _ _,?_⟩
 have nil:∀a c,xs=[]->Calls prog 60 #[.slice a 0 c,.string ⟨#[32]⟩] W λe W'=>∃c g',e = .returned c∧Step W g H W' g' H∧Go.Ab.Good W' g' H∧Rel W' g' H (.str (Lib.join xs [32])) c:=λa c he=>(join_none a c W).mono λe w' ⟨he',hw⟩=>by
  subst he;subst hw;exact⟨_,g,he',.refl _ _ _,hG,.str _⟩
 cases hv with
 |nil=>cases h0;exact nil none 0 rfl
 |sl _ _ ws full hl hd=>
  have hws:ws=xs.map V.str:=by
   refine List.ext_getElem? λj =>?_
   rw[Qan]
   cases hj:xs[j]? with
   |none=>have:=List.getElem?_eq_none_iff.1 hj;simp only[Option.map_none];exact List.getElem?_eq_none (by rw[hl];exact this)
   |some z=>
    have hlt:=(Qaa.1 hj).1;obtain⟨w,hw⟩:∃w,ws[j]? = some w:=⟨_,Qab (by rw[hl];exact hlt)⟩;have:=hd j z w hj hw;rw[hw];cases this;rfl
  subst hws;generalize hxs:xs.map V.str=ys at h0
  cases h0 with
  |slnil=>grind
  |sle _ _ a cap hf=>grind
  |sl _ _ _ b o cap c hb' hz hcap hf hs hc ho1 hr=>
   subst hxs
   have hcell:∀(j:Nat) (s:B8),xs[j]? = some s->W.cell? ⟨b,o+j,none⟩=some (.string ⟨s.toArray⟩):=λj s hj=>by
    have e1:(xs.map V.str)[j]? = some (.str s):=by grind
    have e2:=hc j (.str s) 0 (.str s) e1 rfl;have e3:=hr j (.str s) 0 (.str s) e1 rfl;have e2:W.cell? ⟨b,o+j * 1+0,none⟩=some (c j 0):=e2;rw[Nat.mul_one,Nat.add_zero]at e2;rw[e2];cases hz:c j 0 <;> rw[hz]at e3 <;> cases e3
    rfl
   have hlm:(xs.map λs=>(⟨s.toArray⟩:ByteArray)).map (·.data.toList)=xs:=by rw[List.map_map];exact(List.map_congr_left λs _=>mk_data s).trans (List.map_id _)
   have:=yt8 (xs.map λs=>⟨s.toArray⟩) b o cap W (λj x hj=>by
    rw[Qan,Qaf]at hj;obtain⟨s,hs,rfl⟩:=hj
    exact hcell j s hs) (by simpa using hb1) (by simpa using hcap) (by rw[hlm];exact hb2) (by
    cases xs with
    |nil=>exact .inl rfl
    |cons s t=>exact .inr (y4u (hcell 0 s rfl)))
   rw[hlm,List.length_map]at this;rw[List.length_map];refine this.mono ?_
   rintro e W' ⟨rfl,hB⟩
   have hg:Grow W W':=⟨hB.os,hB.tape,hB.output,hB.size,hB.block⟩;exact⟨_,g,rfl,hg.step,hG.grow hg,.str _⟩
theorem ya1:FOk prog zwy:=λn R x k kp r h=>by
 obtain⟨xs,t,u⟩:=x;obtain⟨y,hy,h⟩:=Qbx.1 (show(zak n xs t).bind (λr=>k (r,()))=some r from h);unfold zak at hy;split at hy
 case isFalse=>cases hy
 rename_i hb;obtain⟨rfl,hb1,hb2⟩:=hb;cases hy;refine⟨(_,()),h,rfl,rfl,rfl,λlv vargs ha=>⟨[.str (Lib.join xs [32])],λρ lv' =>?_,?_⟩⟩;show VRL dat ρ lv' [TV.str (Lib.join xs [32])] _;simp only[VRL,VR]
 grind
 obtain⟨v,r1,rfl,⟨hv,_,_⟩,v2,r2,rfl,rfl,rfl⟩:=ha;exact z04v xs hb1 hb2 hv
theorem y5t{f:Nat}{vargs H rv}(hent:∀args w,(callFunc f args).run prog w = .ok (.enter f args) w)
  (h:∀W g cargs,Go.Ab.Good W g H->zk0 W g H vargs cargs->Calls prog f cargs W λe W'=>Grow W W'∧∃c,e = .returned c∧Rel W' g H rv c):znq prog f vargs H λo H'=>o = .ret rv∧H'=H:=λW g cargs hG hA=>
 ⟨hent _ _,(h W g cargs hG hA).mono λe W' ⟨hg,c,he,hr⟩=>⟨.ret rv,H,g,⟨rfl,rfl⟩,hg.step,hG.grow hg,c,he,hr⟩⟩
theorem y1w{lv L}:Go.Ab.Left dat lv L [] 0 L [] [] () :=
 ⟨rfl,λ_ _ h=>(by cases h),λ_ _ _ _ _ h=>(by simp at h),λ_ _ _ h=>(by simp at h),λi hi _=>⟨hi,rfl⟩,λ_ _ h=>(Nat.not_lt_zero _ h).elim,λ_ _ _ h=>(by simp at h)⟩
def zfi:Nat->B8->Option B8
 |0,_=>none
 |n+1,a0=>some a0
def y9w:LSh:=⟨[(2,(.fn 98 [] [.ptr 0 0]))],[.cells [.d .str]],0,4,[]⟩
noncomputable def zdb:FI dat:=FI.of dat 42 4 0 [(.d .str)] [] [(.fn 98 [] [.ptr 0 0])] [.cells [.d .str]] false y9w (R:=B8) (λx=>x.1) (λr=>(r,())) (λn x=>zfi n x.1)
 (λn=>[]) (ann [] (f42.body.getD .skip) 0).1
theorem y8p:(zdb).Good prog dat (tb []):=FI.z0t (hD:=zz8 _) func42 ntmps42 call42 (by kernel_rfl) (Qac (by kernel_rfl)) (by kernel_rfl) (λn=>by kernel_rfl) (λx=>by kernel_rfl) (λ_=>rfl) trivial
 (λn=>λx=>(zfi.eq_2 x.1 n).trans (by kernel_rfl))
 (λn=>trivial)
 (λx=>.inr (by kernel_rfl))
theorem y8o:OkL prog [zdb]:=zq0 (zz8 _) (bs:=[]) trivial y8p
theorem y75:FOk prog zdb:=y8o.1
def zgk:Nat->B8->Option (Res (Int×Unit) Int):=λ_ s=>if s.length<=1000000 then some (match Lib.atoiAll s with
 |.ok v=>.ok v
 |.range=>.pan (Lib.atoiSat s,())
 |_=>.pan (0,()))else none
noncomputable def zwq:FI dat :=
 {R:=Res (Int×Unit) Int,ent:=λn=>{f:=103,p:=0,args:=[.d .str],aos:=[],outs:=[.d (.int .i64),.nili],ros:=[],pan:=.tup [.d (.int .i64),.iface 233 .any],pos:=[],pure:=false,go:=λx k kp=>(zgk n x.1).bind λo=>zpx o (λr=>k (r,())) λy=>kp y},
   c:=.skip,K:=⟨λ_=>none,[],λ_=>none,λ_ _=>none⟩,p:=0,args:=[],aos:=[],nt:=0,z0s:=λ_=>[],go:=λ_ _=>none}
theorem yoa(W)(ty:Nat)(t):Below W.heap.size W (Lib.bytesWorld W ty t):=⟨rfl,rfl,rfl,by rw[Lib.bytesWorld_size];omega,λj hj=>Lib.bytesWorld_at_old W ty t j hj⟩
theorem z00w{W g H}(hG:Go.Ab.Good W g H){k}(hk:gle k=true):∃v,W.cell? ⟨k,0,none⟩=some v∧(v = .nilIface∨∃te pe,v = .iface te pe):=by
 obtain⟨_,v,ty,q,h1,h2⟩:=hG.zns.2 k hk;exact⟨v,by rw[Lib.cell_of_heap h1];rfl,h2⟩
theorem yyw(s)(hs:s.length<=1000000)(H):znq prog 103 [.str s] H λo H'=>H'=H∧match Lib.atoiAll s with
  |.ok v=>o = .ret (.tup [.int .i64 v,.nili])
  |.range=>o = .ret (.tup [.int .i64 (Lib.atoiSat s),.iface 233 .any])
  |_=>o = .ret (.tup [.int .i64 0,.iface 233 .any]):=by
 have hz:(⟨s.toArray⟩:ByteArray).size<=281474976710656:=by show s.toArray.size<=_;simp;omega
 have tup2:∀{W:World}{g:Gh}{a b:V}{x y:Value},Rel W g H a x->Rel W g H b y->Rel W g H (.tup [a,b]) (.tuple #[x,y]):=λ{W g a b x y} h1 h2=>.tup _ _ rfl λj v hj=>by
  match j,hj with
  |0,hj=>simp_all
  |1,hj=>simp_all
  |j+2,hj=>simp at hj
 cases h:Lib.atoiAll s
 case ok v=>
  refine(y5t (rv:=.tup [.int .i64 v,.nili]) (λ_ _=>call103 _ _) λW g cargs hG hA =>?_).mono λo H' ⟨a,b⟩=>⟨b,a⟩
  obtain⟨x,rfl,h0⟩:=ydd hA;cases h0;refine(Any.strconv_Atoi_ok ydr ⟨s.toArray⟩ (by omega) v h W).mono λe W' ⟨h1,h2⟩ =>?_
  have hB:Below W.heap.size W W':=by
   rcases h2 with rfl|⟨t,rfl⟩
   exact .refl _ _;exact yoa _ _ _
  exact⟨⟨hB.os,hB.tape,hB.output,hB.size,hB.block⟩,_,h1,tup2 (.int _ _) .nili⟩
 case range=>
  refine(y5t (rv:=.tup [.int .i64 (Lib.atoiSat s),.iface 233 .any]) (λ_ _=>call103 _ _) λW g cargs hG hA =>?_).mono λo H' ⟨a,b⟩=>⟨b,a⟩
  obtain⟨x,rfl,h0⟩:=ydd hA;cases h0;obtain⟨ev,hv,hev⟩:=z00w hG (k:=4) rfl;refine(Any.strconv_Atoi_range ydr ⟨s.toArray⟩ hz h ev W hv hev).mono λe W' ⟨N,h1,_,_,hB⟩ =>?_
  exact⟨⟨hB.os,hB.tape,hB.output,hB.size,hB.block⟩,_,h1,tup2 (.int _ _) (.iface _ _ _ (.any _))⟩
 refine(y5t (rv:=.tup [.int .i64 0,.iface 233 .any]) (λ_ _=>call103 _ _) λW g cargs hG hA =>?_).mono λo H' ⟨a,b⟩=>⟨b,a⟩
 obtain⟨x,rfl,h0⟩:=ydd hA;cases h0;obtain⟨ev,hv,hev⟩:=z00w hG (k:=3) rfl;refine(Any.strconv_Atoi_syntax ydr ⟨s.toArray⟩ hz h ev W hv hev).mono λe W' ⟨N,h1,_,_,hB⟩ =>?_
 exact⟨⟨hB.os,hB.tape,hB.output,hB.size,hB.block⟩,_,h1,tup2 (.int _ _) (.iface _ _ _ (.any _))⟩
theorem y9f:FOk prog zwq:=λn R x k kp r h=>by
 obtain⟨o,ho,h⟩:=Qbx.1 (show(zgk n x.1).bind (λo=>zpx o (λr=>k (r,())) λy=>kp y)=some r from h);unfold zgk at ho;split at ho
 case isFalse=>cases ho
 rename_i hs;injection ho with ho;have hr:=λH=>yyw x.1 hs H
 cases ha:Lib.atoiAll x.1
 case ok v=>
  rw[ha]at ho hr;subst ho;refine .inl ⟨(v,()),h,λlv L E ρ0 vargs k1 k2 k3 k4 _ =>?_⟩;obtain rfl:ρ0=[]:=Qao k1;have k2:VRL dat [] lv [TV.str x.1] vargs:=k2;simp[VR]at k2;obtain⟨v',r1,rfl,rfl,rfl⟩:=k2;refine(hr ⟨lv,L,E⟩).mono λo H' ⟨e1,e2⟩=>⟨L,[],e1,y1w,⟨(λq hq=>by cases hq),.nil⟩,[.int .i64 v,.nili],e2,?_⟩
  show VRL dat [] lv [TV.int .i64 v,TV.nili] _;simp only[VRL,VR]
  grind
 case range=>
  rw[ha]at ho hr;subst ho;refine .inr ⟨(Lib.atoiSat x.1,()),h,λlv L E ρ0 vargs k1 k2 k3 k4 _ =>?_⟩;obtain rfl:ρ0=[]:=Qao k1;have k2:VRL dat [] lv [TV.str x.1] vargs:=k2;simp[VR]at k2;obtain⟨v',r1,rfl,rfl,rfl⟩:=k2;refine(hr ⟨lv,L,E⟩).mono λo H' ⟨e1,e2⟩=>⟨L,[],e1,y1w,_,e2,?_⟩
  show VR dat [] lv (.tup [TV.int .i64 (Lib.atoiSat x.1),TV.iface 233 .any]) _;simp only[VR,VRL];exact⟨_,rfl,_,_,rfl,rfl,_,_,rfl,⟨_,rfl,trivial⟩,rfl⟩
 rw[ha]at ho hr;subst ho;refine .inr ⟨((0:Int),()),h,λlv L E ρ0 vargs k1 k2 k3 k4 _ =>?_⟩;obtain rfl:ρ0=[]:=Qao k1;obtain⟨v',r1,rfl,rfl,rfl⟩:=k2;refine(hr ⟨lv,L,E⟩).mono λo H' ⟨e1,e2⟩=>⟨L,[],e1,y1w,_,e2,?_⟩
 exact⟨_,rfl,_,_,rfl,rfl,_,_,rfl,⟨_,rfl,trivial⟩,rfl⟩
end Go.Proofs.YthphaiccgnkobaaGreatDoor
namespace Go.Proofs.YthphaiccgnkobaaGreatDoor
open Go Go.Ab
open Go.Proofs.Tryz
set_option linter.unusedVariables false
set_option maxRecDepth 100000
set_option maxHeartbeats 4000000
def yqq:Nat->B8->Ot zz1
 |0,_=>none
 |n+1,a=>
  some (zz1.mk 2 (kz0.mk 0 (yz4.mk 0 0) false [] []) a [])
def ztm:Nat->Int->Ot zz1
 |0,_=>none
 |n+1,a=>
  some (zz1.mk 1 (kz0.mk 1 (yz4.mk a 1) false [] []) [] [])
def zyj:Nat->Option zz1
 |0=>none
 |n+1=>
  some (zz1.mk 1 (kz0.mk 2 (yz4.mk 0 0) true [] []) [] [])
def ynw:Nat->zz4->Ot yz1
 |0,_=>none
 |n+1,a=>
  (ztm n 1).bind λy0=>
  (zyj n).bind λy1=>
  some (yz1.mk [(zzi.mk [107] y0.re)] [(yz5.mk [97] [[110]] [(zz6.mk 1 y1.re [a])])])
def zad:Nat->zz4->Ot Bool
 |0,_=>none
 |n+1,a=>
  some (decide ((a.items.length:Int)>10))
def yed:LSh:=⟨[(2,dB)],[],0,7,[]⟩
noncomputable def zv3:FI dat:=FI.of dat 87 7 0 [dT 8] [] [dB] [] true yed (R:=Bool) Prod.fst (·,()) (λn=>u1 (zad n))
 (λn=>[]) (anb [] f87)
theorem y98:FOk prog zv3:=okF (bs:=[]) trivial func87 ntmps87 call87
 (λn=>λ_=>tr (zad.eq_2 _ n))
 (λn=>trivial)
mutual
def zzh:Nat->zaf->Ot Int
 |0,_=>none
 |n+1,a=>
  yza n 0 a (a.length:Int)
def yza:Nat->Int->zaf->Int->Ot Int
 |0,_,_,_=>none
 |n+1,a,b,c=>
  pIf (decide (a<c))
   ((ix b a).bind λx0=>
   (zad n x0).bind λy1=>
   pIf y1
    (some a)
    (yza n (IntKind.i64.wrap (a+1)) b c))
   (some (-1))
end
def zdz:LSh:=⟨[(4,dI)],[],0,19,[]⟩
noncomputable def z5t:FI dat:=FI.of dat 147 19 0 [dL 8,(.fn 87 [] [])] [] [dI] [] true zdz (R:=Int) Prod.fst (·,()) (λn=>u1 (zzh n))
 (λn=>[(0,⟨⟨[(8,dI),(0,dL 8),(1,(.fn 87 [] [])),(7,dI)],[],0,19,[]⟩,u3 (yza n)⟩)]) (anb [(6,0)] f147)
theorem zdc:FOk prog z5t:=okF (bs:=[zv3]) ⟨y98,trivial⟩ func147 ntmps147 call147
 (λ_ _=>tr (zzh.eq_2 ..))
 (λn=>⟨λ_=>tr (yza.eq_2 ..),
  trivial⟩)
def kza:Nat->zaf->Ot Bool
 |0,_=>none
 |n+1,a=>
  (zzh n a).bind λy0=>
  some (decide (y0>=0))
def zcl:LSh:=⟨[(4,dB)],[],0,9,[]⟩
noncomputable def z3q:FI dat:=FI.of dat 86 9 0 [dL 8,(.fn 87 [] [])] [] [dB] [] true zcl (R:=Bool) Prod.fst (·,()) (λn=>u1 (kza n))
 (λn=>[]) (anb [] f86)
theorem zc8:FOk prog z3q:=okF (bs:=[z5t]) ⟨zdc,trivial⟩ func86 ntmps86 call86
 (λ_ _=>tr (kza.eq_2 ..))
 (λn=>trivial)
mutual
def zdm:Nat->yz1->Ot Bool
 |0,_=>none
 |n+1,a=>
  pIf (decide ((a.attrs.length:Int)>20))
   (z5x n true a)
   (z5x n (decide ((a.rules.length:Int)>40)) a)
def z5x:Nat->Bool->yz1->Ot Bool
 |0,_,_=>none
 |n+1,a,b=>
  pIf a
   (some true)
   (z3i n 0 b.rules (b.rules.length:Int))
def z3i:Nat->Int->yzf->Int->Ot Bool
 |0,_,_,_=>none
 |n+1,a,b,c=>
  pIf (decide (a<c))
   ((ix b a).bind λx0=>
   pIf (decide ((x0.params.length:Int)>4))
    (z7b n b c a true x0)
    (z7b n b c a (decide ((x0.cases.length:Int)>6)) x0))
   (some false)
def z7b:Nat->yzf->Int->Int->Bool->yz5->Ot Bool
 |0,_,_,_,_,_=>none
 |n+1,a,b,c,d,e=>
  pIf d
   (some true)
   (z39 n 0 e.cases a b c (e.cases.length:Int))
def z39:Nat->Int->z1o->yzf->Int->Int->Int->Ot Bool
 |0,_,_,_,_,_,_=>none
 |n+1,a,b,c,d,e,f=>
  pIf (decide (a<f))
   ((ix b a).bind λx1=>
   pIf (decide ((x1.do_.length:Int)>10))
    (z6p n b c d e f a true)
    ((kza n x1.do_).bind λy2=>
    z6p n b c d e f a y2))
   (z3i n (IntKind.i64.wrap (e+1)) c d)
def z6p:Nat->z1o->yzf->Int->Int->Int->Int->Bool->Ot Bool
 |0,_,_,_,_,_,_,_=>none
 |n+1,a,b,c,d,e,f,g=>
  pIf g
   (some true)
   (z39 n (IntKind.i64.wrap (f+1)) a b c d e)
end
def ylw:LSh:=⟨[(2,dB)],[],0,52,[]⟩
noncomputable def y4x:FI dat:=FI.of dat 32 52 0 [dT 11] [] [dB] [] true ylw (R:=Bool) Prod.fst (·,()) (λn=>u1 (zdm n))
 (λn=>[(0,⟨⟨[(1,(.ptr 0 0)),(16,dB)],[(.st 11)],0,52,[]⟩,u2 (z5x n)⟩),(1,⟨⟨[(20,dI),(18,dL 10),(19,dI)],[],0,52,[]⟩,u3 (z3i n)⟩),(2,⟨⟨[(18,dL 10),(19,dI),(20,dI),(4,(.ptr 0 0)),(33,dB)],[(.st 10)],0,52,[]⟩,u5 (z7b n)⟩),(3,⟨⟨[(37,dI),(35,dL 9),(18,dL 10),(19,dI),(20,dI),(36,dI)],[],0,52,[]⟩,u6 (z39 n)⟩),(4,⟨⟨[(35,dL 9),(18,dL 10),(19,dI),(20,dI),(36,dI),(37,dI),(49,dB)],[],0,52,[]⟩,u7 (z6p n)⟩)]) (anb [(5,0),(14,1),(28,2),(36,3),(49,4)] f32)
theorem yfp:FOk prog y4x:=okF (bs:=[z3q]) ⟨zc8,trivial⟩ func32 ntmps32 call32
 (λ_ _=>tr (zdm.eq_2 ..))
 (λn=>⟨λ_=>tr (z5x.eq_2 ..),
  λ_=>tr (z3i.eq_2 ..),
  λ_=>tr (z7b.eq_2 ..),
  λ_=>tr (z39.eq_2 ..),
  λ_=>tr (z6p.eq_2 ..),
  trivial⟩)
mutual
def zbo:Nat->B8->Ot Bool
 |0,_=>none
 |n+1,a=>
  pIf ((a.length:Int)==0)
   (z9o n a true)
   (z9o n a (decide ((a.length:Int)>40)))
def z9o:Nat->B8->Bool->Ot Bool
 |0,_,_=>none
 |n+1,a,b=>
  pIf b
   (some false)
   (z0h n a 0)
def z0h:Nat->B8->Nat->Ot Bool
 |0,_,_=>none
 |n+1,a,b=>
  pIf (decide (b<a.length))
   (pIf (decide (((zde a b).1:Int)>=97))
     (z78 n ((zde a b).1:Int) (b:Int) (decide (((zde a b).1:Int)<=122)) a (b+(zde a b).2))
     (z78 n ((zde a b).1:Int) (b:Int) false a (b+(zde a b).2)))
   (some true)
def z78:Nat->Int->Int->Bool->B8->Nat->Ot Bool
 |0,_,_,_,_,_=>none
 |n+1,a,b,c,d,e=>
  pIf (!c)
   (pIf (b==0)
     (kzv n true d e)
     (pIf (a != 45)
       (pIf (decide (a<48))
         (kzv n true d e)
         (kzv n (decide (a>57)) d e))
       (kzv n false d e)))
   (kzv n false d e)
def kzv:Nat->Bool->B8->Nat->Ot Bool
 |0,_,_,_=>none
 |n+1,a,b,c=>
  pIf a
   (some false)
   (z0h n b c)
end
def yk5:LSh:=⟨[(2,dB)],[],0,44,[]⟩
noncomputable def ztc:FI dat:=FI.of dat 148 44 0 [dS] [] [dB] [] true yk5 (R:=Bool) Prod.fst (·,()) (λn=>u1 (zbo n))
 (λn=>[(0,⟨⟨[(0,dS),(13,dB)],[],0,44,[]⟩,u2 (z9o n)⟩),(1,⟨⟨[(15,(.ptr 0 0))],[.siter],0,44,[]⟩,u2 (z0h n)⟩),(2,⟨⟨[(15,(.ptr 0 0)),(4,(.d (.int .i32))),(3,dI),(5,dB)],[.siter],0,44,[]⟩,u5 (z78 n)⟩),(3,⟨⟨[(15,(.ptr 0 0)),(43,dB)],[.siter],0,44,[]⟩,u3 (kzv n)⟩)]) (anb [(5,0),(14,1),(26,2),(28,3)] f148)
theorem y0r:FOk prog ztc:=okF (bs:=[]) trivial func148 ntmps148 call148
 (λ_ _=>tr (zbo.eq_2 ..))
 (λn=>⟨λ_=>tr (z9o.eq_2 ..),
  λ_=>tr (z0h.eq_2 ..),
  λ_=>tr (z78.eq_2 ..),
  λ_=>tr (kzv.eq_2 ..),
  trivial⟩)
mutual
def kz9:Nat->(List B8)->B8->Ot Int
 |0,_,_=>none
 |n+1,a,b=>
  zzc n 0 a b (a.length:Int)
def zzc:Nat->Int->(List B8)->B8->Int->Ot Int
 |0,_,_,_,_=>none
 |n+1,a,b,c,d=>
  pIf (decide (a<d))
   ((ix b a).bind λx0=>
   pIf (c==x0)
    (some a)
    (zzc n (IntKind.i64.wrap (a+1)) b c d))
   (some (-1))
end
def zkw:LSh:=⟨[(4,dI)],[],0,19,[]⟩
noncomputable def yzp:FI dat:=FI.of dat 35 19 0 [dA,dS] [] [dI] [] true zkw (R:=Int) Prod.fst (·,()) (λn=>u2 (kz9 n))
 (λn=>[(0,⟨⟨[(8,dI),(0,dA),(1,dS),(7,dI)],[],0,19,[]⟩,u4 (zzc n)⟩)]) (anb [(6,0)] f35)
theorem z26:FOk prog yzp:=okF (bs:=[]) trivial func35 ntmps35 call35
 (λ_ _=>tr (kz9.eq_2 ..))
 (λn=>⟨λ_=>tr (zzc.eq_2 ..),
  trivial⟩)
end Go.Proofs.YthphaiccgnkobaaGreatDoor
