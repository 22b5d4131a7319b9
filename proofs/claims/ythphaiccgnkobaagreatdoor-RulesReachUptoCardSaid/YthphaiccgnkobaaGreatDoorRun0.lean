/-
  THE GO STRUCTS AS LEAN STRUCTURES, by a program of this repo (types.py).
-/
import Derived.Test.YthphaiccgnkobaaGreatDoorLib2
import Derived.Test.YthphaiccgnkobaaGreatDoorLib4
import Derived.Test.YthphaiccgnkobaaGreatDoorLib7
import Derived.Test.YthphaiccgnkobaaGreatDoorLib8
import Derived.KernelRfl
import Derived.Shelf.Small.Strs
import Derived.Shelf.Strconv.AtoiAll
import Derived.Shelf.Strconv.Itoa4
import Derived.Shelf.Strings.Split
import Derived.Shelf.Strings.OnBuilder
import Derived.Shelf.Strings.Fields
import Derived.Shelf.Strings.Builder1
import Derived.Shelf.Strings.Search1
import Derived.Shelf.Strings.Search2
import Derived.Shelf.Slices.CompactS
import Derived.Shelf.Sort.Plain
import Derived.Shelf.Slices.In.SortNone
import Derived.Ground.NamesProg
import Derived.Test.YthphaiccgnkobaaGreatDoorProg
import Derived.RangeFuncBox
import Derived.RangeFuncLeaves
import Derived.RangeFuncFrom
import Derived.RangeFuncCalls
import Derived.Shelf.Abstract
import Derived.WalkKit
import Derived.OwnWalkIn
import Derived.TacticsInMore
import Derived.LoopNIn
import Derived.LoopIn
import Derived.Shelf.RegionOpen
import Derived.Test.YthphaiccgnkobaaGreatDoorLib9
namespace Go.Ab
open Go
set_option linter.unusedVariables false
set_option linter.unusedSimpArgs false
structure zz4 where
 num:Int
 den:Int
def zz4.el(x:zz4):V:=.agg [.int .i64 x.num,.int .i64 x.den]
def zz4.size(x:zz4):Nat:=1+1+1
def zz4.wf(x:zz4):Prop:=(IntKind.i64.min<=x.num∧x.num<=IntKind.i64.max)∧(IntKind.i64.min<=x.den∧x.den<=IntKind.i64.max)
theorem zz4.zzc(x:zz4):x.el = .agg [.int .i64 x.num,.int .i64 x.den]:=by rw[zz4.el]
theorem zz4.size_eq(x:zz4):x.size=1+1+1:=by rw[zz4.size]
theorem zz4.z2g(x:zz4):x.wf=((IntKind.i64.min<=x.num∧x.num<=IntKind.i64.max)∧(IntKind.i64.min<=x.den∧x.den<=IntKind.i64.max)):=by rw[zz4.wf]
theorem zz4.yzn(x:zz4):x.el.cells.length=2:=by rw[zz4.zzc];rfl
theorem zz4.zi6(x:zz4):x.el = .agg x.el.cells:=by rw[zz4.zzc];rfl
theorem zz4.kin{D:Nat->Nat->Prop}(x:zz4):V.kin D x.el:=by rw[zz4.zzc];simp only[V.kin,V.zbc,and_true,true_and]
def zz4.ty:Ty zz4:=⟨zz4.el,2,zz4.size,zz4.wf,zz4.yzn⟩
structure yz0 where
 kind:Int
 num:zz4
 truth:Bool
 str:B8
 list:List yz0
theorem yz0.y3c{x y:yz0}(h:y∈x.list):SizeOf.sizeOf y<SizeOf.sizeOf x:=by cases x;have:=List.sizeOf_lt_of_mem h;simp at this ⊢;omega
def yz0.el(x:yz0):V:=.agg [.int .u8 x.kind,.int .i64 x.num.num,.int .i64 x.num.den,.bool x.truth,.str x.str,.sl 6 (x.list.map yz0.el) false]
 termination_by x
 decreasing_by all_goals first|exact yz0.y3c ‹_›
def yz0.size(x:yz0):Nat:=1+x.num.size+1+(x.str.length+1)+((x.list.map yz0.size).sum+1)+1
 termination_by x
 decreasing_by all_goals first|exact yz0.y3c ‹_›
def yz0.wf(x:yz0):Prop:=(IntKind.u8.min<=x.kind∧x.kind<=IntKind.u8.max)∧x.num.wf∧True∧True∧(∀y∈x.list,y.wf)
 termination_by x
 decreasing_by all_goals first|exact yz0.y3c ‹_›
theorem yz0.zzc(x:yz0):x.el = .agg [.int .u8 x.kind,.int .i64 x.num.num,.int .i64 x.num.den,.bool x.truth,.str x.str,.sl 6 (x.list.map yz0.el) false]:=by rw[yz0.el]
theorem yz0.size_eq(x:yz0):x.size=1+x.num.size+1+(x.str.length+1)+((x.list.map yz0.size).sum+1)+1:=by rw[yz0.size]
theorem yz0.z2g(x:yz0):x.wf=((IntKind.u8.min<=x.kind∧x.kind<=IntKind.u8.max)∧x.num.wf∧True∧True∧(∀y∈x.list,y.wf)):=by rw[yz0.wf]
theorem yz0.yzn(x:yz0):x.el.cells.length=6:=by rw[yz0.zzc];rfl
theorem yz0.zi6(x:yz0):x.el = .agg x.el.cells:=by rw[yz0.zzc];rfl
theorem yz0.kin{D:Nat->Nat->Prop}(x:yz0):V.kin D x.el:=by rw[yz0.zzc];simp only[V.kin,V.zbc,and_true,true_and];exact z6u λy hy=>yz0.kin y
 termination_by x
 decreasing_by all_goals first|exact yz0.y3c ‹_›
def yz0.ty:Ty yz0:=⟨yz0.el,6,yz0.size,yz0.wf,yz0.yzn⟩
structure yz1 where
 op:Int
 value:yz0
 name:B8
 args:List yz1
theorem yz1.y1q{x y:yz1}(h:y∈x.args):SizeOf.sizeOf y<SizeOf.sizeOf x:=by cases x;have:=List.sizeOf_lt_of_mem h;simp at this ⊢;omega
def yz1.el(x:yz1):V:=.agg [.int .u8 x.op,.int .u8 x.value.kind,.int .i64 x.value.num.num,.int .i64 x.value.num.den,.bool x.value.truth,.str x.value.str,.sl 6 (x.value.list.map yz0.el) false,.str x.name,.sl 9 (x.args.map yz1.el) false]
 termination_by x
 decreasing_by all_goals first|exact yz1.y1q ‹_›
def yz1.size(x:yz1):Nat:=1+x.value.size+(x.name.length+1)+((x.args.map yz1.size).sum+1)+1
 termination_by x
 decreasing_by all_goals first|exact yz1.y1q ‹_›
def yz1.wf(x:yz1):Prop:=(IntKind.u8.min<=x.op∧x.op<=IntKind.u8.max)∧x.value.wf∧True∧(∀y∈x.args,y.wf)
 termination_by x
 decreasing_by all_goals first|exact yz1.y1q ‹_›
theorem yz1.zzc(x:yz1):x.el = .agg [.int .u8 x.op,.int .u8 x.value.kind,.int .i64 x.value.num.num,.int .i64 x.value.num.den,.bool x.value.truth,.str x.value.str,.sl 6 (x.value.list.map yz0.el) false,.str x.name,.sl 9 (x.args.map yz1.el) false]:=by rw[yz1.el]
theorem yz1.size_eq(x:yz1):x.size=1+x.value.size+(x.name.length+1)+((x.args.map yz1.size).sum+1)+1:=by rw[yz1.size]
theorem yz1.z2g(x:yz1):x.wf=((IntKind.u8.min<=x.op∧x.op<=IntKind.u8.max)∧x.value.wf∧True∧(∀y∈x.args,y.wf)):=by rw[yz1.wf]
theorem yz1.yzn(x:yz1):x.el.cells.length=9:=by rw[yz1.zzc];rfl
theorem yz1.zi6(x:yz1):x.el = .agg x.el.cells:=by rw[yz1.zzc];rfl
theorem yz1.kin{D:Nat->Nat->Prop}(x:yz1):V.kin D x.el:=by rw[yz1.zzc];simp only[V.kin,V.zbc,and_true,true_and];exact⟨z6u λy hy=>yz0.kin y,z6u λy hy=>yz1.kin y⟩
 termination_by x
 decreasing_by all_goals first|exact yz1.y1q ‹_›
def yz1.ty:Ty yz1:=⟨yz1.el,9,yz1.size,yz1.wf,yz1.yzn⟩
structure kzi where
 name:B8
 value:yz1
def kzi.el(x:kzi):V:=.agg [.str x.name,.int .u8 x.value.op,.int .u8 x.value.value.kind,.int .i64 x.value.value.num.num,.int .i64 x.value.value.num.den,.bool x.value.value.truth,.str x.value.value.str,.sl 6 (x.value.value.list.map yz0.el) false,.str x.value.name,.sl 9 (x.value.args.map yz1.el) false]
def kzi.size(x:kzi):Nat:=(x.name.length+1)+x.value.size+1
def kzi.wf(x:kzi):Prop:=True∧x.value.wf
theorem kzi.zzc(x:kzi):x.el = .agg [.str x.name,.int .u8 x.value.op,.int .u8 x.value.value.kind,.int .i64 x.value.value.num.num,.int .i64 x.value.value.num.den,.bool x.value.value.truth,.str x.value.value.str,.sl 6 (x.value.value.list.map yz0.el) false,.str x.value.name,.sl 9 (x.value.args.map yz1.el) false]:=by rw[kzi.el]
theorem kzi.size_eq(x:kzi):x.size=(x.name.length+1)+x.value.size+1:=by rw[kzi.size]
theorem kzi.z2g(x:kzi):x.wf=(True∧x.value.wf):=by rw[kzi.wf]
theorem kzi.yzn(x:kzi):x.el.cells.length=10:=by rw[kzi.zzc];rfl
theorem kzi.zi6(x:kzi):x.el = .agg x.el.cells:=by rw[kzi.zzc];rfl
theorem kzi.kin{D:Nat->Nat->Prop}(x:kzi):V.kin D x.el:=by rw[kzi.zzc];simp only[V.kin,V.zbc,and_true,true_and];exact⟨z6u λy hy=>yz0.kin y,z6u λy hy=>yz1.kin y⟩
def kzi.ty:Ty kzi:=⟨kzi.el,10,kzi.size,kzi.wf,kzi.yzn⟩
structure yzl where
 kind:Int
 name:B8
 args:List yz1
def yzl.el(x:yzl):V:=.agg [.int .u8 x.kind,.str x.name,.sl 9 (x.args.map yz1.el) false]
def yzl.size(x:yzl):Nat:=1+(x.name.length+1)+((x.args.map yz1.size).sum+1)+1
def yzl.wf(x:yzl):Prop:=(IntKind.u8.min<=x.kind∧x.kind<=IntKind.u8.max)∧True∧(∀y∈x.args,y.wf)
theorem yzl.zzc(x:yzl):x.el = .agg [.int .u8 x.kind,.str x.name,.sl 9 (x.args.map yz1.el) false]:=by rw[yzl.el]
theorem yzl.size_eq(x:yzl):x.size=1+(x.name.length+1)+((x.args.map yz1.size).sum+1)+1:=by rw[yzl.size]
theorem yzl.z2g(x:yzl):x.wf=((IntKind.u8.min<=x.kind∧x.kind<=IntKind.u8.max)∧True∧(∀y∈x.args,y.wf)):=by rw[yzl.wf]
theorem yzl.yzn(x:yzl):x.el.cells.length=3:=by rw[yzl.zzc];rfl
theorem yzl.zi6(x:yzl):x.el = .agg x.el.cells:=by rw[yzl.zzc];rfl
theorem yzl.kin{D:Nat->Nat->Prop}(x:yzl):V.kin D x.el:=by rw[yzl.zzc];simp only[V.kin,V.zbc,and_true,true_and];exact z6u λy hy=>yz1.kin y
def yzl.ty:Ty yzl:=⟨yzl.el,3,yzl.size,yzl.wf,yzl.yzn⟩
structure kz3 where
 kind:Int
 axis:Int
 name:B8
 args:List yz1
 items:List yzl
def kz3.el(x:kz3):V:=.agg [.int .u8 x.kind,.int .u8 x.axis,.str x.name,.sl 9 (x.args.map yz1.el) false,.sl 3 (x.items.map yzl.el) false]
def kz3.size(x:kz3):Nat:=1+1+(x.name.length+1)+((x.args.map yz1.size).sum+1)+((x.items.map yzl.size).sum+1)+1
def kz3.wf(x:kz3):Prop:=(IntKind.u8.min<=x.kind∧x.kind<=IntKind.u8.max)∧(IntKind.u8.min<=x.axis∧x.axis<=IntKind.u8.max)∧True∧(∀y∈x.args,y.wf)∧(∀y∈x.items,y.wf)
theorem kz3.zzc(x:kz3):x.el = .agg [.int .u8 x.kind,.int .u8 x.axis,.str x.name,.sl 9 (x.args.map yz1.el) false,.sl 3 (x.items.map yzl.el) false]:=by rw[kz3.el]
theorem kz3.size_eq(x:kz3):x.size=1+1+(x.name.length+1)+((x.args.map yz1.size).sum+1)+((x.items.map yzl.size).sum+1)+1:=by rw[kz3.size]
theorem kz3.z2g(x:kz3):x.wf=((IntKind.u8.min<=x.kind∧x.kind<=IntKind.u8.max)∧(IntKind.u8.min<=x.axis∧x.axis<=IntKind.u8.max)∧True∧(∀y∈x.args,y.wf)∧(∀y∈x.items,y.wf)):=by rw[kz3.wf]
theorem kz3.yzn(x:kz3):x.el.cells.length=5:=by rw[kz3.zzc];rfl
theorem kz3.zi6(x:kz3):x.el = .agg x.el.cells:=by rw[kz3.zzc];rfl
theorem kz3.kin{D:Nat->Nat->Prop}(x:kz3):V.kin D x.el:=by rw[kz3.zzc];simp only[V.kin,V.zbc,and_true,true_and];exact⟨z6u λy hy=>yz1.kin y,z6u λy hy=>yzl.kin y⟩
def kz3.ty:Ty kz3:=⟨kz3.el,5,kz3.size,kz3.wf,kz3.yzn⟩
structure kz5 where
 weight:Int
 when_:yz1
 do_:List kz3
def kz5.el(x:kz5):V:=.agg [.int .i64 x.weight,.int .u8 x.when_.op,.int .u8 x.when_.value.kind,.int .i64 x.when_.value.num.num,.int .i64 x.when_.value.num.den,.bool x.when_.value.truth,.str x.when_.value.str,.sl 6 (x.when_.value.list.map yz0.el) false,.str x.when_.name,.sl 9 (x.when_.args.map yz1.el) false,.sl 5 (x.do_.map kz3.el) false]
def kz5.size(x:kz5):Nat:=1+x.when_.size+((x.do_.map kz3.size).sum+1)+1
def kz5.wf(x:kz5):Prop:=(IntKind.i64.min<=x.weight∧x.weight<=IntKind.i64.max)∧x.when_.wf∧(∀y∈x.do_,y.wf)
theorem kz5.zzc(x:kz5):x.el = .agg [.int .i64 x.weight,.int .u8 x.when_.op,.int .u8 x.when_.value.kind,.int .i64 x.when_.value.num.num,.int .i64 x.when_.value.num.den,.bool x.when_.value.truth,.str x.when_.value.str,.sl 6 (x.when_.value.list.map yz0.el) false,.str x.when_.name,.sl 9 (x.when_.args.map yz1.el) false,.sl 5 (x.do_.map kz3.el) false]:=by rw[kz5.el]
theorem kz5.size_eq(x:kz5):x.size=1+x.when_.size+((x.do_.map kz3.size).sum+1)+1:=by rw[kz5.size]
theorem kz5.z2g(x:kz5):x.wf=((IntKind.i64.min<=x.weight∧x.weight<=IntKind.i64.max)∧x.when_.wf∧(∀y∈x.do_,y.wf)):=by rw[kz5.wf]
theorem kz5.yzn(x:kz5):x.el.cells.length=11:=by rw[kz5.zzc];rfl
theorem kz5.zi6(x:kz5):x.el = .agg x.el.cells:=by rw[kz5.zzc];rfl
theorem kz5.kin{D:Nat->Nat->Prop}(x:kz5):V.kin D x.el:=by rw[kz5.zzc];simp only[V.kin,V.zbc,and_true,true_and];exact⟨z6u λy hy=>yz0.kin y,z6u λy hy=>yz1.kin y,z6u λy hy=>kz3.kin y⟩
def kz5.ty:Ty kz5:=⟨kz5.el,11,kz5.size,kz5.wf,kz5.yzn⟩
structure zz6 where
 name:B8
 params:List B8
 cases:List kz5
def zz6.el(x:zz6):V:=.agg [.str x.name,.sl 1 (x.params.map V.str) false,.sl 11 (x.cases.map kz5.el) false]
def zz6.size(x:zz6):Nat:=(x.name.length+1)+((x.params.map (λs=>s.length+1)).sum+1)+((x.cases.map kz5.size).sum+1)+1
def zz6.wf(x:zz6):Prop:=True∧(∀y∈x.params,True)∧(∀y∈x.cases,y.wf)
theorem zz6.zzc(x:zz6):x.el = .agg [.str x.name,.sl 1 (x.params.map V.str) false,.sl 11 (x.cases.map kz5.el) false]:=by rw[zz6.el]
theorem zz6.size_eq(x:zz6):x.size=(x.name.length+1)+((x.params.map (λs=>s.length+1)).sum+1)+((x.cases.map kz5.size).sum+1)+1:=by rw[zz6.size]
theorem zz6.z2g(x:zz6):x.wf=(True∧(∀y∈x.params,True)∧(∀y∈x.cases,y.wf)):=by rw[zz6.wf]
theorem zz6.yzn(x:zz6):x.el.cells.length=3:=by rw[zz6.zzc];rfl
theorem zz6.zi6(x:zz6):x.el = .agg x.el.cells:=by rw[zz6.zzc];rfl
theorem zz6.kin{D:Nat->Nat->Prop}(x:zz6):V.kin D x.el:=by rw[zz6.zzc];simp only[V.kin,V.zbc,and_true,true_and];exact⟨z6u λ_ _=>by simp[V.kin],z6u λy hy=>kz5.kin y⟩
def zz6.ty:Ty zz6:=⟨zz6.el,3,zz6.size,zz6.wf,zz6.yzn⟩
structure kz0 where
 attrs:List kzi
 rules:List zz6
def kz0.el(x:kz0):V:=.agg [.sl 10 (x.attrs.map kzi.el) false,.sl 3 (x.rules.map zz6.el) false]
def kz0.size(x:kz0):Nat:=((x.attrs.map kzi.size).sum+1)+((x.rules.map zz6.size).sum+1)+1
def kz0.wf(x:kz0):Prop:=(∀y∈x.attrs,y.wf)∧(∀y∈x.rules,y.wf)
theorem kz0.zzc(x:kz0):x.el = .agg [.sl 10 (x.attrs.map kzi.el) false,.sl 3 (x.rules.map zz6.el) false]:=by rw[kz0.el]
theorem kz0.size_eq(x:kz0):x.size=((x.attrs.map kzi.size).sum+1)+((x.rules.map zz6.size).sum+1)+1:=by rw[kz0.size]
theorem kz0.z2g(x:kz0):x.wf=((∀y∈x.attrs,y.wf)∧(∀y∈x.rules,y.wf)):=by rw[kz0.wf]
theorem kz0.yzn(x:kz0):x.el.cells.length=2:=by rw[kz0.zzc];rfl
theorem kz0.zi6(x:kz0):x.el = .agg x.el.cells:=by rw[kz0.zzc];rfl
theorem kz0.kin{D:Nat->Nat->Prop}(x:kz0):V.kin D x.el:=by rw[kz0.zzc];simp only[V.kin,V.zbc,and_true,true_and];exact⟨z6u λy hy=>kzi.kin y,z6u λy hy=>zz6.kin y⟩
def kz0.ty:Ty kz0:=⟨kz0.el,2,kz0.size,kz0.wf,kz0.yzn⟩
structure kzs where
 name:B8
 many:Int
def kzs.el(x:kzs):V:=.agg [.str x.name,.int .i64 x.many]
def kzs.size(x:kzs):Nat:=(x.name.length+1)+1+1
def kzs.wf(x:kzs):Prop:=True∧(IntKind.i64.min<=x.many∧x.many<=IntKind.i64.max)
theorem kzs.zzc(x:kzs):x.el = .agg [.str x.name,.int .i64 x.many]:=by rw[kzs.el]
theorem kzs.size_eq(x:kzs):x.size=(x.name.length+1)+1+1:=by rw[kzs.size]
theorem kzs.z2g(x:kzs):x.wf=(True∧(IntKind.i64.min<=x.many∧x.many<=IntKind.i64.max)):=by rw[kzs.wf]
theorem kzs.yzn(x:kzs):x.el.cells.length=2:=by rw[kzs.zzc];rfl
theorem kzs.zi6(x:kzs):x.el = .agg x.el.cells:=by rw[kzs.zzc];rfl
theorem kzs.kin{D:Nat->Nat->Prop}(x:kzs):V.kin D x.el:=by rw[kzs.zzc];simp only[V.kin,V.zbc,and_true,true_and]
def kzs.ty:Ty kzs:=⟨kzs.el,2,kzs.size,kzs.wf,kzs.yzn⟩
structure kzc where
 p:kz0
 ok:Bool
def kzc.el(x:kzc):V:=.agg [.sl 10 (x.p.attrs.map kzi.el) false,.sl 3 (x.p.rules.map zz6.el) false,.bool x.ok]
def kzc.size(x:kzc):Nat:=x.p.size+1+1
def kzc.wf(x:kzc):Prop:=x.p.wf∧True
theorem kzc.zzc(x:kzc):x.el = .agg [.sl 10 (x.p.attrs.map kzi.el) false,.sl 3 (x.p.rules.map zz6.el) false,.bool x.ok]:=by rw[kzc.el]
theorem kzc.size_eq(x:kzc):x.size=x.p.size+1+1:=by rw[kzc.size]
theorem kzc.z2g(x:kzc):x.wf=(x.p.wf∧True):=by rw[kzc.wf]
theorem kzc.yzn(x:kzc):x.el.cells.length=3:=by rw[kzc.zzc];rfl
theorem kzc.zi6(x:kzc):x.el = .agg x.el.cells:=by rw[kzc.zzc];rfl
theorem kzc.kin{D:Nat->Nat->Prop}(x:kzc):V.kin D x.el:=by rw[kzc.zzc];simp only[V.kin,V.zbc,and_true,true_and];exact⟨z6u λy hy=>kzi.kin y,z6u λy hy=>zz6.kin y⟩
def kzc.ty:Ty kzc:=⟨kzc.el,3,kzc.size,kzc.wf,kzc.yzn⟩
structure z2f where
 name:B8
 many:Int
def z2f.el(x:z2f):V:=.agg [.str x.name,.int .i64 x.many]
def z2f.size(x:z2f):Nat:=(x.name.length+1)+1+1
def z2f.wf(x:z2f):Prop:=True∧(IntKind.i64.min<=x.many∧x.many<=IntKind.i64.max)
theorem z2f.zzc(x:z2f):x.el = .agg [.str x.name,.int .i64 x.many]:=by rw[z2f.el]
theorem z2f.size_eq(x:z2f):x.size=(x.name.length+1)+1+1:=by rw[z2f.size]
theorem z2f.z2g(x:z2f):x.wf=(True∧(IntKind.i64.min<=x.many∧x.many<=IntKind.i64.max)):=by rw[z2f.wf]
theorem z2f.yzn(x:z2f):x.el.cells.length=2:=by rw[z2f.zzc];rfl
theorem z2f.zi6(x:z2f):x.el = .agg x.el.cells:=by rw[z2f.zzc];rfl
theorem z2f.kin{D:Nat->Nat->Prop}(x:z2f):V.kin D x.el:=by rw[z2f.zzc];simp only[V.kin,V.zbc,and_true,true_and]
def z2f.ty:Ty z2f:=⟨z2f.el,2,z2f.size,z2f.wf,z2f.yzn⟩
structure kz2 where
 s:B8
def kz2.el(x:kz2):V:=.agg [.str x.s]
def kz2.size(x:kz2):Nat:=(x.s.length+1)+1
def kz2.wf(x:kz2):Prop:=True
theorem kz2.zzc(x:kz2):x.el = .agg [.str x.s]:=by rw[kz2.el]
theorem kz2.size_eq(x:kz2):x.size=(x.s.length+1)+1:=by rw[kz2.size]
theorem kz2.z2g(x:kz2):x.wf=(True):=by rw[kz2.wf]
theorem kz2.yzn(x:kz2):x.el.cells.length=1:=by rw[kz2.zzc];rfl
theorem kz2.zi6(x:kz2):x.el = .agg x.el.cells:=by rw[kz2.zzc];rfl
theorem kz2.kin{D:Nat->Nat->Prop}(x:kz2):V.kin D x.el:=by rw[kz2.zzc];simp only[V.kin,V.zbc,and_true,true_and]
def kz2.ty:Ty kz2:=⟨kz2.el,1,kz2.size,kz2.wf,kz2.yzn⟩
structure zz3 where
 s:B8
 at_:Int
 ok:Bool
def zz3.el(x:zz3):V:=.agg [.str x.s,.int .i64 x.at_,.bool x.ok]
def zz3.size(x:zz3):Nat:=(x.s.length+1)+1+1+1
def zz3.wf(x:zz3):Prop:=True∧(IntKind.i64.min<=x.at_∧x.at_<=IntKind.i64.max)∧True
theorem zz3.zzc(x:zz3):x.el = .agg [.str x.s,.int .i64 x.at_,.bool x.ok]:=by rw[zz3.el]
theorem zz3.size_eq(x:zz3):x.size=(x.s.length+1)+1+1+1:=by rw[zz3.size]
theorem zz3.z2g(x:zz3):x.wf=(True∧(IntKind.i64.min<=x.at_∧x.at_<=IntKind.i64.max)∧True):=by rw[zz3.wf]
theorem zz3.yzn(x:zz3):x.el.cells.length=3:=by rw[zz3.zzc];rfl
theorem zz3.zi6(x:zz3):x.el = .agg x.el.cells:=by rw[zz3.zzc];rfl
theorem zz3.kin{D:Nat->Nat->Prop}(x:zz3):V.kin D x.el:=by rw[zz3.zzc];simp only[V.kin,V.zbc,and_true,true_and]
def zz3.ty:Ty zz3:=⟨zz3.el,3,zz3.size,zz3.wf,zz3.yzn⟩
abbrev GRatio_l:=List zz4
abbrev z1h:=List yz0
abbrev zz8:=List yz1
abbrev z55:=List kzi
abbrev zwe:=List yzl
abbrev zd2:=List kz3
abbrev z6n:=List kz5
abbrev zzm:=List zz6
abbrev z01a:=List kz0
abbrev z7c:=List kzs
abbrev z00s:=List kzc
abbrev zc6:=List z2f
abbrev yya:=List kz2
abbrev yyf:=List zz3
structure zf4 where
 e0:B8
 e1:B8
 e2:B8
 e3:B8
 e4:B8
 e5:B8
 e6:B8
 e7:B8
def zf4.el(x:zf4):V:=.agg [.str x.e0,.str x.e1,.str x.e2,.str x.e3,.str x.e4,.str x.e5,.str x.e6,.str x.e7]
theorem zf4.zzc(x:zf4):x.el = .agg [.str x.e0,.str x.e1,.str x.e2,.str x.e3,.str x.e4,.str x.e5,.str x.e6,.str x.e7]:=rfl
theorem zf4.kin{Dm:Nat->Nat->Prop}(x:zf4):V.kin Dm x.el:=by simp[zf4.el,V.kin,V.zbc]
structure zen where
 e0:B8
 e1:B8
 e2:B8
 e3:B8
 e4:B8
 e5:B8
 e6:B8
def zen.el(x:zen):V:=.agg [.str x.e0,.str x.e1,.str x.e2,.str x.e3,.str x.e4,.str x.e5,.str x.e6]
theorem zen.zzc(x:zen):x.el = .agg [.str x.e0,.str x.e1,.str x.e2,.str x.e3,.str x.e4,.str x.e5,.str x.e6]:=rfl
theorem zen.kin{Dm:Nat->Nat->Prop}(x:zen):V.kin Dm x.el:=by simp[zen.el,V.kin,V.zbc]
structure zet where
 e0:B8
 e1:B8
 e2:B8
 e3:B8
def zet.el(x:zet):V:=.agg [.str x.e0,.str x.e1,.str x.e2,.str x.e3]
theorem zet.zzc(x:zet):x.el = .agg [.str x.e0,.str x.e1,.str x.e2,.str x.e3]:=rfl
theorem zet.kin{Dm:Nat->Nat->Prop}(x:zet):V.kin Dm x.el:=by simp[zet.el,V.kin,V.zbc]
def yz0.re(x:yz0):yz0:=⟨x.kind,x.num,x.truth,x.str,x.list⟩
@[simp] theorem yz0.yz4 (x:yz0):x.re=x:=by cases x;simp[yz0.re]
def yz1.re(x:yz1):yz1:=⟨x.op,x.value.re,x.name,x.args⟩
@[simp] theorem yz1.yz4 (x:yz1):x.re=x:=by cases x;simp[yz1.re]
def kzi.re(x:kzi):kzi:=⟨x.name,x.value.re⟩
@[simp] theorem kzi.yz4 (x:kzi):x.re=x:=by cases x;simp[kzi.re]
def kz5.re(x:kz5):kz5:=⟨x.weight,x.when_.re,x.do_⟩
@[simp] theorem kz5.yz4 (x:kz5):x.re=x:=by cases x;simp[kz5.re]
def datT:Nat->Type
 |0=>zf4
 |1=>zen
 |2=>zet
 |3=>zz4
 |4=>yz0
 |5=>yz1
 |6=>kzi
 |7=>yzl
 |8=>kz3
 |9=>kz5
 |10=>zz6
 |11=>kz0
 |12=>kzs
 |13=>kzc
 |14=>z2f
 |15=>kz2
 |16=>zz3
 |_=>Unit
def zid:Nat->List DTy
 |0=>[.str,.str,.str,.str,.str,.str,.str,.str]
 |1=>[.str,.str,.str,.str,.str,.str,.str]
 |2=>[.str,.str,.str,.str]
 |3=>[.int .i64,.int .i64]
 |4=>[.int .u8,.int .i64,.int .i64,.bool,.str,.sl (.st 4)]
 |5=>[.int .u8,.int .u8,.int .i64,.int .i64,.bool,.str,.sl (.st 4),.str,.sl (.st 5)]
 |6=>[.str,.int .u8,.int .u8,.int .i64,.int .i64,.bool,.str,.sl (.st 4),.str,.sl (.st 5)]
 |7=>[.int .u8,.str,.sl (.st 5)]
 |8=>[.int .u8,.int .u8,.str,.sl (.st 5),.sl (.st 7)]
 |9=>[.int .i64,.int .u8,.int .u8,.int .i64,.int .i64,.bool,.str,.sl (.st 4),.str,.sl (.st 5),.sl (.st 8)]
 |10=>[.str,.sl .str,.sl (.st 9)]
 |11=>[.sl (.st 6),.sl (.st 10)]
 |12=>[.str,.int .i64]
 |13=>[.sl (.st 6),.sl (.st 10),.bool]
 |14=>[.str,.int .i64]
 |15=>[.str]
 |16=>[.str,.int .i64,.bool]
 |_=>[]
def yx8:List (Nat×DTy):=[(2,.int .i64),(3,.int .i64),(4,.bool),(5,.int .u8),(6,.int .u8),(9,.str),(10,.str),(11,.str),(12,.int .u64),(21,.int .i32),(23,.st 3),(24,.sl (.st 4)),(26,.st 4),(27,.sl (.st 5)),(29,.st 5),(31,.int .i64),(33,.sl (.st 6)),(34,.sl (.st 10)),(36,.st 11),(38,.sl (.st 7)),(40,.st 8),(43,.st 7),(44,.sl .str),(45,.sl (.st 9)),(47,.st 10),(49,.st 6),(55,.sl (.st 8)),(57,.st 9),(83,.sl (.st 12)),(86,.st 12),(91,.st 13),(103,.sl (.st 14)),(106,.st 14),(109,.sl (.int .u8)),(152,.int .u64),(196,.int .i64),(203,.int .u32),(205,.int .u64),(217,.st 0),(218,.st 1),(219,.st 2),(230,.int .i64),(236,.int .u64),(270,.st 15),(295,.int .u16),(335,.st 16),(344,.int .u8),(345,.int .u8),(347,.int .i32),(348,.int .i32)]
def datOw:Nat->Nat->Option Nat
 |10,2=>some 57
 |9,10=>some 40
 |8,4=>some 43
 |_,_=>none
def dat:Dat where
 T:=datT
 fl:=zid
 get:=λi=>match i with
  |0=>λ(x:zf4)=>(x.e0,x.e1,x.e2,x.e3,x.e4,x.e5,x.e6,x.e7,())
  |1=>λ(x:zen)=>(x.e0,x.e1,x.e2,x.e3,x.e4,x.e5,x.e6,())
  |2=>λ(x:zet)=>(x.e0,x.e1,x.e2,x.e3,())
  |3=>λ(x:zz4)=>(x.num,x.den,())
  |4=>λ(x:yz0)=>(x.kind,x.num.num,x.num.den,x.truth,x.str,x.list,())
  |5=>λ(x:yz1)=>(x.op,x.value.kind,x.value.num.num,x.value.num.den,x.value.truth,x.value.str,x.value.list,x.name,x.args,())
  |6=>λ(x:kzi)=>(x.name,x.value.op,x.value.value.kind,x.value.value.num.num,x.value.value.num.den,x.value.value.truth,x.value.value.str,x.value.value.list,x.value.name,x.value.args,())
  |7=>λ(x:yzl)=>(x.kind,x.name,x.args,())
  |8=>λ(x:kz3)=>(x.kind,x.axis,x.name,x.args,x.items,())
  |9=>λ(x:kz5)=>(x.weight,x.when_.op,x.when_.value.kind,x.when_.value.num.num,x.when_.value.num.den,x.when_.value.truth,x.when_.value.str,x.when_.value.list,x.when_.name,x.when_.args,x.do_,())
  |10=>λ(x:zz6)=>(x.name,x.params,x.cases,())
  |11=>λ(x:kz0)=>(x.attrs,x.rules,())
  |12=>λ(x:kzs)=>(x.name,x.many,())
  |13=>λ(x:kzc)=>(x.p.attrs,x.p.rules,x.ok,())
  |14=>λ(x:z2f)=>(x.name,x.many,())
  |15=>λ(x:kz2)=>(x.s,())
  |16=>λ(x:zz3)=>(x.s,x.at_,x.ok,())
  |_+17=>λ_=>()
 make:=λi=>match i with
  |0=>λx=>zf4.mk x.1 x.2.1 x.2.2.1 x.2.2.2.1 x.2.2.2.2.1 x.2.2.2.2.2.1 x.2.2.2.2.2.2.1 x.2.2.2.2.2.2.2.1
  |1=>λx=>zen.mk x.1 x.2.1 x.2.2.1 x.2.2.2.1 x.2.2.2.2.1 x.2.2.2.2.2.1 x.2.2.2.2.2.2.1
  |2=>λx=>zet.mk x.1 x.2.1 x.2.2.1 x.2.2.2.1
  |3=>λx=>zz4.mk x.1 x.2.1
  |4=>λx=>yz0.mk x.1 (zz4.mk x.2.1 x.2.2.1) x.2.2.2.1 x.2.2.2.2.1 x.2.2.2.2.2.1
  |5=>λx=>yz1.mk x.1 (yz0.mk x.2.1 (zz4.mk x.2.2.1 x.2.2.2.1) x.2.2.2.2.1 x.2.2.2.2.2.1 x.2.2.2.2.2.2.1) x.2.2.2.2.2.2.2.1 x.2.2.2.2.2.2.2.2.1
  |6=>λx=>kzi.mk x.1 (yz1.mk x.2.1 (yz0.mk x.2.2.1 (zz4.mk x.2.2.2.1 x.2.2.2.2.1) x.2.2.2.2.2.1 x.2.2.2.2.2.2.1 x.2.2.2.2.2.2.2.1) x.2.2.2.2.2.2.2.2.1 x.2.2.2.2.2.2.2.2.2.1)
  |7=>λx=>yzl.mk x.1 x.2.1 x.2.2.1
  |8=>λx=>kz3.mk x.1 x.2.1 x.2.2.1 x.2.2.2.1 x.2.2.2.2.1
  |9=>λx=>kz5.mk x.1 (yz1.mk x.2.1 (yz0.mk x.2.2.1 (zz4.mk x.2.2.2.1 x.2.2.2.2.1) x.2.2.2.2.2.1 x.2.2.2.2.2.2.1 x.2.2.2.2.2.2.2.1) x.2.2.2.2.2.2.2.2.1 x.2.2.2.2.2.2.2.2.2.1) x.2.2.2.2.2.2.2.2.2.2.1
  |10=>λx=>zz6.mk x.1 x.2.1 x.2.2.1
  |11=>λx=>kz0.mk x.1 x.2.1
  |12=>λx=>kzs.mk x.1 x.2.1
  |13=>λx=>kzc.mk (kz0.mk x.1 x.2.1) x.2.2.1
  |14=>λx=>z2f.mk x.1 x.2.1
  |15=>λx=>kz2.mk x.1
  |16=>λx=>zz3.mk x.1 x.2.1 x.2.2.1
  |_+17=>λ_=>()
 enc:=λi=>match i with
  |0=>zf4.el
  |1=>zen.el
  |2=>zet.el
  |3=>zz4.el
  |4=>yz0.el
  |5=>yz1.el
  |6=>kzi.el
  |7=>yzl.el
  |8=>kz3.el
  |9=>kz5.el
  |10=>zz6.el
  |11=>kz0.el
  |12=>kzs.el
  |13=>kzc.el
  |14=>z2f.el
  |15=>kz2.el
  |16=>zz3.el
  |_+17=>λ_=>.agg []
 ty:=fnd yx8
 ow:=datOw
theorem kza(P:Program):dat.Ok P where
 enc:=λi=>match i with
  |0=>λx=>zf4.zzc x
  |1=>λx=>zen.zzc x
  |2=>λx=>zet.zzc x
  |3=>λx=>zz4.zzc x
  |4=>λx=>yz0.zzc x
  |5=>λx=>yz1.zzc x
  |6=>λx=>kzi.zzc x
  |7=>λx=>yzl.zzc x
  |8=>λx=>kz3.zzc x
  |9=>λx=>kz5.zzc x
  |10=>λx=>zz6.zzc x
  |11=>λx=>kz0.zzc x
  |12=>λx=>kzs.zzc x
  |13=>λx=>kzc.zzc x
  |14=>λx=>z2f.zzc x
  |15=>λx=>kz2.zzc x
  |16=>λx=>zz3.zzc x
  |_+17=>λ_=>rfl
 getMake:=λi=>match i with
  |0=>λx=>rfl
  |1=>λx=>rfl
  |2=>λx=>rfl
  |3=>λx=>rfl
  |4=>λx=>rfl
  |5=>λx=>rfl
  |6=>λx=>rfl
  |7=>λx=>rfl
  |8=>λx=>rfl
  |9=>λx=>rfl
  |10=>λx=>rfl
  |11=>λx=>rfl
  |12=>λx=>rfl
  |13=>λx=>rfl
  |14=>λx=>rfl
  |15=>λx=>rfl
  |16=>λx=>rfl
  |_+17=>λ_=>rfl
 flat:=λi=>match i with
  |0=>λt h=>by simp only[dat,zid,Qbi,List.not_mem_nil,or_false]at h;rcases h with rfl|rfl|rfl|rfl|rfl|rfl|rfl|rfl <;> trivial
  |1=>λt h=>by simp only[dat,zid,Qbi,List.not_mem_nil,or_false]at h;rcases h with rfl|rfl|rfl|rfl|rfl|rfl|rfl <;> trivial
  |2=>λt h=>by simp only[dat,zid,Qbi,List.not_mem_nil,or_false]at h;rcases h with rfl|rfl|rfl|rfl <;> trivial
  |3=>λt h=>by simp only[dat,zid,Qbi,List.not_mem_nil,or_false]at h;rcases h with rfl|rfl <;> trivial
  |4=>λt h=>by simp only[dat,zid,Qbi,List.not_mem_nil,or_false]at h;rcases h with rfl|rfl|rfl|rfl|rfl|rfl <;> trivial
  |5=>λt h=>by simp only[dat,zid,Qbi,List.not_mem_nil,or_false]at h;rcases h with rfl|rfl|rfl|rfl|rfl|rfl|rfl|rfl|rfl <;> trivial
  |6=>λt h=>by simp only[dat,zid,Qbi,List.not_mem_nil,or_false]at h;rcases h with rfl|rfl|rfl|rfl|rfl|rfl|rfl|rfl|rfl|rfl <;> trivial
  |7=>λt h=>by simp only[dat,zid,Qbi,List.not_mem_nil,or_false]at h;rcases h with rfl|rfl|rfl <;> trivial
  |8=>λt h=>by simp only[dat,zid,Qbi,List.not_mem_nil,or_false]at h;rcases h with rfl|rfl|rfl|rfl|rfl <;> trivial
  |9=>λt h=>by simp only[dat,zid,Qbi,List.not_mem_nil,or_false]at h;rcases h with rfl|rfl|rfl|rfl|rfl|rfl|rfl|rfl|rfl|rfl|rfl <;> trivial
  |10=>λt h=>by simp only[dat,zid,Qbi,List.not_mem_nil,or_false]at h;rcases h with rfl|rfl|rfl <;> trivial
  |11=>λt h=>by simp only[dat,zid,Qbi,List.not_mem_nil,or_false]at h;rcases h with rfl|rfl <;> trivial
  |12=>λt h=>by simp only[dat,zid,Qbi,List.not_mem_nil,or_false]at h;rcases h with rfl|rfl <;> trivial
  |13=>λt h=>by simp only[dat,zid,Qbi,List.not_mem_nil,or_false]at h;rcases h with rfl|rfl|rfl <;> trivial
  |14=>λt h=>by simp only[dat,zid,Qbi,List.not_mem_nil,or_false]at h;rcases h with rfl|rfl <;> trivial
  |15=>λt h=>by simp only[dat,zid,Qbi,List.not_mem_nil,or_false]at h;rcases h with rfl <;> trivial
  |16=>λt h=>by simp only[dat,zid,Qbi,List.not_mem_nil,or_false]at h;rcases h with rfl|rfl|rfl <;> trivial
  |_+17=>λt h=>by cases h
 ty:=λe t h=>by
  have:=z2c h;simp only[yx8,Qbi,Qbv,List.not_mem_nil,or_false]at this
  rcases this with ⟨_,rfl⟩|⟨_,rfl⟩|⟨_,rfl⟩|⟨_,rfl⟩|⟨_,rfl⟩|⟨_,rfl⟩|⟨_,rfl⟩|⟨_,rfl⟩|⟨_,rfl⟩|⟨_,rfl⟩|⟨_,rfl⟩|⟨_,rfl⟩|⟨_,rfl⟩|⟨_,rfl⟩|⟨_,rfl⟩|⟨_,rfl⟩|⟨_,rfl⟩|⟨_,rfl⟩|⟨_,rfl⟩|⟨_,rfl⟩|⟨_,rfl⟩|⟨_,rfl⟩|⟨_,rfl⟩|⟨_,rfl⟩|⟨_,rfl⟩|⟨_,rfl⟩|⟨_,rfl⟩|⟨_,rfl⟩|⟨_,rfl⟩|⟨_,rfl⟩|⟨_,rfl⟩|⟨_,rfl⟩|⟨_,rfl⟩|⟨_,rfl⟩|⟨_,rfl⟩|⟨_,rfl⟩|⟨_,rfl⟩|⟨_,rfl⟩|⟨_,rfl⟩|⟨_,rfl⟩|⟨_,rfl⟩|⟨_,rfl⟩|⟨_,rfl⟩|⟨_,rfl⟩|⟨_,rfl⟩|⟨_,rfl⟩|⟨_,rfl⟩|⟨_,rfl⟩|⟨_,rfl⟩|⟨_,rfl⟩ <;> simp
 kin:=λi=>match i with
  |0=>λx _=>zf4.kin x
  |1=>λx _=>zen.kin x
  |2=>λx _=>zet.kin x
  |3=>λx _=>zz4.kin x
  |4=>λx _=>yz0.kin x
  |5=>λx _=>yz1.kin x
  |6=>λx _=>kzi.kin x
  |7=>λx _=>yzl.kin x
  |8=>λx _=>kz3.kin x
  |9=>λx _=>kz5.kin x
  |10=>λx _=>zz6.kin x
  |11=>λx _=>kz0.kin x
  |12=>λx _=>kzs.kin x
  |13=>λx _=>kzc.kin x
  |14=>λx _=>z2f.kin x
  |15=>λx _=>kz2.kin x
  |16=>λx _=>zz3.kin x
  |_+17=>λ_ _=>by simp only[dat,V.kin,V.zbc]
def anb(l:List (Nat×Nat))(f:Func):AC:=(ann l (f.body.getD .skip) 0).1
abbrev dI:Sh:=.d (.int .i64)
abbrev dB:Sh:=.d .bool
abbrev dS:Sh:=.d .str
abbrev dU:Sh:=.d (.int .u8)
abbrev dA:Sh:=.d (.sl .str)
abbrev dT(i:Nat):Sh:=.d (.st i)
abbrev dL(i:Nat):Sh:=.d (.sl (.st i))
abbrev Ot:=Option
theorem tr{α:Type}{a b c:α}(h:a=b)(k:b=c:=by kernel_rfl):a=c:=h.trans k
def u1{a r x:Type}(f:a->r)(y:a×x):r:=f y.1
def u2{a b r x:Type}(f:a->b->r)(y:a×b×x):r:=u1 (f y.1) y.2
def u3{a b c r x:Type}(f:a->b->c->r)(y:a×b×c×x):r:=u2 (f y.1) y.2
def u4{a b c d r x:Type}(f:a->b->c->d->r)(y:a×b×c×d×x):r:=u3 (f y.1) y.2
def u5{a b c d e r x:Type}(f:a->b->c->d->e->r)(y:a×b×c×d×e×x):r:=u4 (f y.1) y.2
def u6{a b c d e g r x:Type}(f:a->b->c->d->e->g->r)(y:a×b×c×d×e×g×x):r:=u5 (f y.1) y.2
def u7{a b c d e g h r x:Type}(f:a->b->c->d->e->g->h->r)(y:a×b×c×d×e×g×h×x):r:=u6 (f y.1) y.2
def u8{a b c d e g h i r x:Type}(f:a->b->c->d->e->g->h->i->r)(y:a×b×c×d×e×g×h×i×x):r:=u7 (f y.1) y.2
def u9{a b c d e g h i j r x:Type}(f:a->b->c->d->e->g->h->i->j->r)(y:a×b×c×d×e×g×h×i×j×x):r:=u8 (f y.1) y.2
def u10{a b c d e g h i j k r x:Type}(f:a->b->c->d->e->g->h->i->j->k->r)(y:a×b×c×d×e×g×h×i×j×k×x):r:=u9 (f y.1) y.2
def u11{a b c d e g h i j k l r x:Type}(f:a->b->c->d->e->g->h->i->j->k->l->r)(y:a×b×c×d×e×g×h×i×j×k×l×x):r:=u10 (f y.1) y.2
theorem okG{R:Type}{P:Program}{D:Dat}{hD:D.Ok P}{f nt p:Nat}{args:List Sh}{aos:List OSh}{outs:List Sh}{ros:List OSh}{pure:Bool}{l:LSh}{pack:HL D.T l.tys->R}{un:R->HL D.T (Sh.kzw outs++zzx ros)}
  {go:Nat->HL D.T (Sh.kzw args++zzx aos)->Option R} {z0m:Nat->List (Nat×Lb D R)}{c:AC}{gs:List Nat}{fn:Func}{bs:List (FI D)}(hbs:OkL P bs)
  (hf:P.funcs[f]? = some fn) (hnt:fn.ntmps=nt) (hent:∀args w,(callFunc f args).run P w = .ok (.enter f args) w)
  (hs:∀n x,go (n+1) x=run P D (tb bs n) (jump D (z0m n)) c (entry D args aos nt gs x) (zuu D l pack))
  (hls:∀n,zv7 (λj lb=>∀x,lb.go x=zvi P D (tb bs n) (jump D (z0m n)) j c (zuu D l pack) (lb.sh.bld D x)) (z0m (n+1)))
  (hb:fn.body=some c.erase) (hnd:decide c.labels.Nodup=true) (hchk:yl1 p nt args outs aos ros pure l c gs=true) (hp:∀n,y2k p (z0m n)=true)
  (hout:∀x,zvx P D (l.bld D x) fn.results.toList=some (z1e D (λk=>k) outs (HL.fst _ (un (pack x)))))
  (hz:∀x,go 0 x=none) (hlz:zv7 (λ_ lb=>∀x,lb.go x=none) (z0m 0))
  (hros:∀x,pure=true∨(l.bld D x).o=z3c D (λk=>k) ros 0 (HL.snd _ (un (pack x)))) (hrng:c.zje=[]) :
  FOk P (FI.of D f nt p args aos outs ros pure l pack un go z0m c gs) :=
 (zpi hD hbs (FI.z1c (hD:=hD) hf hnt hent hb (Qac hnd) hchk hp hout hz hlz hs hls hros hrng)).1
theorem okF{R:Type}{f nt p:Nat}{args:List Sh}{aos:List OSh}{outs:List Sh}{ros:List OSh}{pure:Bool}{l:LSh}{pack:HL dat.T l.tys->R}{un:R->HL dat.T (Sh.kzw outs++zzx ros)}
  {go:Nat->HL dat.T (Sh.kzw args++zzx aos)->Option R} {z0m:Nat->List (Nat×Lb dat R)}{c:AC}{gs:List Nat}{fn:Func}{P:Program}{bs:List (FI dat)}(hbs:OkL P bs)
  (hf:P.funcs[f]? = some fn) (hnt:fn.ntmps=nt) (hent:∀args w,(callFunc f args).run P w = .ok (.enter f args) w)
  (hs:∀n x,go (n+1) x=run P dat (tb bs n) (jump dat (z0m n)) c (entry dat args aos nt gs x) (zuu dat l pack))
  (hls:∀n,zv7 (λj lb=>∀x,lb.go x=zvi P dat (tb bs n) (jump dat (z0m n)) j c (zuu dat l pack) (lb.sh.bld dat x)) (z0m (n+1)))
  (hb:fn.body=some c.erase:=by kernel_rfl) (hnd:decide c.labels.Nodup=true:=by kernel_rfl) (hchk:yl1 p nt args outs aos ros pure l c gs=true:=by kernel_rfl) (hp:∀n,y2k p (z0m n)=true:=by exact λn=>by kernel_rfl)
  (hout:∀x,zvx P dat (l.bld dat x) fn.results.toList=some (z1e dat (λk=>k) outs (HL.fst _ (un (pack x)))):=by exact λx=>by kernel_rfl)
  (hz:∀x,go 0 x=none:=by exact λ_=>rfl) (hlz:zv7 (λ_ lb=>∀x,lb.go x=none) (z0m 0):=by repeat (first|exact trivial|refine⟨λ_=>rfl,?_⟩))
  (hros:∀x,pure=true∨(l.bld dat x).o=z3c dat (λk=>k) ros 0 (HL.snd _ (un (pack x))):=by first|exact λx=>.inl rfl|exact λx=>.inr (by kernel_rfl)) (hrng:c.zje=[]:=by kernel_rfl) :
  FOk P (FI.of dat f nt p args aos outs ros pure l pack un go z0m c gs) :=
 okG (hD:=kza P) hbs hf hnt hent hs hls hb hnd hchk hp hout hz hlz hros hrng
end Go.Ab
namespace Go.Proofs
open Go.Shelf
open Go.Proofs.Tryz
def ymh:Go.Shelf.Ren:=⟨λ|137=>99|217=>154|266=>198|n=>n,λ|9=>9|5=>5|3=>3|n=>n,λ|n=>n⟩
theorem yyo:Go.Proofs.Lays.n137 prog ymh:={
 mixed:=by kernel_rfl
 f137:=func99.trans (congrArg some (by kernel_rfl))
 f217:=func154.trans (congrArg some (by kernel_rfl))
 f266:=func198.trans (congrArg some (by kernel_rfl))
 t3:=underlying3
 a3:=isAgg3
 z3:=sizeOf3
 v3:=zeroValue3
 t5:=underlying5
 a5:=isAgg5
 z5:=sizeOf5
 v5:=zeroValue5
 t9:=underlying9
 a9:=isAgg9
 z9:=sizeOf9
 v9:=zeroValue9}
def ym2:Go.Shelf.Ren:=⟨λ|190=>46|125=>109|258=>108|128=>171|129=>172|302=>162|303=>163|304=>164|305=>165|306=>166|307=>167|308=>168|309=>169|310=>170|333=>209|329=>210|330=>211|334=>212|335=>213|336=>214|344=>251|n=>n,λ|31=>44|9=>9|3=>3|46=>152|0=>0|51=>203|53=>205|4=>4|183=>197|182=>196|131=>79|5=>5|218=>236|222=>240|228=>282|229=>183|n=>n,λ|n=>n⟩
theorem yrw:Go.Proofs.Lays.n190 prog ym2:={
 mixed:=by kernel_rfl
 f125:=func109.trans (congrArg some (by kernel_rfl))
 f128:=func171.trans (congrArg some (by kernel_rfl))
 f129:=func172.trans (congrArg some (by kernel_rfl))
 f190:=func46.trans (congrArg some (by kernel_rfl))
 f258:=func108.trans (congrArg some (by kernel_rfl))
 f302:=func162.trans (congrArg some (by kernel_rfl))
 f303:=func163.trans (congrArg some (by kernel_rfl))
 f304:=func164.trans (congrArg some (by kernel_rfl))
 f305:=func165.trans (congrArg some (by kernel_rfl))
 f306:=func166.trans (congrArg some (by kernel_rfl))
 f307:=func167.trans (congrArg some (by kernel_rfl))
 f308:=func168.trans (congrArg some (by kernel_rfl))
 f309:=func169.trans (congrArg some (by kernel_rfl))
 f310:=func170.trans (congrArg some (by kernel_rfl))
 f329:=func210.trans (congrArg some (by kernel_rfl))
 f330:=func211.trans (congrArg some (by kernel_rfl))
 f333:=func209.trans (congrArg some (by kernel_rfl))
 f334:=func212.trans (congrArg some (by kernel_rfl))
 f335:=func213.trans (congrArg some (by kernel_rfl))
 f336:=func214.trans (congrArg some (by kernel_rfl))
 f344:=func251.trans (congrArg some (by kernel_rfl))
 t0:=underlying0
 a0:=isAgg0
 z0:=sizeOf0
 v0:=zeroValue0
 t3:=underlying3
 a3:=isAgg3
 z3:=sizeOf3
 v3:=zeroValue3
 t4:=underlying4
 a4:=isAgg4
 z4:=sizeOf4
 v4:=zeroValue4
 t5:=underlying5
 a5:=isAgg5
 z5:=sizeOf5
 v5:=zeroValue5
 t9:=underlying9
 a9:=isAgg9
 z9:=sizeOf9
 v9:=zeroValue9
 t31:=underlying44
 a31:=isAgg44
 z31:=sizeOf44
 v31:=zeroValue44
 t46:=underlying152
 a46:=isAgg152
 z46:=sizeOf152
 v46:=zeroValue152
 t51:=underlying203
 a51:=isAgg203
 z51:=sizeOf203
 v51:=zeroValue203
 t53:=underlying205
 a53:=isAgg205
 z53:=sizeOf205
 v53:=zeroValue205
 t131:=underlying79
 a131:=isAgg79
 z131:=sizeOf79
 v131:=zeroValue79
 t182:=underlying196
 a182:=isAgg196
 z182:=sizeOf196
 v182:=zeroValue196
 t183:=underlying197
 a183:=isAgg197
 z183:=sizeOf197
 v183:=zeroValue197
 t218:=underlying236
 a218:=isAgg236
 z218:=sizeOf236
 v218:=zeroValue236
 t222:=underlying240
 a222:=isAgg240
 z222:=sizeOf240
 v222:=zeroValue240
 t228:=underlying282
 a228:=isAgg282
 z228:=sizeOf282
 v228:=zeroValue282
 t229:=underlying183
 a229:=isAgg183
 z229:=sizeOf183
 v229:=zeroValue183}
def ynp:Go.Shelf.Ren:=⟨λ|194=>47|n=>n,λ|31=>44|9=>9|3=>3|4=>4|0=>0|n=>n,λ|n=>n⟩
theorem yrv:Go.Proofs.Lays.n194 prog ynp:={
 mixed:=by kernel_rfl
 f194:=func47.trans (congrArg some (by kernel_rfl))
 t0:=underlying0
 a0:=isAgg0
 z0:=sizeOf0
 v0:=zeroValue0
 t3:=underlying3
 a3:=isAgg3
 z3:=sizeOf3
 v3:=zeroValue3
 t4:=underlying4
 a4:=isAgg4
 z4:=sizeOf4
 v4:=zeroValue4
 t9:=underlying9
 a9:=isAgg9
 z9:=sizeOf9
 v9:=zeroValue9
 t31:=underlying44
 a31:=isAgg44
 z31:=sizeOf44
 v31:=zeroValue44}
def y6e:Go.Shelf.Ren:=⟨λ|146=>102|221=>157|268=>201|138=>202|143=>203|195=>245|197=>246|218=>247|219=>199|260=>274|217=>154|225=>239|224=>240|267=>241|266=>198|314=>268|n=>n,λ|9=>9|31=>44|3=>3|4=>4|0=>0|105=>274|21=>21|5=>5|46=>152|119=>213|139=>328|138=>327|146=>306|51=>203|n=>n,λ|1=>2|3=>6|4=>7|n=>n⟩
theorem yik:Go.Proofs.Lays.n146 prog y6e:={
 mixed:=by kernel_rfl
 f138:=func202.trans (congrArg some (by kernel_rfl))
 f143:=func203.trans (congrArg some (by kernel_rfl))
 f146:=func102.trans (congrArg some (by kernel_rfl))
 f195:=func245.trans (congrArg some (by kernel_rfl))
 f197:=func246.trans (congrArg some (by kernel_rfl))
 f217:=func154.trans (congrArg some (by kernel_rfl))
 f218:=func247.trans (congrArg some (by kernel_rfl))
 f219:=func199.trans (congrArg some (by kernel_rfl))
 f221:=func157.trans (congrArg some (by kernel_rfl))
 f224:=func240.trans (congrArg some (by kernel_rfl))
 f225:=func239.trans (congrArg some (by kernel_rfl))
 f260:=func274.trans (congrArg some (by kernel_rfl))
 f266:=func198.trans (congrArg some (by kernel_rfl))
 f267:=func241.trans (congrArg some (by kernel_rfl))
 f268:=func201.trans (congrArg some (by kernel_rfl))
 f314:=func268.trans (congrArg some (by kernel_rfl))
 t0:=underlying0
 a0:=isAgg0
 z0:=sizeOf0
 v0:=zeroValue0
 t3:=underlying3
 a3:=isAgg3
 z3:=sizeOf3
 v3:=zeroValue3
 t4:=underlying4
 a4:=isAgg4
 z4:=sizeOf4
 v4:=zeroValue4
 t5:=underlying5
 a5:=isAgg5
 z5:=sizeOf5
 v5:=zeroValue5
 t9:=underlying9
 a9:=isAgg9
 z9:=sizeOf9
 v9:=zeroValue9
 t21:=underlying21
 a21:=isAgg21
 z21:=sizeOf21
 v21:=zeroValue21
 t31:=underlying44
 a31:=isAgg44
 z31:=sizeOf44
 v31:=zeroValue44
 t46:=underlying152
 a46:=isAgg152
 z46:=sizeOf152
 v46:=zeroValue152
 t51:=underlying203
 a51:=isAgg203
 z51:=sizeOf203
 v51:=zeroValue203
 t105:=underlying274
 a105:=isAgg274
 z105:=sizeOf274
 v105:=zeroValue274
 t119:=underlying213
 a119:=isAgg213
 z119:=sizeOf213
 t138:=underlying327
 a138:=isAgg327
 z138:=sizeOf327
 v138:=zeroValue327
 t139:=underlying328
 a139:=isAgg328
 z139:=sizeOf328
 v139:=zeroValue328
 t146:=underlying306
 a146:=isAgg306
 z146:=sizeOf306
 v146:=zeroValue306
 g1:=by kernel_rfl
 g3:=by kernel_rfl
 g4:=by kernel_rfl}
def y66:Go.Shelf.Ren:=⟨λ|156=>60|165=>123|166=>59|169=>66|240=>122|241=>180|276=>179|277=>223|n=>n,λ|31=>44|9=>9|3=>3|4=>4|0=>0|20=>20|72=>111|76=>114|70=>108|37=>109|75=>113|127=>163|164=>209|5=>5|80=>123|n=>n,λ|n=>n⟩
theorem yh0:Go.Proofs.Lays.n156 prog y66:={
 mixed:=by kernel_rfl
 f156:=func60.trans (congrArg some (by kernel_rfl))
 f165:=func123.trans (congrArg some (by kernel_rfl))
 f166:=func59.trans (congrArg some (by kernel_rfl))
 f169:=func66.trans (congrArg some (by kernel_rfl))
 f240:=func122.trans (congrArg some (by kernel_rfl))
 f241:=func180.trans (congrArg some (by kernel_rfl))
 f276:=func179.trans (congrArg some (by kernel_rfl))
 f277:=func223.trans (congrArg some (by kernel_rfl))
 t0:=underlying0
 a0:=isAgg0
 z0:=sizeOf0
 v0:=zeroValue0
 t3:=underlying3
 a3:=isAgg3
 z3:=sizeOf3
 v3:=zeroValue3
 t4:=underlying4
 a4:=isAgg4
 z4:=sizeOf4
 v4:=zeroValue4
 t9:=underlying9
 a9:=isAgg9
 z9:=sizeOf9
 v9:=zeroValue9
 t20:=underlying20
 a20:=isAgg20
 z20:=sizeOf20
 v20:=zeroValue20
 t31:=underlying44
 a31:=isAgg44
 z31:=sizeOf44
 v31:=zeroValue44
 t37:=underlying109
 a37:=isAgg109
 z37:=sizeOf109
 v37:=zeroValue109
 t70:=underlying108
 a70:=isAgg108
 z70:=sizeOf108
 v70:=zeroValue108
 t72:=underlying111
 a72:=isAgg111
 z72:=sizeOf111
 v72:=zeroValue111
 t75:=underlying113
 a75:=isAgg113
 z75:=sizeOf113
 v75:=zeroValue113
 t76:=underlying114
 a76:=isAgg114
 z76:=sizeOf114
 v76:=zeroValue114
 t127:=underlying163
 a127:=isAgg163
 z127:=sizeOf163
 v127:=zeroValue163
 t164:=underlying209
 a164:=isAgg209
 z164:=sizeOf209
 v164:=zeroValue209}
def yku:Go.Shelf.Ren:=⟨λ|157=>126|229=>184|199=>185|261=>229|311=>261|312=>262|n=>n,λ|9=>9|31=>44|3=>3|5=>5|4=>4|119=>213|0=>0|40=>215|152=>252|21=>21|154=>254|51=>203|141=>256|196=>294|193=>291|198=>297|49=>295|194=>292|201=>300|226=>314|46=>152|227=>315|n=>n,λ|0=>0|6=>1|n=>n⟩
theorem yyy:Go.Proofs.Lays.n157 prog yku:={
 mixed:=by kernel_rfl
 f157:=func126.trans (congrArg some (by kernel_rfl))
 f199:=func185.trans (congrArg some (by kernel_rfl))
 f229:=func184.trans (congrArg some (by kernel_rfl))
 f261:=func229.trans (congrArg some (by kernel_rfl))
 f311:=func261.trans (congrArg some (by kernel_rfl))
 f312:=func262.trans (congrArg some (by kernel_rfl))
 t0:=underlying0
 a0:=isAgg0
 z0:=sizeOf0
 v0:=zeroValue0
 t3:=underlying3
 a3:=isAgg3
 z3:=sizeOf3
 v3:=zeroValue3
 t4:=underlying4
 a4:=isAgg4
 z4:=sizeOf4
 v4:=zeroValue4
 t5:=underlying5
 a5:=isAgg5
 z5:=sizeOf5
 v5:=zeroValue5
 t9:=underlying9
 a9:=isAgg9
 z9:=sizeOf9
 v9:=zeroValue9
 t21:=underlying21
 a21:=isAgg21
 z21:=sizeOf21
 v21:=zeroValue21
 t31:=underlying44
 a31:=isAgg44
 z31:=sizeOf44
 v31:=zeroValue44
 t40:=underlying215
 a40:=isAgg215
 z40:=sizeOf215
 v40:=zeroValue215
 t46:=underlying152
 a46:=isAgg152
 z46:=sizeOf152
 v46:=zeroValue152
 t49:=underlying295
 a49:=isAgg295
 z49:=sizeOf295
 v49:=zeroValue295
 t51:=underlying203
 a51:=isAgg203
 z51:=sizeOf203
 v51:=zeroValue203
 t119:=underlying213
 a119:=isAgg213
 z119:=sizeOf213
 t141:=underlying256
 a141:=isAgg256
 z141:=sizeOf256
 v141:=zeroValue256
 t152:=underlying252
 a152:=isAgg252
 z152:=sizeOf252
 v152:=zeroValue252
 t154:=underlying254
 a154:=isAgg254
 z154:=sizeOf254
 v154:=zeroValue254
 t193:=underlying291
 a193:=isAgg291
 z193:=sizeOf291
 v193:=zeroValue291
 t194:=underlying292
 a194:=isAgg292
 z194:=sizeOf292
 v194:=zeroValue292
 t196:=underlying294
 a196:=isAgg294
 z196:=sizeOf294
 v196:=zeroValue294
 t198:=underlying297
 a198:=isAgg297
 z198:=sizeOf297
 v198:=zeroValue297
 t201:=underlying300
 a201:=isAgg300
 z201:=sizeOf300
 v201:=zeroValue300
 t226:=underlying314
 a226:=isAgg314
 z226:=sizeOf314
 v226:=zeroValue314
 t227:=underlying315
 a227:=isAgg315
 z227:=sizeOf315
 v227:=zeroValue315
 g0:=by kernel_rfl
 g6:=by kernel_rfl}
def y6a:Go.Shelf.Ren:=⟨λ|169=>66|n=>n,λ|70=>108|9=>9|0=>0|72=>111|37=>109|127=>163|3=>3|5=>5|n=>n,λ|n=>n⟩
theorem yh5:Go.Proofs.Lays.n169 prog y6a:={
 mixed:=by kernel_rfl
 f169:=func66.trans (congrArg some (by kernel_rfl))
 t0:=underlying0
 a0:=isAgg0
 z0:=sizeOf0
 v0:=zeroValue0
 t3:=underlying3
 a3:=isAgg3
 z3:=sizeOf3
 v3:=zeroValue3
 t9:=underlying9
 a9:=isAgg9
 z9:=sizeOf9
 v9:=zeroValue9
 t37:=underlying109
 a37:=isAgg109
 z37:=sizeOf109
 v37:=zeroValue109
 t70:=underlying108
 a70:=isAgg108
 z70:=sizeOf108
 v70:=zeroValue108
 t72:=underlying111
 a72:=isAgg111
 z72:=sizeOf111
 v72:=zeroValue111
 t127:=underlying163
 a127:=isAgg163
 z127:=sizeOf163
 v127:=zeroValue163}
def yl2:Go.Shelf.Ren:=⟨λ|217=>154|266=>198|n=>n,λ|9=>9|5=>5|3=>3|n=>n,λ|n=>n⟩
theorem yyj:Go.Proofs.Lays.n217 prog yl2:={
 mixed:=by kernel_rfl
 f217:=func154.trans (congrArg some (by kernel_rfl))
 f266:=func198.trans (congrArg some (by kernel_rfl))
 t3:=underlying3
 a3:=isAgg3
 z3:=sizeOf3
 v3:=zeroValue3
 t5:=underlying5
 a5:=isAgg5
 z5:=sizeOf5
 v5:=zeroValue5
 t9:=underlying9
 a9:=isAgg9
 z9:=sizeOf9
 v9:=zeroValue9}
def ym8:Go.Shelf.Ren:=⟨λ|219=>199|217=>154|225=>239|224=>240|267=>241|266=>198|314=>268|n=>n,λ|9=>9|3=>3|4=>4|5=>5|46=>152|146=>306|51=>203|n=>n,λ|1=>2|n=>n⟩
theorem z00b:Go.Proofs.Lays.n219 prog ym8:={
 mixed:=by kernel_rfl
 f217:=func154.trans (congrArg some (by kernel_rfl))
 f219:=func199.trans (congrArg some (by kernel_rfl))
 f224:=func240.trans (congrArg some (by kernel_rfl))
 f225:=func239.trans (congrArg some (by kernel_rfl))
 f266:=func198.trans (congrArg some (by kernel_rfl))
 f267:=func241.trans (congrArg some (by kernel_rfl))
 f314:=func268.trans (congrArg some (by kernel_rfl))
 t3:=underlying3
 a3:=isAgg3
 z3:=sizeOf3
 v3:=zeroValue3
 t4:=underlying4
 a4:=isAgg4
 z4:=sizeOf4
 v4:=zeroValue4
 t5:=underlying5
 a5:=isAgg5
 z5:=sizeOf5
 v5:=zeroValue5
 t9:=underlying9
 a9:=isAgg9
 z9:=sizeOf9
 v9:=zeroValue9
 t46:=underlying152
 a46:=isAgg152
 z46:=sizeOf152
 v46:=zeroValue152
 t51:=underlying203
 a51:=isAgg203
 z51:=sizeOf203
 v51:=zeroValue203
 t146:=underlying306
 a146:=isAgg306
 z146:=sizeOf306
 v146:=zeroValue306
 g1:=by kernel_rfl}
def yha:Go.Shelf.Ren:=⟨λ|171=>63|243=>125|246=>183|283=>225|284=>226|285=>227|286=>228|129=>172|317=>257|318=>258|319=>259|320=>260|337=>279|338=>280|n=>n,λ|3=>3|9=>9|2=>2|4=>4|171=>248|0=>0|53=>205|37=>109|5=>5|173=>250|212=>288|51=>203|20=>20|213=>289|46=>152|232=>329|233=>330|n=>n,λ|17=>5|18=>8|19=>9|n=>n⟩
theorem yxw:Go.Proofs.LaysM.n171 prog yha:={
 mixed:=by kernel_rfl
 f129:=func172.trans (congrArg some (by kernel_rfl))
 f171:=func63.trans (congrArg some (by kernel_rfl))
 f243:=func125.trans (congrArg some (by kernel_rfl))
 f246:=func183.trans (congrArg some (by kernel_rfl))
 f283:=func225.trans (congrArg some (by kernel_rfl))
 f284:=func226.trans (congrArg some (by kernel_rfl))
 f285:=func227.trans (congrArg some (by kernel_rfl))
 f286:=func228.trans (congrArg some (by kernel_rfl))
 f317:=func257.trans (congrArg some (by kernel_rfl))
 f318:=func258.trans (congrArg some (by kernel_rfl))
 f319:=func259.trans (congrArg some (by kernel_rfl))
 f320:=func260.trans (congrArg some (by kernel_rfl))
 f337:=func279.trans (congrArg some (by kernel_rfl))
 f338:=func280.trans (congrArg some (by kernel_rfl))
 t0:=underlying0
 a0:=isAgg0
 z0:=sizeOf0
 v0:=zeroValue0
 t2:=underlying2
 a2:=isAgg2
 z2:=sizeOf2
 v2:=zeroValue2
 t3:=underlying3
 a3:=isAgg3
 z3:=sizeOf3
 v3:=zeroValue3
 t4:=underlying4
 a4:=isAgg4
 z4:=sizeOf4
 v4:=zeroValue4
 t5:=underlying5
 a5:=isAgg5
 z5:=sizeOf5
 v5:=zeroValue5
 t9:=underlying9
 a9:=isAgg9
 z9:=sizeOf9
 v9:=zeroValue9
 t20:=underlying20
 a20:=isAgg20
 z20:=sizeOf20
 v20:=zeroValue20
 t37:=underlying109
 a37:=isAgg109
 z37:=sizeOf109
 v37:=zeroValue109
 t46:=underlying152
 a46:=isAgg152
 z46:=sizeOf152
 v46:=zeroValue152
 t51:=underlying203
 a51:=isAgg203
 z51:=sizeOf203
 v51:=zeroValue203
 t53:=underlying205
 a53:=isAgg205
 z53:=sizeOf205
 v53:=zeroValue205
 t171:=underlying248
 a171:=isAgg248
 z171:=sizeOf248
 v171:=zeroValue248
 t173:=underlying250
 a173:=isAgg250
 z173:=sizeOf250
 v173:=zeroValue250
 t212:=underlying288
 a212:=isAgg288
 z212:=sizeOf288
 v212:=zeroValue288
 t213:=underlying289
 a213:=isAgg289
 z213:=sizeOf289
 t232:=underlying329
 a232:=isAgg329
 z232:=sizeOf329
 v232:=zeroValue329
 t233:=underlying330
 a233:=isAgg330
 z233:=sizeOf330
 v233:=zeroValue330
 g17:=by kernel_rfl
 g18:=by kernel_rfl
 g19:=by kernel_rfl
 i0:=by kernel_rfl
 i2:=by kernel_rfl
 i3:=by kernel_rfl
 i4:=by kernel_rfl
 i5:=by kernel_rfl
 i9:=by kernel_rfl
 i20:=by kernel_rfl
 i37:=by kernel_rfl
 i46:=by kernel_rfl
 i51:=by kernel_rfl
 i53:=by kernel_rfl
 i171:=by kernel_rfl
 i173:=by kernel_rfl
 i212:=by kernel_rfl
 i232:=by kernel_rfl
 i233:=by kernel_rfl
 m17:=by kernel_rfl
 m18:=by kernel_rfl
 m19:=by kernel_rfl}
def yh9:Go.Shelf.Ren:=⟨λ|173=>277|246=>183|283=>225|284=>226|285=>227|286=>228|129=>172|317=>257|318=>258|319=>259|320=>260|337=>279|338=>280|n=>n,λ|2=>2|3=>3|9=>9|4=>4|171=>248|0=>0|53=>205|37=>109|5=>5|173=>250|212=>288|51=>203|20=>20|213=>289|46=>152|232=>329|233=>330|n=>n,λ|17=>5|18=>8|19=>9|n=>n⟩
theorem ywr:Go.Proofs.LaysM.n173 prog yh9:={
 mixed:=by kernel_rfl
 f129:=func172.trans (congrArg some (by kernel_rfl))
 f173:=func277.trans (congrArg some (by kernel_rfl))
 f246:=func183.trans (congrArg some (by kernel_rfl))
 f283:=func225.trans (congrArg some (by kernel_rfl))
 f284:=func226.trans (congrArg some (by kernel_rfl))
 f285:=func227.trans (congrArg some (by kernel_rfl))
 f286:=func228.trans (congrArg some (by kernel_rfl))
 f317:=func257.trans (congrArg some (by kernel_rfl))
 f318:=func258.trans (congrArg some (by kernel_rfl))
 f319:=func259.trans (congrArg some (by kernel_rfl))
 f320:=func260.trans (congrArg some (by kernel_rfl))
 f337:=func279.trans (congrArg some (by kernel_rfl))
 f338:=func280.trans (congrArg some (by kernel_rfl))
 t0:=underlying0
 a0:=isAgg0
 z0:=sizeOf0
 v0:=zeroValue0
 t2:=underlying2
 a2:=isAgg2
 z2:=sizeOf2
 v2:=zeroValue2
 t3:=underlying3
 a3:=isAgg3
 z3:=sizeOf3
 v3:=zeroValue3
 t4:=underlying4
 a4:=isAgg4
 z4:=sizeOf4
 v4:=zeroValue4
 t5:=underlying5
 a5:=isAgg5
 z5:=sizeOf5
 v5:=zeroValue5
 t9:=underlying9
 a9:=isAgg9
 z9:=sizeOf9
 v9:=zeroValue9
 t20:=underlying20
 a20:=isAgg20
 z20:=sizeOf20
 v20:=zeroValue20
 t37:=underlying109
 a37:=isAgg109
 z37:=sizeOf109
 v37:=zeroValue109
 t46:=underlying152
 a46:=isAgg152
 z46:=sizeOf152
 v46:=zeroValue152
 t51:=underlying203
 a51:=isAgg203
 z51:=sizeOf203
 v51:=zeroValue203
 t53:=underlying205
 a53:=isAgg205
 z53:=sizeOf205
 v53:=zeroValue205
 t171:=underlying248
 a171:=isAgg248
 z171:=sizeOf248
 v171:=zeroValue248
 t173:=underlying250
 a173:=isAgg250
 z173:=sizeOf250
 v173:=zeroValue250
 t212:=underlying288
 a212:=isAgg288
 z212:=sizeOf288
 v212:=zeroValue288
 t213:=underlying289
 a213:=isAgg289
 z213:=sizeOf289
 t232:=underlying329
 a232:=isAgg329
 z232:=sizeOf329
 v232:=zeroValue329
 t233:=underlying330
 a233:=isAgg330
 z233:=sizeOf330
 v233:=zeroValue330
 g17:=by kernel_rfl
 g18:=by kernel_rfl
 g19:=by kernel_rfl
 i0:=by kernel_rfl
 i2:=by kernel_rfl
 i3:=by kernel_rfl
 i4:=by kernel_rfl
 i5:=by kernel_rfl
 i9:=by kernel_rfl
 i20:=by kernel_rfl
 i37:=by kernel_rfl
 i46:=by kernel_rfl
 i51:=by kernel_rfl
 i53:=by kernel_rfl
 i171:=by kernel_rfl
 i173:=by kernel_rfl
 i212:=by kernel_rfl
 i232:=by kernel_rfl
 i233:=by kernel_rfl
 m17:=by kernel_rfl
 m18:=by kernel_rfl
 m19:=by kernel_rfl}
def yj9:Go.Shelf.Ren:=⟨λ|172=>103|244=>158|245=>159|247=>204|279=>205|280=>206|281=>207|282=>208|287=>248|316=>249|171=>63|205=>250|321=>275|322=>276|243=>125|246=>183|283=>225|284=>226|285=>227|286=>228|129=>172|317=>257|318=>258|319=>259|320=>260|337=>279|338=>280|n=>n,λ|9=>9|3=>3|75=>113|76=>114|4=>4|5=>5|167=>230|37=>109|0=>0|85=>231|2=>2|168=>233|53=>205|175=>276|46=>152|210=>280|127=>163|145=>312|143=>310|21=>21|171=>248|173=>250|212=>288|51=>203|20=>20|213=>289|232=>329|233=>330|80=>123|n=>n,λ|15=>3|16=>4|17=>5|18=>8|19=>9|n=>n⟩
theorem yas:Go.Proofs.LaysC.n172 prog yj9:={
 mixed:=by kernel_rfl
 f129:=func172.trans (congrArg some (by kernel_rfl))
 f171:=func63.trans (congrArg some (by kernel_rfl))
 f172:=func103.trans (congrArg some (by kernel_rfl))
 f205:=func250.trans (congrArg some (by kernel_rfl))
 f243:=func125.trans (congrArg some (by kernel_rfl))
 f244:=func158.trans (congrArg some (by kernel_rfl))
 f245:=func159.trans (congrArg some (by kernel_rfl))
 f246:=func183.trans (congrArg some (by kernel_rfl))
 f247:=func204.trans (congrArg some (by kernel_rfl))
 f279:=func205.trans (congrArg some (by kernel_rfl))
 f280:=func206.trans (congrArg some (by kernel_rfl))
 f281:=func207.trans (congrArg some (by kernel_rfl))
 f282:=func208.trans (congrArg some (by kernel_rfl))
 f283:=func225.trans (congrArg some (by kernel_rfl))
 f284:=func226.trans (congrArg some (by kernel_rfl))
 f285:=func227.trans (congrArg some (by kernel_rfl))
 f286:=func228.trans (congrArg some (by kernel_rfl))
 f287:=func248.trans (congrArg some (by kernel_rfl))
 f316:=func249.trans (congrArg some (by kernel_rfl))
 f317:=func257.trans (congrArg some (by kernel_rfl))
 f318:=func258.trans (congrArg some (by kernel_rfl))
 f319:=func259.trans (congrArg some (by kernel_rfl))
 f320:=func260.trans (congrArg some (by kernel_rfl))
 f321:=func275.trans (congrArg some (by kernel_rfl))
 f322:=func276.trans (congrArg some (by kernel_rfl))
 f337:=func279.trans (congrArg some (by kernel_rfl))
 f338:=func280.trans (congrArg some (by kernel_rfl))
 t0:=underlying0
 a0:=isAgg0
 z0:=sizeOf0
 v0:=zeroValue0
 t2:=underlying2
 a2:=isAgg2
 z2:=sizeOf2
 v2:=zeroValue2
 t3:=underlying3
 a3:=isAgg3
 z3:=sizeOf3
 v3:=zeroValue3
 t4:=underlying4
 a4:=isAgg4
 z4:=sizeOf4
 v4:=zeroValue4
 t5:=underlying5
 a5:=isAgg5
 z5:=sizeOf5
 v5:=zeroValue5
 t9:=underlying9
 a9:=isAgg9
 z9:=sizeOf9
 v9:=zeroValue9
 t20:=underlying20
 a20:=isAgg20
 z20:=sizeOf20
 v20:=zeroValue20
 t21:=underlying21
 a21:=isAgg21
 z21:=sizeOf21
 v21:=zeroValue21
 t37:=underlying109
 a37:=isAgg109
 z37:=sizeOf109
 v37:=zeroValue109
 t46:=underlying152
 a46:=isAgg152
 z46:=sizeOf152
 v46:=zeroValue152
 t51:=underlying203
 a51:=isAgg203
 z51:=sizeOf203
 v51:=zeroValue203
 t53:=underlying205
 a53:=isAgg205
 z53:=sizeOf205
 v53:=zeroValue205
 t75:=underlying113
 a75:=isAgg113
 z75:=sizeOf113
 v75:=zeroValue113
 t76:=underlying114
 a76:=isAgg114
 z76:=sizeOf114
 v76:=zeroValue114
 t85:=underlying231
 a85:=isAgg231
 z85:=sizeOf231
 v85:=zeroValue231
 t127:=underlying163
 a127:=isAgg163
 z127:=sizeOf163
 v127:=zeroValue163
 t143:=underlying310
 a143:=isAgg310
 z143:=sizeOf310
 v143:=zeroValue310
 t145:=underlying312
 a145:=isAgg312
 z145:=sizeOf312
 v145:=zeroValue312
 t167:=underlying230
 a167:=isAgg230
 z167:=sizeOf230
 v167:=zeroValue230
 t168:=underlying233
 a168:=isAgg233
 z168:=sizeOf233
 v168:=zeroValue233
 t171:=underlying248
 a171:=isAgg248
 z171:=sizeOf248
 v171:=zeroValue248
 t173:=underlying250
 a173:=isAgg250
 z173:=sizeOf250
 v173:=zeroValue250
 t175:=underlying276
 a175:=isAgg276
 z175:=sizeOf276
 v175:=zeroValue276
 t210:=underlying280
 a210:=isAgg280
 z210:=sizeOf280
 v210:=zeroValue280
 t212:=underlying288
 a212:=isAgg288
 z212:=sizeOf288
 v212:=zeroValue288
 t213:=underlying289
 a213:=isAgg289
 z213:=sizeOf289
 t232:=underlying329
 a232:=isAgg329
 z232:=sizeOf329
 v232:=zeroValue329
 t233:=underlying330
 a233:=isAgg330
 z233:=sizeOf330
 v233:=zeroValue330
 g15:=by kernel_rfl
 g16:=by kernel_rfl
 g17:=by kernel_rfl
 g18:=by kernel_rfl
 g19:=by kernel_rfl
 t80:=underlying123
 a80:=isAgg123
 z80:=sizeOf123
 v80:=zeroValue123
 i0:=by kernel_rfl
 i2:=by kernel_rfl
 i3:=by kernel_rfl
 i4:=by kernel_rfl
 i5:=by kernel_rfl
 i9:=by kernel_rfl
 i20:=by kernel_rfl
 i21:=by kernel_rfl
 i37:=by kernel_rfl
 i46:=by kernel_rfl
 i51:=by kernel_rfl
 i53:=by kernel_rfl
 i75:=by kernel_rfl
 i76:=by kernel_rfl
 i80:=by kernel_rfl
 i85:=by kernel_rfl
 i127:=by kernel_rfl
 i143:=by kernel_rfl
 i145:=by kernel_rfl
 i167:=by kernel_rfl
 i168:=by kernel_rfl
 i171:=by kernel_rfl
 i173:=by kernel_rfl
 i175:=by kernel_rfl
 i210:=by kernel_rfl
 i212:=by kernel_rfl
 i232:=by kernel_rfl
 i233:=by kernel_rfl
 m15:=by kernel_rfl
 m16:=by kernel_rfl
 m17:=by kernel_rfl
 m18:=by kernel_rfl
 m19:=by kernel_rfl
 c0:=by kernel_rfl
 c2:=by kernel_rfl
 c3:=by kernel_rfl
 c4:=by kernel_rfl
 c5:=by kernel_rfl
 c9:=by kernel_rfl
 c20:=by kernel_rfl
 c21:=by kernel_rfl
 c37:=by kernel_rfl
 c46:=by kernel_rfl
 c51:=by kernel_rfl
 c53:=by kernel_rfl
 c75:=by kernel_rfl
 c76:=by kernel_rfl
 c80:=by kernel_rfl
 c85:=by kernel_rfl
 c127:=by kernel_rfl
 c143:=by kernel_rfl
 c145:=by kernel_rfl
 c167:=by kernel_rfl
 c168:=by kernel_rfl
 c171:=by kernel_rfl
 c173:=by kernel_rfl
 c175:=by kernel_rfl
 c210:=by kernel_rfl
 c212:=by kernel_rfl
 c213:=by kernel_rfl
 c232:=by kernel_rfl
 c233:=by kernel_rfl}
theorem zh2:Builder.Extra prog y66:={
 sizeBuilder:=by kernel_rfl
 liesBuilder:=by kernel_rfl
 t5:=underlying5
 a5:=isAgg5
 z5:=sizeOf5
 v5:=zeroValue5
 infoByte:=by kernel_rfl
 cellsByte:=by kernel_rfl
 sizeByte:=by kernel_rfl
 neB5:=by decide}
theorem z3x:Builder.Extra prog y6a:={
 sizeBuilder:=by kernel_rfl
 liesBuilder:=by kernel_rfl
 t5:=underlying5
 a5:=isAgg5
 z5:=sizeOf5
 v5:=zeroValue5
 infoByte:=by kernel_rfl
 cellsByte:=by kernel_rfl
 sizeByte:=by kernel_rfl
 neB5:=by decide}
end Go.Proofs
namespace Go.Proofs.YthphaiccgnkobaaGreatDoor
open Go Go.Ab Go.Proofs
open Go.RowKit
open Go.Proofs.Tryz
set_option linter.unusedVariables false
set_option linter.unusedSimpArgs false
attribute [local go_sem] Oper.semAt_some
theorem yrk:∀{s:B8},s.any (· == 10)=false->lnA s=s∧lnB s=[]
 |[],_=>⟨rfl,rfl⟩
 |c::r,h=>by
  simp only[List.any_cons,Bool.or_eq_false_iff]at h;obtain⟨h1,h2⟩:=yrk h.2;simp only[lnA,lnB,h.1,h1,h2,and_self]
theorem yrq:∀{s:B8},s.any (· == 10)=true->lnA s=s.take ((s.takeWhile (· != 10)).length+1)∧lnB s=s.drop ((s.takeWhile (· != 10)).length+1)
 |[],h=>by simp at h
 |c::r,h=>by
  cases hc:c==10;have ih:=yrq (s:=r) (by simpa[hc]using h);simp only[lnA,lnB,hc,List.takeWhile_cons,bne,Bool.not_false,if_true,List.length_cons,List.take_succ_cons,List.drop_succ_cons];exact⟨by rw[ih.1];rfl,ih.2⟩;simp[lnA,lnB,hc,bne]
abbrev S(s:B8):Value:=.string ⟨s.toArray⟩
theorem ynz(n:Nat)(s:B8){k:Int}(hk:Lib.indexByte s 10=k)(W:World):CallsIn Fence.wide n prog 99 #[S s,.int .u8 10] W λe W'=>e = .returned (.int .i64 k)∧W'=W:=by
 subst hk;refine callsIn_wide.2 ?_;exact(Any.strings_IndexByte {yyo with} ⟨s.toArray⟩ 10 W).mono λe w' ⟨a1,a2⟩=>⟨by rw[a1];rfl,a2⟩
def ypv(Bs:Nat)(W:World):Nat:=match W.cell? ⟨Bs,0,none⟩with
 |some (.string b)=>b.size
 |_=>0
set_option maxRecDepth 100000 in
set_option maxHeartbeats 2000000 in
theorem ytg(n l Bs:Nat)(K:B8->World->Prop)(Kx:World->Prop)(s:B8)(W:World)
  (hc:∀r W,K r W->W.cell? ⟨Bs,0,none⟩=some (.string ⟨r.toArray⟩)∧W.frozen? ⟨Bs,0,none⟩=false)
  (hg:∀r W W',K r W->Grow W W'->K r W')
  (hY:∀r W,r≠[]->K r W->YieldAt Fence.wide (n-1) prog l #[.string ⟨(lnA r).toArray⟩] (W.setCell ⟨Bs,0,none⟩ (.string ⟨(lnB r).toArray⟩)) λe W'=>
   (e = .returned (.bool true)∧K (lnB r) W')∨(e = .returned (.bool false)∧Kx W'))
  (hs:s.length<=4611686018427387904) (h0:K s W):CallsIn Fence.wide n prog 98 #[.func (.yield l) #[] #[],.pointer (some ⟨Bs,0,none⟩)] W λe W'=>(∃v,e = .returned v)∧(K [] W'∨Kx W'):=by
 refine callsIn_of_wp func98 rfl trivial ?_ rfl;simp only[ntmps98,List.size_toArray,List.length_cons,List.length_nil,Nat.reduceAdd,Nat.reduceSub,Array.replicate_succ,Array.replicate_zero,List.push_toArray,List.append_toArray,List.nil_append,List.cons_append];have hmx:prog.follows .mixedOrders=true:=by kernel_rfl
 have hK1:∀r W,K r W->ypv Bs W=r.length:=λr W h=>by unfold ypv;rw[(hc r W h).1];simp[ByteArray.size]
 gi_wp2
 gi_loopw [] (λwr=>∃r,K r wr∧r.length<=4611686018427387904) (λwr=>ypv Bs wr)
 case atStart=>exact⟨s,h0,hs⟩
 case round=>
  obtain⟨r,hK,hr⟩:=hrel;obtain⟨hc1,hf1⟩:=hc _ _ hK;by_cases hr0:r=[]
  ·subst hr0
   gi_wp2
   go_end0
   exact⟨⟨_,rfl⟩,.inl hK⟩
  ·have hpos:(0:Int)<(r.length:Int):=by have:=List.length_pos_iff.2 hr0;omega
   cases ha:r.any (· == 10)with
   |false=>
    have hidx:Lib.indexByte r 10 = -1:=by rw[y3d,ha];rfl
    obtain⟨l1,l2⟩:=yrk ha;have hy:=hY r wr hr0 hK;rw[l1,l2]at hy;obtain⟨fn,tmps,assign,body,hy,hR⟩:=hy
    gi_wp2_with (refine⟨trivial,(λh=>by cases h),?_⟩;gi_at_call 99;refine(ynz _ r hidx _).mono ?_;rintro e w2 ⟨rfl,rfl⟩)
    refine⟨(λh=>by cases h),hR.mono ?_⟩
    rintro e W3 (⟨rfl,hK3⟩|⟨rfl,hKx⟩)
    ·gi_wp2
     go_roundw
     case rel=>exact⟨_,hK3,Qbr _⟩
     case measure=>
      have hl:=hK1 _ _ hK3;have hl0:=hK1 _ _ hK;simp only[hl,hl0];exact List.length_pos_iff.2 hr0
    ·gi_wp2
     refine bodyPost_ret (results_none rfl _ _ _) rfl ?_
     exact⟨⟨_,rfl⟩,.inr hKx⟩
   |true=>
    have hidx:Lib.indexByte r 10=((r.takeWhile (· != 10)).length:Int):=by rw[y3d,ha];rfl
    obtain⟨l1,l2⟩:=yrq ha;obtain⟨hk,_,_⟩:=ykl ha;generalize (r.takeWhile (· != 10)).length=k at hidx l1 l2 hk;have hw1:IntKind.i64.wrap ((k:Int)+1)=((k+1:Nat):Int):=by rw[show((k:Int)+1)=((k+1:Nat):Int) by omega];exact wrk (by omega)
    have hy:=hY r wr.drew hr0 (hg _ _ _ hK (Grow.drawn wr _));rw[l1,l2]at hy;obtain⟨fn,tmps,assign,body,hy,hR⟩:=hy
    have ex1:ByteArray.extract ⟨r.toArray⟩ 0 (k+1)=⟨(r.take (k+1)).toArray⟩:=by
     apply ByteArray.ext;simp[ByteArray.data_extract]
    have ex2:ByteArray.extract ⟨r.toArray⟩ (k+1) r.length=⟨(r.drop (k+1)).toArray⟩:=by
     apply ByteArray.ext;simp[ByteArray.data_extract];rw[List.take_of_length_le (by simp)]
    rw[show wr.drew.setCell ⟨Bs,0,none⟩ (.string ⟨(r.drop (k+1)).toArray⟩)=(wr.setCell ⟨Bs,0,none⟩ (.string ⟨(r.drop (k+1)).toArray⟩)).drew from rfl]at hy hR
    gi_wp2_with (refine⟨trivial,(λh=>by cases h),?_⟩;gi_at_call 99;refine(ynz _ r hidx _).mono ?_;rintro e w2 ⟨rfl,rfl⟩)
    gi_region_o
    gi_wp2
    refine⟨(λh=>by cases h),hR.mono ?_⟩
    rintro e W3 (⟨rfl,hK3⟩|⟨rfl,hKx⟩)
    ·gi_wp2
     go_roundw
     case rel=>exact⟨_,hK3,by rw[List.length_drop];omega⟩
     case measure=>
      have hl:=hK1 _ _ hK3;have hl0:=hK1 _ _ hK;simp only[hl,hl0];rw[List.length_drop];omega
    ·gi_wp2
     refine bodyPost_ret (results_none rfl _ _ _) rfl ?_;exact⟨⟨_,rfl⟩,.inr hKx⟩
theorem ysj:zhs prog 98:=⟨λ_ _=>call98 _ _,λn l Bs K Kx s W hc hg hY hs h0=>ytg n l Bs K Kx s W hc hg hY hs h0⟩
end Go.Proofs.YthphaiccgnkobaaGreatDoor
namespace Go.Proofs.YthphaiccgnkobaaGreatDoor
open Go Go.RowKit Go.Shelf Go.Proofs
open Go.Ab (B8)
open Go.Ab (Qaf)
open Go.Proofs.Tryz
set_option linter.unusedVariables false
set_option maxRecDepth 100000
theorem ytm(b:Nat)(w:World)(h0:w.cell? ⟨b,0,none⟩=some (.pointer (some ⟨b,0,none⟩))) :
  Calls prog 122 #[.pointer (some ⟨b,0,none⟩)] w λe w'=>e = .returned (.tuple #[])∧w'=w:=by
 obtain⟨j,hj,_⟩:=Qaf.1 z3x.sizeBuilder
 go_enter func122,ntmps122
 go_wp2
 rw[Lib.run_neq_ptr_same w _ underlying108 hj]
 go_wp2
 go_end0
 exact⟨rfl,rfl⟩
theorem yp7(b:Nat)(w:World)(h0:w.cell? ⟨b,0,none⟩=some (.pointer none))(hsh:w.shape? b=some (111,2))(hfz:w.frozen? ⟨b,0,none⟩=false) :
  Calls prog 122 #[.pointer (some ⟨b,0,none⟩)] w λe w'=>e = .returned (.tuple #[])∧w'=w.setCell ⟨b,0,none⟩ (.pointer (some ⟨b,0,none⟩)):=by
 obtain⟨j,hj,hjs⟩:=Qaf.1 z3x.sizeBuilder
 go_enter func122,ntmps122
 go_wp2
 rw[Lib.run_to_unsafe w ⟨b,0,none⟩ underlying108 underlying209 hj (by rw[hjs];decide) hsh (Nat.zero_lt_succ 1)];simp only[Result.andThen];rw[Oper.upon_value]
 go_wp2
 rw[run_callFunc_extern func179 (by kernel_rfl) (by kernel_rfl) (by kernel_rfl) (e:=Extern.AbiNoEscape.same) (by kernel_rfl)];rw[Lib.run_noEscape];simp only[Result.andThen];rw[Oper.upon_value]
 go_wp2
 rw[Lib.run_from_unsafe w ⟨b,0,none⟩ underlying209 underlying108 hj hsh z3x.liesBuilder];simp only[Result.andThen];rw[Oper.upon_value]
 go_wp2
 go_end0
 exact⟨rfl,rfl⟩
theorem yot(b g cap:Nat)(p:Value)(l:B8)(cur:Array Value)(w:World)(h0:l≠[])(hbk:w.heap[b]? = some (.cells #[p,.slice (some ⟨g,0,none⟩) l.length cap] 111 (0,0)))(hg:w.heap[g]? = some (.cells cur 5 (0,0)))(hlcap:l.length<=cap)(hlc:l.length<=cur.size)(hmax:l.length<=9223372036854775807)
  (hc:∀(j:Nat) (x:UInt8),l[j]? = some x->w.cell? ⟨g,j,none⟩=some (.int .u8 x.toNat)) :
  Calls prog 66 #[.pointer (some ⟨b,0,none⟩)] w λe w'=>e = .returned (.string ⟨l.toArray⟩)∧w'=w.drew.freeze ⟨g,0,none⟩ l.length:=by
 have hl0:l.length≠0:=by simpa using h0
 have c1:w.drew.cell? ⟨b,1,none⟩=some (.slice (some ⟨g,0,none⟩) l.length cap):=by
  have:w.drew.heap[b]? = some (.cells #[p,.slice (some ⟨g,0,none⟩) l.length cap] 111 (0,0)):=hbk;rw[Lib.cell_of_heap this];rfl
 have hSD:(Builtin.unsafeSliceData_ #[109] 163 #[.slice (some ⟨g,0,none⟩) l.length cap]).run prog w.drew = .ok (.pointer (some ⟨g,0,none⟩)) w.drew :=
  Lib.run_unsafeSliceData_row _ _ _ _ _ _ (by omega)
 have hUS:(Builtin.unsafeString_ #[163,3] 9 #[.pointer (some ⟨g,0,none⟩),.int .i64 l.length]).run prog w.drew = .ok (.string ⟨l.toArray⟩) (w.drew.freeze ⟨g,0,none⟩ l.length):=by
  refine Lib.run_unsafeString_row w.drew 163 3 9 5 underlying163 z3x.cellsByte g cur.size (by have hg':w.drew.heap[g]? = some (.cells cur 5 (0,0)):=hg;simp[World.shape?,hg']) l h0 hlc hmax ?_;intro j x hx;have:=hc j x hx;have hadd:(⟨g,0,none⟩:Addr).add j=⟨g,j,none⟩:=by unfold Addr.add;split <;> simp_all
  rw[hadd];exact this
 go_enter func66,ntmps66
 go_wp2
 go_region
 all_goals (go_wp2;go_ret;exact⟨rfl,rfl⟩)
end Go.Proofs.YthphaiccgnkobaaGreatDoor
namespace Go.Proofs.YthphaiccgnkobaaGreatDoor
open Go Go.Ab Go.RowKit Go.Proofs
open Go.Proofs.Tryz
set_option linter.unusedVariables false
set_option linter.unusedSimpArgs false
theorem yan{W:World}{g:Gh}{H:Heap}{u:V}{cs:Array Value}(h:zjv W g H [u] cs):∃x,cs = #[x]∧Rel W g H u x:=by
 obtain⟨h1,h2⟩:=h;have hsz:cs.toList.length=1:=by simpa using h1
 obtain⟨c,hc⟩:=List.length_eq_one_iff.1 hsz;have hc':cs = #[c]:=by rw[<-Array.toList_inj,hc]
 subst hc';exact⟨c,rfl,by simpa using h2 0 _ rfl⟩
theorem yrg{W:World}{g:Gh}{H:Heap}{lv i:Nat}{a c:V}(hG:Go.Ab.Good W g H)(hg:H.get lv i=some (.arr 0 111 2 [.agg [a,c]] (some 1))) :
  g.cap lv i=1∧∃p v,W.heap[g.ab lv i]? = some (.cells #[p,v] 111 (0,0))∧Rel W g H a p∧Rel W g H c v∧p.oneCell'=true∧v.oneCell'=true:=by
 obtain⟨cc,k1,k2,k3,k3',k4,k5,k6,k7,k8⟩:=hG.obj _ _ _ hg;have hcap:=k5 1 rfl;rw[hcap]at k3;obtain⟨l⟩:=cc
 match l,k3 with
 |[p,v],_=>
  refine⟨hcap,p,v,k1,k8 0 _ 0 a rfl rfl,k8 0 _ 1 c rfl rfl,k7 0 _ 0 a rfl rfl,k7 0 _ 1 c rfl rfl⟩
 |[],h=>simp at h
 |[_],h=>simp at h
 |_::_::_::_,h=>simp at h
theorem y2u{α:Type}{L:List α}{i:Nat}{x:α}(h:L[i]? = some x):L.set i x=L:=by
 refine List.ext_getElem? λj =>?_
 rw[Qbg];split;rename_i e;subst e;split;exact h.symm;rename_i hn;exact(hn (Qaa.1 h).1).elim;rfl
theorem ywo{lv i:Nat}{L:List (Option kze)}{E:Nat->Nat->Option kze}{a c:V}(hL:L[i]? = some (some (.arr 0 111 2 [.agg [a,c]] (some 1))))(ha:a = .nilp∨a = .ap lv i 0 0 0) :
  zn5 prog 122 [.ap lv i 0 0 0] ⟨lv,L,E⟩ λo H'=>o = .ret (.tup [])∧H'=⟨lv,L.set i (some (.arr 0 111 2 [.agg [.ap lv i 0 0 0,c]] (some 1))),E⟩:=by
 intro W g cargs hG hR;have hg:(⟨lv,L,E⟩:Heap).get lv i=some (.arr 0 111 2 [.agg [a,c]] (some 1)):=by simp[Heap.get,hL]
 obtain⟨x,rfl,h0⟩:=yan hR;obtain⟨hcap,p,v,k1,k2,k3,k4,k5⟩:=yrg hG hg;refine⟨call122 _ _,?_⟩
 cases h0 with
 |ap _ _ _ _ _ ad hd hv hadr=>
  have had:ad=⟨g.ab lv i,0,none⟩:=hadr _ _ _ _ hg;subst had
  rcases ha with rfl|rfl
  cases k2;refine(yp7 (g.ab lv i) W (by rw[Lib.cell_of_heap k1];rfl) (by simp[World.shape?,k1]) (by simp[World.frozen?,k1])).mono ?_
  rintro e W' ⟨rfl,rfl⟩
  have hh:(W.setCell ⟨g.ab lv i,0,none⟩ (.pointer (some ⟨g.ab lv i,0,none⟩))).heap[g.ab lv i]? = some (.cells #[.pointer (some ⟨g.ab lv i,0,none⟩),v] 111 (0,0)):=by simp[World.setCell,Qca,k1]
  obtain⟨q1,q2⟩:=ze3 (W':=W.setCell ⟨g.ab lv i,0,none⟩ (.pointer (some ⟨g.ab lv i,0,none⟩))) hG (o':=.arr 0 111 2 [.agg [.ap lv i 0 0 0,c]] (some 1)) hg rfl rfl rfl rfl (by simp[World.setCell]) (λb hb1 hb2=>Below.heap_setCell _ _ _ _ λe=>hb2 e)
   (λver ty sz xs cp he=>by injection he with e1 e2 e3 e4 e5;subst e1;subst e2;subst e3;subst e4;exact⟨_,_,_,rfl,Qbs _,λ_=>Qbs _⟩) (λhst=>by
   refine ymc (c := #[.pointer (some ⟨g.ab lv i,0,none⟩),v]) hcap hh (by decide) rfl ⟨rfl,λj u hj =>?_,λj u hj =>?_⟩
   match j,hj with
   |0,_=>rfl
   |1,_=>exact k5
   |j+2,hj=>simp[V.cells]at hj
   match j,hj with
   |0,hj=>
    simp only[V.cells,Qby,Qbq]at hj;subst hj
    exact .ap lv i 0 0 0 _ hd (λ_ _ _ _ _ _=>Qbr _) λty sz xs cp h=>by simp
   |1,hj=>
    simp only[V.cells,List.getElem?_cons_succ,Qby,Qbq]at hj;subst hj
    exact k3.mono hst
   |j+2,hj=>simp[V.cells]at hj)
  refine⟨.ret (.tup []),_,g,⟨rfl,rfl⟩,?_,?_,_,rfl,.tup [] #[] rfl (by simp)⟩;have:=q1;simp only[Heap.set,Qbt]at this;exact this;have:=q2;simp only[Heap.set,Qbt]at this;exact this
  have hp:p = .pointer (some ⟨g.ab lv i,0,none⟩):=by
   cases k2 with
   |ap _ _ _ _ _ ad hd hv hadr=>rw[hadr _ _ _ _ hg]
  subst hp;refine(ytm (g.ab lv i) W (by rw[Lib.cell_of_heap k1];rfl)).mono ?_
  rintro e W' ⟨rfl,rfl⟩
  rw[y2u hL];exact⟨.ret (.tup []),_,g,⟨rfl,rfl⟩,.refl _ _ _,hG,_,rfl,.tup [] #[] rfl (by simp)⟩
theorem yyp{lv i:Nat}{L:List (Option kze)}{E:Nat->Nat->Option kze}{a c:V}{s:B8}(hL:L[i]? = some (some (.arr 0 111 2 [.agg [a,c]] (some 1))))
  (hb:(c = .nils∧s=[])∨∃j ver ws cp,c = .hs lv j ver 0 ws.length false∧L[j]? = some (some (.arr ver 5 1 ws cp))∧zk5 ws=some s) :
  zn5 prog 66 [.ap lv i 0 0 0] ⟨lv,L,E⟩ λo H'=>o = .ret (.str s)∧∃L',H'=⟨lv,L',E⟩∧L'.length=L.length∧∀k,(∀j ver n,c = .hs lv j ver 0 n false->k≠j)->L'[k]? = L[k]? := by
 intro W g cargs hG hR;have hg:(⟨lv,L,E⟩:Heap).get lv i=some (.arr 0 111 2 [.agg [a,c]] (some 1)):=by simp[Heap.get,hL]
 obtain⟨x,rfl,h0⟩:=yan hR;obtain⟨hcap,p,v,k1,k2,k3,k4,k5⟩:=yrg hG hg;refine⟨call66 _ _,?_⟩
 have below:∀{W':World},Below W.heap.size W W'->s=[]->∀(e:Ending),e = .returned (.string ⟨#[]⟩) ->
   ∃o H' g',(o=Out.ret (.str s)∧∃L',H'=⟨lv,L',E⟩∧L'.length=L.length∧∀k,(∀j ver n,c = .hs lv j ver 0 n false->k≠j)->L'[k]? = L[k]?)∧Step W g ⟨lv,L,E⟩ W' g' H'∧Go.Ab.Good W' g' H'∧yrr W' g' H' o e:=λ{W'} hB hs e he=>by
  subst he;subst hs;have hgr:Grow W W':=⟨hB.os,hB.tape,hB.output,hB.size,hB.block⟩;exact⟨.ret (.str []),⟨lv,L,E⟩,g,⟨rfl,L,rfl,rfl,λ_ _=>rfl⟩,hgr.step,hG.grow hgr,_,rfl,.str []⟩
 cases h0 with
 |ap _ _ _ _ _ ad hd hv hadr=>
  have had:ad=⟨g.ab lv i,0,none⟩:=hadr _ _ _ _ hg;subst had
  rcases hb with ⟨rfl,hs⟩|⟨j,ver,ws,cp,rfl,hj,hbs⟩
  cases k3;refine(Any.Builder_String_nil yh5 z3x W.heap.size (g.ab lv i) p W k1).mono ?_
  rintro e W' ⟨he,hB⟩
  exact below hB hs e he;have hgj:(⟨lv,L,E⟩:Heap).get lv j=some (.arr ver 5 1 ws cp):=by simp[Heap.get,hj]
  obtain⟨b1,b2⟩:=znr hbs;obtain⟨cc,m1,m2,m3,m3',m4,m5,m6,m7,m8⟩:=hG.obj _ _ _ hgj
  cases k3 with
  |hs _ _ _ _ _ _ ad m cap hd' hv' ha'=>
   obtain⟨rfl,rfl,⟨c1,c2,_⟩,c3⟩:=ha' _ _ _ _ hgj;by_cases hs:s=[];have hw0:ws.length=0:=by rw[<-b1,hs];rfl
   rw[hw0]at k1;by_cases hc0:cap=0;subst hc0;refine(Any.Builder_String_noroom yh5 z3x W.heap.size (g.ab lv i) (g.ab lv j) p cc W (Qbs _) k1 m1).mono ?_
   rintro e W' ⟨he,hB⟩
   exact below hB hs e he;refine(Any.Builder_String_room yh5 z3x W.heap.size (g.ab lv i) (g.ab lv j) cap p W hc0 k1).mono ?_
   rintro e W' ⟨he,hB⟩
   exact below hB hs e he;have hsz:s.length<=cc.size:=by rw[m3];omega
   refine(yot (g.ab lv i) (g.ab lv j) cap p s cc W hs (by rw[b1];exact k1) m1 (by rw[b1];exact c1) hsz (by unfold maxLen at m3';omega) λq x hq =>?_).mono ?_;have hq':=b2 q x hq;have hrel:=m8 q _ 0 _ hq' rfl;rw[Lib.cell_of_heap m1];have hql:q<cc.size:=Qbh (Qaa.1 hq).1 hsz;rw[Nat.mul_one,Nat.add_zero,Qae,Qas hql]at hrel
   rw[Qas hql];simp only[Option.getD_some]at hrel;generalize cc[q]=z at hrel;cases hrel;rfl
   rintro e W' ⟨rfl,rfl⟩
   obtain⟨g1,g2,g3,g4⟩:=yg8 hG hgj
   have hfz:∀k,k≠g.ab lv j->(W.drew.freeze ⟨g.ab lv j,0,none⟩ s.length).heap[k]? = W.heap[k]? := λk hk=>by
    unfold World.freeze;split;rfl;simp only[Qca];rw[Qbu (λe=>hk e.symm)];rfl
   have hsize:(W.drew.freeze ⟨g.ab lv j,0,none⟩ s.length).heap.size=W.heap.size:=by
    unfold World.freeze;split;rfl;exact Array.size_modify ..
   have hos:(W.drew.freeze ⟨g.ab lv j,0,none⟩ s.length).os=W.os∧(W.drew.freeze ⟨g.ab lv j,0,none⟩ s.length).tape=W.tape∧(W.drew.freeze ⟨g.ab lv j,0,none⟩ s.length).output=W.output:=by unfold World.freeze;split <;> exact⟨rfl,rfl,rfl⟩
   have hob:Go.Ab.Own g ⟨lv,L,E⟩ (g.ab lv j):=⟨_,_,_,hgj,rfl⟩
   have hst:Step W g ⟨lv,L,E⟩ (W.drew.freeze ⟨g.ab lv j,0,none⟩ s.length) g ((⟨lv,L,E⟩:Heap).zx2 j) :=
    ⟨hos.1,hos.2.1,hos.2.2,Nat.le_of_eq hsize.symm,λb hb hno=>hfz b (λe=>hno (by rw[e];exact hob)),g2.own,g2.dom,g2.new,g2.blk,g2.arr,g2.lv,g2.base⟩
   have hst2:∀l k o,((⟨lv,L,E⟩:Heap).zx2 j).get l k=some o->o.blk g l k≠g.ab lv j:=λl k o ho e=>by
    obtain⟨q1,q2⟩:=Heap.zcp ho;exact q2 (hG.inj _ _ _ _ _ _ q1 hgj e)
   refine⟨.ret (.str s),(⟨lv,L,E⟩:Heap).zx2 j,g,⟨rfl,L.set j none,rfl,by simp,λk hk =>?_⟩,hst,⟨g1.dom,λl k o ho=>by rw[hsize];exact g1.lt l k o ho,g1.inj,g1.fresh,λl k o ho =>?_,hG.zn6.step hst,(by show g.base<=_;rw[hsize];exact hG.base)⟩,_,rfl,.str s⟩;rw[Qam (λe=>hk j ver ws.length rfl e.symm)];have ho':=hG.obj l k o (Heap.zcp ho).1
   exact ho'.mono hst (hfz _ (hst2 l k o ho)) rfl rfl rfl
set_option maxRecDepth 100000
def z2e:Nat->List Int->Option (List Int):=λ_ xs=>some xs
noncomputable def z3a:FI dat :=
 {R:=List Int,ent:=λn=>{f:=122,p:=1,args:=[.bp 0],aos:=[.bld 111 1,.acc 5 (.int .u8) true],outs:=[],ros:=[.bld 111 1,.acc 5 (.int .u8) true],pan:=.nilp,pos:=[.bld 111 1,.acc 5 (.int .u8) true],pure:=false,go:=λx k _=>(z2e n x.1).bind λr=>k (r,())},
   c:=.skip,K:=⟨λ_=>none,[],λ_=>none,λ_ _=>none⟩,p:=0,args:=[],aos:=[],nt:=0,z0m:=λ_=>[],go:=λ_ _=>none}
def z1i:Nat->List Int->Option B8:=λ_ xs=>yia xs
noncomputable def z2a:FI dat :=
 {R:=B8,ent:=λn=>{f:=66,p:=0,args:=[.bp 0],aos:=[.bld 111 1,.acc 5 (.int .u8) true],outs:=[.d .str],ros:=[],pan:=.nilp,pos:=[],pure:=false,go:=λx k _=>(z1i n x.1).bind λr=>k (r,())},
   c:=.skip,K:=⟨λ_=>none,[],λ_=>none,λ_ _=>none⟩,p:=0,args:=[],aos:=[],nt:=0,z0m:=λ_=>[],go:=λ_ _=>none}
theorem yvi{lv L ρ0 vargs}{xs:List Int}(k1:ρ0.length=2)(k2:VRL dat ρ0 lv [TV.bp 0 0] vargs)
  (k3:∀j o,(j,o)∈[((0:Nat),(TO.bld 111 (some 1):TO dat.T)),(1,.acc 5 (.int .u8) xs true)]->∃sl,ρ0[j]? = some sl∧OR dat ρ0 lv L sl o) :
  ∃s0 s1 i a c,ρ0=[s0,s1]∧vargs=[.ap lv i 0 0 0]∧s0.k=some i∧L[i]? = some (some (.arr 0 111 2 [.agg [a,c]] (some 1)))∧(a = .nilp∨a = .ap lv i 0 0 0)∧VR dat ρ0 lv (.own 1) c∧OR dat ρ0 lv L s1 (.acc 5 (.int .u8) xs true):=by
 obtain⟨s0,s1,rfl⟩:∃s0 s1,ρ0=[s0,s1]:=by
  match ρ0,k1 with
  |[a,b],_=>exact⟨a,b,rfl⟩
 obtain⟨v,r,rfl,⟨sl,i,e1,e2,rfl⟩,rfl⟩:=k2;obtain rfl:s0=sl:=by simpa using e1
 obtain⟨sl,e4,e5⟩:=k3 0 (.bld 111 (some 1)) (by simp);obtain rfl:s0=sl:=by simpa using e4
 obtain⟨i',a,c,q1,q2,q3,q4⟩:=e5;rw[e2]at q1;cases q1;obtain⟨sl,e6,e7⟩:=k3 1 (.acc 5 (.int .u8) xs true) (by simp);obtain rfl:s1=sl:=by simpa using e6
 exact⟨s0,s1,i,a,c,rfl,rfl,e2,q2,q3,q4,e7⟩
theorem z7y:FOk prog z3a:=λn R x k kp r h=>by
 refine .inl ⟨(x.1,()),h,λlv L E ρ0 vargs k1 k2 k3 k4 _ =>?_⟩;obtain⟨s0,s1,i,a,c,rfl,rfl,e2,q2,q3,q4,e7⟩:=yvi (xs:=x.1) k1 k2 k3;have hlt:=(Qaa.1 q2).1
 refine(ywo (E:=E) q2 q3).mono λo H' ⟨h1,h2⟩=>⟨_,[s0,s1],h2,⟨rfl,λj o hm =>?_,k4.1,λs sl i' r hk=>.inr ⟨s,sl,r,hk⟩,λi' hi' hno =>?_,λj sl _ h=>h,λs sl i' r hk=>⟨(k4.2 s sl i' r hk).1,?_⟩⟩,⟨(λq hq=>by cases hq),.nil⟩,[],h1,(by simp[VRL]:VRL dat [s0,s1] lv [] [])⟩
 have hm:(j,o)∈[((0:Nat),(TO.bld 111 (some 1):TO dat.T)),(1,.acc 5 (.int .u8) x.1 true)]:=hm;simp[Qbv]at hm
 rcases hm with ⟨rfl,rfl⟩|⟨rfl,rfl⟩
 refine⟨s0,rfl,?_⟩;simp only[OR];exact⟨i,.ap lv i 0 0 0,c,e2,by simp[hlt],.inr rfl,q4⟩;refine⟨s1,rfl,?_⟩
 have:=e7.mono (L':=L.set i (some (.arr 0 111 2 [.agg [.ap lv i 0 0 0,c]] (some 1)))) [] λi' hi' _=>by
  rw[Qam];intro e;subst e;have:=k4.1 0 1 s0 s1 i rfl rfl (.inl e2) hi';cases this
 simpa using this;exact⟨by simpa using hi',Qam λe=>hno 0 s0 rfl (.inl (by rw[e2,e]))⟩;obtain⟨_,b,hb⟩:=k4.2 s sl i' r hk;by_cases e:i=i'
 grind
 grind
theorem z56:FOk prog z2a:=λn R x k kp r h=>by
 obtain⟨s,hs,h⟩:=Qbz.1 h;have hs:yia x.1=some s:=hs;refine .inl ⟨(s,()),h,λlv L E ρ0 vargs k1 k2 k3 k4 _ =>?_⟩;obtain⟨s0,s1,i,a,c,rfl,rfl,e2,q2,q3,q4,e7⟩:=yvi (xs:=x.1) k1 k2 k3;obtain⟨sl,d1,d2,d3⟩:=q4;obtain rfl:s1=sl:=by simpa using d1
 subst d2;obtain⟨p1,p2,p3⟩:=e7
 have hb:(s1.v = .nils∧s=[])∨∃j ver ws cp,s1.v = .hs lv j ver 0 ws.length false∧L[j]? = some (some (.arr ver 5 1 ws cp))∧zk5 ws=some s∧s1.k=some j:=by
  have hbv:zk5 s1.ws=some s:=by rw[y4t x.1 s1.ws p1 p2,hs]
  cases hk:s1.k with
  |none=>
   rw[hk]at p3
   rcases p3 with ⟨w1,w2⟩|⟨⟨_,w2⟩,_⟩
   simp_all[zk5]
   grind
  |some j=>
   rw[hk]at p3;obtain⟨ver,cp,w1,w2⟩:=p3;exact .inr ⟨j,ver,s1.ws,cp,w1,w2,hbv,rfl⟩
 refine(yyp (E:=E) (s:=s) q2 (hb.imp id λ⟨j,ver,ws,cp,w1,w2,w3,_⟩=>⟨j,ver,ws,cp,w1,w2,w3⟩)).mono λo H' ⟨h1,L',h2,h3,h4⟩=>⟨L',[],h2,⟨rfl,λj o hm=>(by cases hm),λ_ _ _ _ _ h=>(by simp at h),λ_ _ _ h=>(by simp at h),λi' hi' hno=>⟨by rw[h3];exact hi',h4 i' λj ver n hv e =>?_⟩,λ_ _ h=>(Nat.not_lt_zero _ h).elim,λ_ _ _ h=>(by simp at h)⟩,⟨(λq hq=>by cases hq),.nil⟩,[.str s],h1,?_⟩
 rcases hb with ⟨w1,_⟩|⟨j',ver',ws,cp,w1,_,_,w4⟩
 grind
 rw[w1]at hv;cases hv;exact hno 1 s1 rfl (.inl (by rw[w4,e]));show VRL dat [] lv [TV.str s] [.str s];simp only[VRL,VR]
 grind
def kzx:Nat->B8->Option (List B8):=λ_ s=>if s.length<4294967281∧s.all (λb=>decide (b.toNat<128))=true then some (Lib.fields s)else none
def y5e:LSh:=⟨[(2,(.d (.sl .str)))],[],0,106,[]⟩
noncomputable def z30:FI dat:=FI.of dat 126 106 0 [(.d .str)] [] [(.d (.sl .str))] [] true y5e (R:=List B8) (λx=>x.1) (λr=>(r,())) (λn x=>kzx n x.1)
 (λn=>[]) .skip
theorem yt0(s)(hl:s.length<4294967281)(ha:s.all (λb=>decide (b.toNat<128))=true):zno prog 126 [.str s] (.sl 1 ((Lib.fields s).map V.str) false):=λH W g cargs hG hA=>by
 obtain⟨x,rfl,h0⟩:=yan hA;cases h0
 have htab:Lib.TabIs prog W "strings.asciiSpace" .u8 Lib.asciiSpaceTab:=by
  obtain⟨_,ty,q,hq⟩:=hG.zn6.1 0 gl0 rfl;unfold Lib.TabIs World.var?;rw[show prog.globalNamed "strings.asciiSpace" = some 0 by kernel_rfl];simp[hq];rfl
 refine .inl ⟨call126 _ _,(Any.strings_Fields yyy (by kernel_rfl) (by kernel_rfl) ⟨s.toArray⟩ W hl (λj b hb =>?_) htab).mono λe W' ⟨h1,h2⟩ =>?_⟩;rw[Qat]at ha
 grind
 subst h1;subst h2;have hg:Grow W (W.alloc (.cells ((Lib.fields s).map λl=>Value.string ⟨l.toArray⟩).toArray 9)):=Grow.alloc W _;refine⟨_,g,rfl,hg.step,hG.grow hg,?_⟩;have hno:¬Go.Ab.Own g H W.heap.size:=λ⟨l,i,o,h,he⟩=>by have:=hG.lt l i o h;omega
 have hcell:∀(j:Nat) (l:B8),(Lib.fields s)[j]? = some l->(W.alloc (.cells ((Lib.fields s).map λl=>Value.string ⟨l.toArray⟩).toArray 9)).cell? ⟨W.heap.size,j,none⟩=some (.string ⟨l.toArray⟩):=λj l hj=>by
  simp_all
 have key:∀(j:Nat) (y:V),((Lib.fields s).map V.str)[j]? = some y->∃l,(Lib.fields s)[j]? = some l∧y = .str l:=λj y hj=>by
  rw[Qan,Qaf]at hj
  grind
 have:=Rel.sl (W:=W.alloc (.cells ((Lib.fields s).map λl=>Value.string ⟨l.toArray⟩).toArray 9)) (g:=g) (H:=H) 1 ((Lib.fields s).map V.str) false W.heap.size 0 (Lib.fields s).length (λj _=>.string ⟨((Lib.fields s)[j]?.getD []).toArray⟩) hno (by decide) (by simp) (by simp)
  (λj y hj=>by obtain⟨l,_,rfl⟩:=key j y hj;rfl)
  (λj y t v hj ht=>by
   obtain⟨l,hl',rfl⟩:=key j y hj
   grind[V.cells])
  (λj y t v hj ht=>rfl)
  (λj y t v hj ht=>by
   obtain⟨l,hl',rfl⟩:=key j y hj
   cases t with
   |succ t=>simp[V.cells]at ht
   |zero=>
    simp[Qbq]at ht;subst ht;rw[hl']
    exact .str l)
 have h9:=by simpa using this
 exact h9
theorem za9:FOk prog z30:=λn R x k kp r h=>by
 obtain⟨y,hy,h⟩:=Qbz.1 (show(kzx n x.1).bind (λr=>k (r,()))=some r from h);unfold kzx at hy;split at hy;rename_i hc;cases hy;refine⟨(_,()),h,rfl,rfl,rfl,λlv vargs ha=>⟨[.sl 1 ((Lib.fields x.1).map V.str) false],λρ lv' =>?_,?_⟩⟩;show VRL dat ρ lv' [TV.sl .str (Lib.fields x.1) 0] _;simp only[VRL,VR];exact⟨_,_,rfl,⟨DR.elsl .str _ λz=>.str z,by omega,by omega⟩,rfl⟩
 have ha:VRL dat [] lv [TV.str x.1] vargs:=ha;simp[VR]at ha;obtain⟨v,r1,rfl,rfl,rfl⟩:=ha;exact yt0 _ hc.1 hc.2;cases hy
def z6x:Nat->Int->Int->Option B8:=λ_ n b=>if b=10 ∧ -9223372036854775808<=n∧n<=9223372036854775807 then some (Lib.itoa n)else none
def zwv:LSh:=⟨[(4,(.d .str))],[],0,8,[]⟩
noncomputable def zkn:FI dat:=FI.of dat 277 8 0 [(.d (.int .i64)),(.d (.int .i64))] [] [(.d .str)] [] true zwv (R:=B8) (λx=>x.1) (λr=>(r,())) (λn x=>z6x n x.1 x.2.1)
 (λn=>[]) .skip
theorem z019(n)(h0 : -9223372036854775808<=n)(h1:n<=9223372036854775807):zno prog 277 [.int .i64 n,.int .i64 10] (.str (Lib.itoa n)):=λH W g cargs hG hA=>by
 obtain⟨x,y,rfl,e0,e1⟩:=ymi hA;cases e0;cases e1
 have htab:Lib.TabIs prog W "internal/strconv.uint64pow10" .u64 Lib.pow10Tab:=by
  obtain⟨_,ty,q,hq⟩:=hG.zn6.1 5 gl5 rfl;unfold Lib.TabIs World.var?;rw[show prog.globalNamed "internal/strconv.uint64pow10" = some 5 by kernel_rfl];simp[hq];rfl
 have c:=Any.strconv_FormatInt_10 {ywr with} n h0 h1 W htab;refine .inl ⟨call277 _ _,c.mono λe W' ⟨h1,k,os,h2⟩ =>?_⟩;subst h1;subst h2
 have hg:Grow W (Sort.grow (W.drewN k) os):=⟨rfl,rfl,rfl,by simp_all,λb hb=>by
  show(W.heap++os)[b]? = _
  grind⟩
 exact⟨_,g,rfl,hg.step,hG.grow hg,.str _⟩
theorem zuh:FOk prog zkn:=λn R x k kp r h=>by
 obtain⟨y,hy,h⟩:=Qbz.1 (show(z6x n x.1 x.2.1).bind (λr=>k (r,()))=some r from h);unfold z6x at hy;split at hy;rename_i hc;cases hy;refine⟨(_,()),h,rfl,rfl,rfl,λlv vargs ha=>⟨[.str (Lib.itoa x.1)],λρ lv' =>?_,?_⟩⟩;show VRL dat ρ lv' [TV.str (Lib.itoa x.1)] _;simp only[VRL,VR]
 grind
 have ha:VRL dat [] lv [TV.int .i64 x.1,TV.int .i64 x.2.1] vargs:=ha;simp[VR]at ha;obtain⟨v,r1,rfl,rfl,v2,r2,rfl,rfl,rfl⟩:=ha;rw[hc.1];exact z019 _ hc.2.1 hc.2.2;cases hy
def z9h:Nat->B8->Int->Option Int:=λ_ s c=>some (Lib.indexByte s c.toNat.toUInt8)
def zhv:LSh:=⟨[(4,(.d (.int .i64)))],[],0,8,[]⟩
noncomputable def zac:FI dat:=FI.of dat 154 8 0 [(.d .str),(.d (.int .u8))] [] [(.d (.int .i64))] [] true zhv (R:=Int) (λx=>x.1) (λr=>(r,())) (λn x=>z9h n x.1 x.2.1)
 (λn=>[]) .skip
theorem z01e(s)(c):zno prog 154 [.str s,.int .u8 c] (.int .i64 (Lib.indexByte s c.toNat.toUInt8)):=λH W g cargs hG hA=>by
 obtain⟨x,y,rfl,h0,h1⟩:=ymi hA;cases h0;cases h1;have c:=Any.stringslite_IndexByte {yyj with} ⟨s.toArray⟩ c W;refine .inl ⟨call154 _ _,c.mono λe W' ⟨h1,h2⟩ =>?_⟩;subst h1;subst h2;exact⟨_,g,rfl,.refl _ _ _,hG,.int _ _⟩
theorem zgv:FOk prog zac:=λn R x k kp r h=>by
 refine⟨(Lib.indexByte x.1 x.2.1.toNat.toUInt8,()),h,rfl,rfl,rfl,λlv vargs ha=>⟨[.int .i64 (Lib.indexByte x.1 x.2.1.toNat.toUInt8)],λρ lv' =>?_,?_⟩⟩;show VRL dat ρ lv' [TV.int .i64 (Lib.indexByte x.1 x.2.1.toNat.toUInt8)] _;simp only[VRL,VR]
 grind
 obtain⟨v,r1,rfl,rfl,v2,r2,rfl,rfl,rfl⟩:=ha;exact z01e _ _
def z1t:Nat->B8->B8->Option Int:=λ_ s t=>match t with
 |[c]=>some (Lib.indexByte s c)
 |_=>none
def zkc:LSh:=⟨[(4,(.d (.int .i64)))],[],0,143,[]⟩
noncomputable def z81:FI dat:=FI.of dat 199 143 0 [(.d .str),(.d .str)] [] [(.d (.int .i64))] [] true zkc (R:=Int) (λx=>x.1) (λr=>(r,())) (λn x=>z1t n x.1 x.2.1)
 (λn=>[]) .skip
theorem z01m(s)(c):zno prog 199 [.str s,.str [c]] (.int .i64 (Lib.indexByte s c)):=λH W g cargs hG hA=>by
 obtain⟨x,y,rfl,h0,h1⟩:=ymi hA;cases h0;cases h1;have c:=Any.stringslite_Index_one {z00b with} ⟨s.toArray⟩ c W;refine .inl ⟨call199 _ _,c.mono λe W' ⟨h1,h2⟩ =>?_⟩;subst h1;subst h2;exact⟨_,g,rfl,.refl _ _ _,hG,.int _ _⟩
theorem zc0:FOk prog z81:=λn R x k kp r h=>by
 obtain⟨s,t,u⟩:=x;obtain⟨y,hy,h⟩:=Qbz.1 (show(z1t n s t).bind (λr=>k (r,()))=some r from h)
 match t,hy with
 |[c],hy=>
  refine⟨(_,()),h,rfl,rfl,rfl,λlv vargs ha=>⟨[.int .i64 (Lib.indexByte s c)],λρ lv' =>?_,?_⟩⟩;show VRL dat ρ lv' [TV.int .i64 (Lib.indexByte s c)] _;simp only[VRL,VR]
  grind
  obtain⟨v,r1,rfl,rfl,v2,r2,rfl,rfl,rfl⟩:=ha;exact z01m _ _
def zg4:Nat->Int->Option B8:=λ_ n=>if -9223372036854775808<=n∧n<=9223372036854775807 then some (Lib.itoa n)else none
def ycd:LSh:=⟨[(2,(.d .str))],[],0,5,[]⟩
noncomputable def zuf:FI dat:=FI.of dat 63 5 0 [(.d (.int .i64))] [] [(.d .str)] [] true ycd (R:=B8) (λx=>x.1) (λr=>(r,())) (λn x=>zg4 n x.1)
 (λn=>[]) .skip
theorem yyz(n)(h0 : -9223372036854775808<=n)(h1:n<=9223372036854775807):zno prog 63 [.int .i64 n] (.str (Lib.itoa n)):=λH W g cargs hG hA=>by
 obtain⟨x,rfl,e0⟩:=yan hA;cases e0
 have htab:Lib.TabIs prog W "internal/strconv.uint64pow10" .u64 Lib.pow10Tab:=by
  obtain⟨_,ty,q,hq⟩:=hG.zn6.1 5 gl5 rfl;unfold Lib.TabIs World.var?;rw[show prog.globalNamed "internal/strconv.uint64pow10" = some 5 by kernel_rfl];simp[hq];rfl
 have c:=Any.strconv_Itoa {yxw with} n h0 h1 W htab;refine .inl ⟨call63 _ _,c.mono λe W' ⟨h1,k,os,h2⟩ =>?_⟩;subst h1;subst h2
 have hg:Grow W (Sort.grow (W.drewN k) os):=⟨rfl,rfl,rfl,by simp_all,λb hb=>by
  show(W.heap++os)[b]? = _
  grind⟩
 exact⟨_,g,rfl,hg.step,hG.grow hg,.str _⟩
theorem y7d:FOk prog zuf:=λn R x k kp r h=>by
 obtain⟨y,hy,h⟩:=Qbz.1 (show(zg4 n x.1).bind (λr=>k (r,()))=some r from h);unfold zg4 at hy;split at hy;rename_i hc;cases hy;refine⟨(_,()),h,rfl,rfl,rfl,λlv vargs ha=>⟨[.str (Lib.itoa x.1)],λρ lv' =>?_,?_⟩⟩;show VRL dat ρ lv' [TV.str (Lib.itoa x.1)] _;simp only[VRL,VR]
 grind
 have ha:VRL dat [] lv [TV.int .i64 x.1] vargs:=ha;simp[VR]at ha;obtain⟨v,r1,rfl,rfl,rfl⟩:=ha;exact yyz _ hc.1 hc.2;cases hy
def zze:Nat->List B8->Option (List B8):=λ_ xs=>if xs.length<4611686018427387904 then some (yky xs)else none
noncomputable def z0l:FI dat:=yp1 dat 46 9 zze
theorem z83:FOk prog z0l:=by
 have e:zze=λ_ xs=>if xs.length<4611686018427387904 then some (z27 xs)else none:=by grind[zze,ybt]
 unfold z0l;rw[e];exact yye (λ_ _=>call46 _ _) (λblk cap ss w h1 h2 h3=>Any.slices_Sort_string yrw blk 0 cap ss w h1 h2 h3) (λp cap w=>Any.slices_Sort_string_none yrw p cap w)
def z4y:Nat->List B8->Option (List B8):=λ_ xs=>if xs.length<=9223372036854775807 then some (zru xs)else none
noncomputable def zbe:FI dat:=y51 dat 47 9 z4y
theorem zi8:FOk prog zbe :=
 ypc (λ_ _=>call47 _ _) (λblk cap zs w h1 h2 h3=>Any.slices_Compact_string yrv blk 0 cap zs w h1 h2 h3) (λp cap w=>Any.slices_Compact_string_empty yrv p cap w)
def zf0:Nat->B8->B8->Option (List B8):=λ_ s t=>if t=[32]∧s.length<=1048576 then some (parts 32 s)else none
def y71:LSh:=⟨[(4,(.d (.sl .str)))],[],0,8,[]⟩
noncomputable def zt4:FI dat:=FI.of dat 102 8 0 [(.d .str),(.d .str)] [] [(.d (.sl .str))] [] true y71 (R:=List B8) (λx=>x.1) (λr=>(r,())) (λn x=>zf0 n x.1 x.2.1)
 (λn=>[]) .skip
theorem y2s(b):∀(k) (s),s.countP (· == b)=k->Lib.splitK [b] 0 k s=parts b s
 |0,s,h=>by
  have ha:s.any (· == b)=false:=by
   grind
  rw[parts_eq,yx6 ha];rfl
 |k+1,s,h=>by
  have ha:s.any (· == b)=true:=by
   grind[List.countP_pos_iff]
  obtain⟨c1,c2,c3⟩:=ykl ha;have hi:Lib.index s [b]=((s.takeWhile (· != b)).length:Int):=by rw[Lib.index_one,y3d,Qbt ha]
  have hn:¬(Lib.index s [b] == -1)=true:=λe=>by grind
  have hc:(cutAt b s).2.2=true:=ha;have hlen:=congrArg List.length (parts_eq b s);rw[Qbt hc,zp0,List.length_cons,zp0]at hlen;rw[Lib.splitK,Qbu hn,hi,Int.toNat_natCast,parts_eq,Qbt hc]
  congr 1
  rw[List.length_singleton,c3];exact y2s b k _ (by grind[cutAt])
theorem yl0(s)(w)(hs:s.size<4294967281):Calls prog 102 #[.string s,.string ⟨#[32]⟩] w λe w'=>
  ∃l:List ByteArray,l.map (·.data.toList)=parts 32 s.data.toList∧e = .returned (.slice (some ⟨w.heap.size,0,none⟩) l.length l.length)∧w'=w.alloc (.cells (l.map Value.string).toArray 9):=by
 have h1:1<=(⟨#[32]⟩:ByteArray).size:=by decide
 have hlen:=Lib.splitB_all ⟨#[32]⟩ h1 0 _ s rfl
 have c:=Any.strings_genSplit_core (ρ:=y6e) {yik with} (by kernel_rfl) s ⟨#[32]⟩ 0 (-1) (Lib.countB s ⟨#[32]⟩+1) w hs h1 (Qbr _)
  (λx c hx=>(Any.strings_Index_one {yik with} x 32 _).mono λe w' ⟨a1,a2⟩=>⟨by rw[a1];exact congrArg (λz=>Ending.returned (Value.int .i64 z)) (Lib.index_one _ _).symm,a2⟩)
  ((Any.strings_Count_one {yik with} s 32 w).mono λe w' ⟨a1,a2⟩=>⟨by
    rw[a1];show _=Ending.returned (Value.int .i64 ((Lib.count s.data.toList [32]:Nat):Int))
    rw[Lib.count_one];rfl,a2⟩) (by decide) (by decide) (by rw[Qbt (by decide)];have:=Lib.countB_le ⟨#[32]⟩ h1 s.size s (Qbs _);omega)
 have e2:Lib.cellsOf (Lib.splitB ⟨#[32]⟩ 0 (Lib.countB s ⟨#[32]⟩) s) (Lib.countB s ⟨#[32]⟩+1)=((Lib.splitB ⟨#[32]⟩ 0 (Lib.countB s ⟨#[32]⟩) s).map Value.string).toArray:=by rw[<-hlen];exact Lib.cellsOf_full _
 have hp:(Lib.splitB ⟨#[32]⟩ 0 (Lib.countB s ⟨#[32]⟩) s).map (·.data.toList)=parts 32 s.data.toList:=by
  rw[Lib.splitB_data];refine y2s 32 _ _ ?_;show _=Lib.count s.data.toList [32];rw[Lib.count_one];rfl
 go_enter func102,ntmps102
 go_wp2_with (go_at_call 157;refine c.mono ?_;rintro e w' ⟨rfl,hw⟩;rw[hw])
 go_ret
 refine⟨_,hp,?_,rfl⟩;rw[hlen];rfl
theorem yyv{W g H}(hG:Go.Ab.Good W g H)(xs:List B8)(hx:xs.length<=1073741824) :
  Rel (W.alloc (.cells (xs.map λl=>Value.string ⟨l.toArray⟩).toArray 9)) g H (.sl 1 (xs.map V.str) false) (.slice (some ⟨W.heap.size,0,none⟩) xs.length xs.length):=by
 have hno:¬Go.Ab.Own g H W.heap.size:=λ⟨l,i,o,h,he⟩=>by have:=hG.lt l i o h;omega
 have hcell:∀(j:Nat) (l:B8),xs[j]? = some l->(W.alloc (.cells (xs.map λl=>Value.string ⟨l.toArray⟩).toArray 9)).cell? ⟨W.heap.size,j,none⟩=some (.string ⟨l.toArray⟩):=λj l hj=>by
  simp_all
 have key:∀(j:Nat) (y:V),(xs.map V.str)[j]? = some y->∃l,xs[j]? = some l∧y = .str l:=λj y hj=>by
  rw[Qan,Qaf]at hj
  grind
 have:=Rel.sl (W:=W.alloc (.cells (xs.map λl=>Value.string ⟨l.toArray⟩).toArray 9)) (g:=g) (H:=H) 1 (xs.map V.str) false W.heap.size 0 xs.length (λj _=>.string ⟨(xs[j]?.getD []).toArray⟩) hno (by decide) (by simp) (by simp)
  (λj y hj=>by obtain⟨l,_,rfl⟩:=key j y hj;rfl)
  (λj y t v hj ht=>by
   obtain⟨l,hl',rfl⟩:=key j y hj
   grind[V.cells])
  (λj y t v hj ht=>rfl)
  (λj y t v hj ht=>by
   obtain⟨l,hl',rfl⟩:=key j y hj
   cases t with
   |succ t=>simp[V.cells]at ht
   |zero=>
    simp[Qbq]at ht;subst ht;rw[hl']
    exact .str l)
 simpa using this
theorem mk_data(s):(⟨s.toArray⟩:ByteArray).data.toList=s:=rfl
theorem yv4(s)(hs:s.length<=1048576):zno prog 102 [.str s,.str [32]] (.sl 1 ((parts 32 s).map V.str) false):=λH W g cargs hG hA=>by
 obtain⟨a,b,rfl,h0,h1⟩:=ymi hA;cases h0;cases h1
 have hlen:(parts 32 s).length<=1048577:=by
  grind[zp0]
 refine .inl ⟨call102 _ _,(yl0 ⟨s.toArray⟩ W (by simp only[ByteArray.size];simp;omega)).mono ?_⟩
 rintro e W' ⟨l,hl,rfl,rfl⟩
 have hlm:l.map Value.string=(parts 32 s).map λz=>Value.string ⟨z.toArray⟩:=by
  grind[List.map_congr_left]
 have hll:l.length=(parts 32 s).length:=by grind
 rw[hlm,hll];have hg:Grow W (W.alloc (.cells ((parts 32 s).map λl=>Value.string ⟨l.toArray⟩).toArray 9)):=Grow.alloc W _;exact⟨_,g,rfl,hg.step,hG.grow hg,yyv hG _ (by omega)⟩
theorem y4b:FOk prog zt4:=λn R x k kp r h=>by
 obtain⟨y,hy,h⟩:=Qbz.1 (show(zf0 n x.1 x.2.1).bind (λr=>k (r,()))=some r from h);unfold zf0 at hy;split at hy;rename_i hc;cases hy;refine⟨(_,()),h,rfl,rfl,rfl,λlv vargs ha=>⟨[.sl 1 ((parts 32 x.1).map V.str) false],λρ lv' =>?_,?_⟩⟩;show VRL dat ρ lv' [TV.sl .str (parts 32 x.1) 0] _;simp only[VRL,VR];exact⟨_,_,rfl,⟨DR.elsl .str _ λz=>.str z,by omega,by omega⟩,rfl⟩
 have ha:VRL dat [] lv [TV.str x.1,TV.str x.2.1] vargs:=ha;simp[VR]at ha;obtain⟨v,r1,rfl,rfl,v2,r2,rfl,rfl,rfl⟩:=ha;rw[hc.1];exact yv4 _ hc.2;cases hy
theorem yoj(l)(bk o c)(w)(hcells:∀(j:Nat) x,l[j]? = some x->w.cell? ⟨bk,o+j,none⟩=some (.string x))(hN:l.length<=1048576)(hcap:l.length<=c)
  (hlen:(Lib.join (l.map (·.data.toList)) [32]).length<=16777216) (h0:l=[]∨bk<w.heap.size) :
  Calls prog 60 #[.slice (some ⟨bk,o,none⟩) l.length c,.string ⟨#[32]⟩] w λe w'=>e = .returned (.string ⟨(Lib.join (l.map (·.data.toList)) [32]).toArray⟩)∧RowKit.Below w.heap.size w w':=by
 rcases h0 with rfl|hbk
 exact(Any.strings_Join_none yh0 zh2 _ c ⟨#[32]⟩ w).mono λe w' ⟨he,hw⟩=>⟨he,hw▸RowKit.Below.refl _ _⟩
 exact Any.strings_Join yh0 zh2 bk o c l ⟨#[32]⟩ w hcells hbk (by omega) hcap (by grind)
theorem join_none(a)(c)(w):Calls prog 60 #[.slice a 0 c,.string ⟨#[32]⟩] w λe w'=>e = .returned (.string ⟨([]:B8).toArray⟩)∧w'=w :=
 (Any.strings_Join_none yh0 zh2 a c ⟨#[32]⟩ w).mono λe w' ⟨he,hw⟩=>⟨he,hw⟩
def zga:Nat->List B8->B8->Option B8:=λ_ xs t=>if t=[32]∧xs.length<=1048576∧(Lib.join xs [32]).length<=16777216 then some (Lib.join xs [32])else none
noncomputable def zu7:FI dat :=
 {R:=B8,ent:=λn=>{f:=60,p:=0,args:=[.d (.sl .str),.d .str],aos:=[],outs:=[.d .str],ros:=[],pan:=.nilp,pos:=[],pure:=true,go:=λx k _=>(zga n x.1 x.2.1).bind λr=>k (r,())},
   c:=.skip,K:=⟨λ_=>none,[],λ_=>none,λ_ _=>none⟩,p:=0,args:=[],aos:=[],nt:=0,z0m:=λ_=>[],go:=λ_ _=>none}
theorem z003(xs)(hb1:xs.length<=1048576)(hb2:(Lib.join xs [32]).length<=16777216){v}(hv:DR dat (.sl .str) xs v):zno prog 60 [v,.str [32]] (.str (Lib.join xs [32])):=λH W g cargs hG hR=>by
 obtain⟨x,y,rfl,h0,h1⟩:=ymi hR;cases h1;refine .inl ⟨call60 _ _,?_⟩
 have nil:∀a c,xs=[]->Calls prog 60 #[.slice a 0 c,.string ⟨#[32]⟩] W λe W'=>∃c g',e = .returned c∧Step W g H W' g' H∧Go.Ab.Good W' g' H∧Rel W' g' H (.str (Lib.join xs [32])) c:=λa c he=>(join_none a c W).mono λe w' ⟨he',hw⟩=>by
  subst he;subst hw;exact⟨_,g,he',.refl _ _ _,hG,.str _⟩
 cases hv with
 |nil=>cases h0;exact nil none 0 rfl
 |sl _ _ ws full hl hd=>
  have hws:ws=xs.map V.str:=by
   refine List.ext_getElem? λj =>?_
   rw[Qan]
   cases hj:xs[j]? with
   |none=>have:=List.getElem?_eq_none_iff.1 hj;simp only[Option.map_none];exact List.getElem?_eq_none (by rw[hl];exact this)
   |some z=>
    have hlt:=(Qaa.1 hj).1;obtain⟨w,hw⟩:∃w,ws[j]? = some w:=⟨_,Qab (by rw[hl];exact hlt)⟩;have:=hd j z w hj hw;rw[hw];cases this;rfl
  subst hws;generalize hxs:xs.map V.str=ys at h0
  cases h0 with
  |slnil=>grind
  |sle _ _ a cap hf=>grind
  |sl _ _ _ b o cap c hb' hz hcap hf hs hc ho1 hr=>
   subst hxs
   have hcell:∀(j:Nat) (s:B8),xs[j]? = some s->W.cell? ⟨b,o+j,none⟩=some (.string ⟨s.toArray⟩):=λj s hj=>by
    have e1:(xs.map V.str)[j]? = some (.str s):=by grind
    have e2:=hc j (.str s) 0 (.str s) e1 rfl;have e3:=hr j (.str s) 0 (.str s) e1 rfl;have e2:W.cell? ⟨b,o+j * 1+0,none⟩=some (c j 0):=e2;rw[Nat.mul_one,Nat.add_zero]at e2;rw[e2];cases hz:c j 0 <;> rw[hz]at e3 <;> cases e3
    rfl
   have hlm:(xs.map λs=>(⟨s.toArray⟩:ByteArray)).map (·.data.toList)=xs:=by rw[List.map_map];exact(List.map_congr_left λs _=>mk_data s).trans (List.map_id _)
   have:=yoj (xs.map λs=>⟨s.toArray⟩) b o cap W (λj x hj=>by
    rw[Qan,Qaf]at hj;obtain⟨s,hs,rfl⟩:=hj
    exact hcell j s hs) (by simpa using hb1) (by simpa using hcap) (by rw[hlm];exact hb2) (by
    cases xs with
    |nil=>exact .inl rfl
    |cons s t=>exact .inr (y2i (hcell 0 s rfl)))
   rw[hlm,Qbc]at this;rw[Qbc];refine this.mono ?_
   rintro e W' ⟨rfl,hB⟩
   have hg:Grow W W':=⟨hB.os,hB.tape,hB.output,hB.size,hB.block⟩;exact⟨_,g,rfl,hg.step,hG.grow hg,.str _⟩
theorem y7n:FOk prog zu7:=λn R x k kp r h=>by
 obtain⟨xs,t,u⟩:=x;obtain⟨y,hy,h⟩:=Qbz.1 (show(zga n xs t).bind (λr=>k (r,()))=some r from h);unfold zga at hy;split at hy
 case isFalse=>cases hy
 rename_i hb;obtain⟨rfl,hb1,hb2⟩:=hb;cases hy;refine⟨(_,()),h,rfl,rfl,rfl,λlv vargs ha=>⟨[.str (Lib.join xs [32])],λρ lv' =>?_,?_⟩⟩;show VRL dat ρ lv' [TV.str (Lib.join xs [32])] _;simp only[VRL,VR]
 grind
 obtain⟨v,r1,rfl,⟨hv,_,_⟩,v2,r2,rfl,rfl,rfl⟩:=ha;exact z003 xs hb1 hb2 hv
theorem y57{f:Nat}{vargs H rv}(hent:∀args w,(callFunc f args).run prog w = .ok (.enter f args) w)
  (h:∀W g cargs,Go.Ab.Good W g H->zjv W g H vargs cargs->Calls prog f cargs W λe W'=>Grow W W'∧∃c,e = .returned c∧Rel W' g H rv c):zn5 prog f vargs H λo H'=>o = .ret rv∧H'=H:=λW g cargs hG hA=>
 ⟨hent _ _,(h W g cargs hG hA).mono λe W' ⟨hg,c,he,hr⟩=>⟨.ret rv,H,g,⟨rfl,rfl⟩,hg.step,hG.grow hg,c,he,hr⟩⟩
theorem y0u{lv L}:Go.Ab.Left dat lv L [] 0 L [] [] () :=
 ⟨rfl,λ_ _ h=>(by cases h),λ_ _ _ _ _ h=>(by simp at h),λ_ _ _ h=>(by simp at h),λi hi _=>⟨hi,rfl⟩,λ_ _ h=>(Nat.not_lt_zero _ h).elim,λ_ _ _ h=>(by simp at h)⟩
def zf5:Nat->B8->Option B8
 |0,_=>none
 |n+1,a0=>some a0
def y7y:LSh:=⟨[(2,(.fn 98 [] [.ptr 0 0]))],[.cells [.d .str]],0,4,[]⟩
noncomputable def zcs:FI dat:=FI.of dat 42 4 0 [(.d .str)] [] [(.fn 98 [] [.ptr 0 0])] [.cells [.d .str]] false y7y (R:=B8) (λx=>x.1) (λr=>(r,())) (λn x=>zf5 n x.1)
 (λn=>[]) (ann [] (f42.body.getD .skip) 0).1
theorem y84:(zcs).Good prog dat (tb []):=FI.z1c (hD:=kza _) func42 ntmps42 call42 (by kernel_rfl) (Qac (by kernel_rfl)) (by kernel_rfl) (λn=>by kernel_rfl) (λx=>by kernel_rfl) (λ_=>rfl) trivial
 (λn=>λx=>(zf5.eq_2 x.1 n).trans (by kernel_rfl))
 (λn=>trivial)
 (λx=>.inr (by kernel_rfl))
theorem y7r:OkL prog [zcs]:=zpi (kza _) (bs:=[]) trivial y84
theorem y5c:FOk prog zcs:=y7r.1
def zg5:Nat->B8->Option (Res (Int×Unit) Int):=λ_ s=>if s.length<=1000000 then some (match Lib.atoiAll s with
 |.ok v=>.ok v
 |.range=>.pan (Lib.atoiSat s,())
 |_=>.pan (0,()))else none
noncomputable def zuy:FI dat :=
 {R:=Res (Int×Unit) Int,ent:=λn=>{f:=103,p:=0,args:=[.d .str],aos:=[],outs:=[.d (.int .i64),.nili],ros:=[],pan:=.tup [.d (.int .i64),.iface 233 .any],pos:=[],pure:=false,go:=λx k kp=>(zg5 n x.1).bind λo=>zlx o (λr=>k (r,())) λy=>kp y},
   c:=.skip,K:=⟨λ_=>none,[],λ_=>none,λ_ _=>none⟩,p:=0,args:=[],aos:=[],nt:=0,z0m:=λ_=>[],go:=λ_ _=>none}
theorem ykr(W)(ty:Nat)(t):Below W.heap.size W (Lib.bytesWorld W ty t):=⟨rfl,rfl,rfl,by rw[Lib.bytesWorld_size];omega,λj hj=>Lib.bytesWorld_at_old W ty t j hj⟩
theorem yxg{W g H}(hG:Go.Ab.Good W g H){k}(hk:gle k=true):∃v,W.cell? ⟨k,0,none⟩=some v∧(v = .nilIface∨∃te pe,v = .iface te pe):=by
 obtain⟨_,v,ty,q,h1,h2⟩:=hG.zn6.2 k hk;exact⟨v,by rw[Lib.cell_of_heap h1];rfl,h2⟩
theorem yw2(s)(hs:s.length<=1000000)(H):zn5 prog 103 [.str s] H λo H'=>H'=H∧match Lib.atoiAll s with
  |.ok v=>o = .ret (.tup [.int .i64 v,.nili])
  |.range=>o = .ret (.tup [.int .i64 (Lib.atoiSat s),.iface 233 .any])
  |_=>o = .ret (.tup [.int .i64 0,.iface 233 .any]):=by
 have hz:(⟨s.toArray⟩:ByteArray).size<=281474976710656:=by show s.toArray.size<=_;simp;omega
 have tup2:∀{W:World}{g:Gh}{a b:V}{x y:Value},Rel W g H a x->Rel W g H b y->Rel W g H (.tup [a,b]) (.tuple #[x,y]):=λ{W g a b x y} h1 h2=>.tup _ _ rfl λj v hj=>by
  match j,hj with
  |0,hj=>simp_all
  |1,hj=>simp_all
  |j+2,hj=>simp at hj
 cases h:Lib.atoiAll s
 case ok v=>
  refine(y57 (rv:=.tup [.int .i64 v,.nili]) (λ_ _=>call103 _ _) λW g cargs hG hA =>?_).mono λo H' ⟨a,b⟩=>⟨b,a⟩
  obtain⟨x,rfl,h0⟩:=yan hA;cases h0;refine(Any.strconv_Atoi_ok yas ⟨s.toArray⟩ (by omega) v h W).mono λe W' ⟨h1,h2⟩ =>?_
  have hB:Below W.heap.size W W':=by
   rcases h2 with rfl|⟨t,rfl⟩
   exact .refl _ _;exact ykr _ _ _
  exact⟨⟨hB.os,hB.tape,hB.output,hB.size,hB.block⟩,_,h1,tup2 (.int _ _) .nili⟩
 case range=>
  refine(y57 (rv:=.tup [.int .i64 (Lib.atoiSat s),.iface 233 .any]) (λ_ _=>call103 _ _) λW g cargs hG hA =>?_).mono λo H' ⟨a,b⟩=>⟨b,a⟩
  obtain⟨x,rfl,h0⟩:=yan hA;cases h0;obtain⟨ev,hv,hev⟩:=yxg hG (k:=4) rfl;refine(Any.strconv_Atoi_range yas ⟨s.toArray⟩ hz h ev W hv hev).mono λe W' ⟨N,h1,_,_,hB⟩ =>?_
  exact⟨⟨hB.os,hB.tape,hB.output,hB.size,hB.block⟩,_,h1,tup2 (.int _ _) (.iface _ _ _ (.any _))⟩
 refine(y57 (rv:=.tup [.int .i64 0,.iface 233 .any]) (λ_ _=>call103 _ _) λW g cargs hG hA =>?_).mono λo H' ⟨a,b⟩=>⟨b,a⟩
 obtain⟨x,rfl,h0⟩:=yan hA;cases h0;obtain⟨ev,hv,hev⟩:=yxg hG (k:=3) rfl;refine(Any.strconv_Atoi_syntax yas ⟨s.toArray⟩ hz h ev W hv hev).mono λe W' ⟨N,h1,_,_,hB⟩ =>?_
 exact⟨⟨hB.os,hB.tape,hB.output,hB.size,hB.block⟩,_,h1,tup2 (.int _ _) (.iface _ _ _ (.any _))⟩
theorem y6k:FOk prog zuy:=λn R x k kp r h=>by
 obtain⟨o,ho,h⟩:=Qbz.1 (show(zg5 n x.1).bind (λo=>zlx o (λr=>k (r,())) λy=>kp y)=some r from h);unfold zg5 at ho;split at ho
 case isFalse=>cases ho
 rename_i hs;injection ho with ho;have hr:=λH=>yw2 x.1 hs H
 cases ha:Lib.atoiAll x.1
 case ok v=>
  rw[ha]at ho hr;subst ho;refine .inl ⟨(v,()),h,λlv L E ρ0 vargs k1 k2 k3 k4 _ =>?_⟩;obtain rfl:ρ0=[]:=Qao k1;have k2:VRL dat [] lv [TV.str x.1] vargs:=k2;simp[VR]at k2;obtain⟨v',r1,rfl,rfl,rfl⟩:=k2;refine(hr ⟨lv,L,E⟩).mono λo H' ⟨e1,e2⟩=>⟨L,[],e1,y0u,⟨(λq hq=>by cases hq),.nil⟩,[.int .i64 v,.nili],e2,?_⟩
  show VRL dat [] lv [TV.int .i64 v,TV.nili] _;simp only[VRL,VR]
  grind
 case range=>
  rw[ha]at ho hr;subst ho;refine .inr ⟨(Lib.atoiSat x.1,()),h,λlv L E ρ0 vargs k1 k2 k3 k4 _ =>?_⟩;obtain rfl:ρ0=[]:=Qao k1;have k2:VRL dat [] lv [TV.str x.1] vargs:=k2;simp[VR]at k2;obtain⟨v',r1,rfl,rfl,rfl⟩:=k2;refine(hr ⟨lv,L,E⟩).mono λo H' ⟨e1,e2⟩=>⟨L,[],e1,y0u,_,e2,?_⟩
  show VR dat [] lv (.tup [TV.int .i64 (Lib.atoiSat x.1),TV.iface 233 .any]) _;simp only[VR,VRL];exact⟨_,rfl,_,_,rfl,rfl,_,_,rfl,⟨_,rfl,trivial⟩,rfl⟩
 rw[ha]at ho hr;subst ho;refine .inr ⟨((0:Int),()),h,λlv L E ρ0 vargs k1 k2 k3 k4 _ =>?_⟩;obtain rfl:ρ0=[]:=Qao k1;obtain⟨v',r1,rfl,rfl,rfl⟩:=k2;refine(hr ⟨lv,L,E⟩).mono λo H' ⟨e1,e2⟩=>⟨L,[],e1,y0u,_,e2,?_⟩
 exact⟨_,rfl,_,_,rfl,rfl,_,_,rfl,⟨_,rfl,trivial⟩,rfl⟩
end Go.Proofs.YthphaiccgnkobaaGreatDoor
namespace Go.Proofs.YthphaiccgnkobaaGreatDoor
open Go Go.Ab
open Go.Proofs.Tryz
set_option linter.unusedVariables false
set_option maxRecDepth 100000
set_option maxHeartbeats 4000000
def yo7:Nat->B8->Ot yz1
 |0,_=>none
 |n+1,a=>
  some (yz1.mk 2 (yz0.mk 0 (zz4.mk 0 0) false [] []) a [])
def zss:Nat->Int->Ot yz1
 |0,_=>none
 |n+1,a=>
  some (yz1.mk 1 (yz0.mk 1 (zz4.mk a 1) false [] []) [] [])
def zx8:Nat->Option yz1
 |0=>none
 |n+1=>
  some (yz1.mk 1 (yz0.mk 2 (zz4.mk 0 0) true [] []) [] [])
def yhp:Nat->kz3->Ot kz0
 |0,_=>none
 |n+1,a=>
  (zss n 1).bind λy0=>
  (zx8 n).bind λy1=>
  some (kz0.mk [(kzi.mk [107] y0.re)] [(zz6.mk [97] [[110]] [(kz5.mk 1 y1.re [a])])])
def z9n:Nat->kz3->Ot Bool
 |0,_=>none
 |n+1,a=>
  some (decide ((a.items.length:Int)>10))
def y9i:LSh:=⟨[(2,dB)],[],0,7,[]⟩
noncomputable def zvv:FI dat:=FI.of dat 87 7 0 [dT 8] [] [dB] [] true y9i (R:=Bool) Prod.fst (·,()) (λn=>u1 (z9n n))
 (λn=>[]) (anb [] f87)
theorem y6n:FOk prog zvv:=okF (bs:=[]) trivial func87 ntmps87 call87
 (λn=>λ_=>tr (z9n.eq_2 _ n))
 (λn=>trivial)
mutual
def yzh:Nat->zd2->Ot Int
 |0,_=>none
 |n+1,a=>
  kz9 n 0 a (a.length:Int)
def kz9:Nat->Int->zd2->Int->Ot Int
 |0,_,_,_=>none
 |n+1,a,b,c=>
  pIf (decide (a<c))
   ((ix b a).bind λx0=>
   (z9n n x0).bind λy1=>
   pIf y1
    (some a)
    (kz9 n (IntKind.i64.wrap (a+1)) b c))
   (some (-1))
end
def zd9:LSh:=⟨[(4,dI)],[],0,19,[]⟩
noncomputable def z5e:FI dat:=FI.of dat 147 19 0 [dL 8,(.fn 87 [] [])] [] [dI] [] true zd9 (R:=Int) Prod.fst (·,()) (λn=>u1 (yzh n))
 (λn=>[(0,⟨⟨[(8,dI),(0,dL 8),(1,(.fn 87 [] [])),(7,dI)],[],0,19,[]⟩,u3 (kz9 n)⟩)]) (anb [(6,0)] f147)
theorem zcq:FOk prog z5e:=okF (bs:=[zvv]) ⟨y6n,trivial⟩ func147 ntmps147 call147
 (λ_ _=>tr (yzh.eq_2 ..))
 (λn=>⟨λ_=>tr (kz9.eq_2 ..),
  trivial⟩)
def zza:Nat->zd2->Ot Bool
 |0,_=>none
 |n+1,a=>
  (yzh n a).bind λy0=>
  some (decide (y0>=0))
def zbq:LSh:=⟨[(4,dB)],[],0,9,[]⟩
noncomputable def z3d:FI dat:=FI.of dat 86 9 0 [dL 8,(.fn 87 [] [])] [] [dB] [] true zbq (R:=Bool) Prod.fst (·,()) (λn=>u1 (zza n))
 (λn=>[]) (anb [] f86)
theorem zbf:FOk prog z3d:=okF (bs:=[z5e]) ⟨zcq,trivial⟩ func86 ntmps86 call86
 (λ_ _=>tr (zza.eq_2 ..))
 (λn=>trivial)
mutual
def zd1:Nat->kz0->Ot Bool
 |0,_=>none
 |n+1,a=>
  pIf (decide ((a.attrs.length:Int)>20))
   (z62 n true a)
   (z62 n (decide ((a.rules.length:Int)>40)) a)
def z62:Nat->Bool->kz0->Ot Bool
 |0,_,_=>none
 |n+1,a,b=>
  pIf a
   (some true)
   (z34 n 0 b.rules (b.rules.length:Int))
def z34:Nat->Int->zzm->Int->Ot Bool
 |0,_,_,_=>none
 |n+1,a,b,c=>
  pIf (decide (a<c))
   ((ix b a).bind λx0=>
   pIf (decide ((x0.params.length:Int)>4))
    (z5p n b c a true x0)
    (z5p n b c a (decide ((x0.cases.length:Int)>6)) x0))
   (some false)
def z5p:Nat->zzm->Int->Int->Bool->zz6->Ot Bool
 |0,_,_,_,_,_=>none
 |n+1,a,b,c,d,e=>
  pIf d
   (some true)
   (z2u n 0 e.cases a b c (e.cases.length:Int))
def z2u:Nat->Int->z6n->zzm->Int->Int->Int->Ot Bool
 |0,_,_,_,_,_,_=>none
 |n+1,a,b,c,d,e,f=>
  pIf (decide (a<f))
   ((ix b a).bind λx1=>
   pIf (decide ((x1.do_.length:Int)>10))
    (z5r n b c d e f a true)
    ((zza n x1.do_).bind λy2=>
    z5r n b c d e f a y2))
   (z34 n (IntKind.i64.wrap (e+1)) c d)
def z5r:Nat->z6n->zzm->Int->Int->Int->Int->Bool->Ot Bool
 |0,_,_,_,_,_,_,_=>none
 |n+1,a,b,c,d,e,f,g=>
  pIf g
   (some true)
   (z2u n (IntKind.i64.wrap (f+1)) a b c d e)
end
def yk9:LSh:=⟨[(2,dB)],[],0,52,[]⟩
noncomputable def y3a:FI dat:=FI.of dat 32 52 0 [dT 11] [] [dB] [] true yk9 (R:=Bool) Prod.fst (·,()) (λn=>u1 (zd1 n))
 (λn=>[(0,⟨⟨[(1,(.ptr 0 0)),(16,dB)],[(.st 11)],0,52,[]⟩,u2 (z62 n)⟩),(1,⟨⟨[(20,dI),(18,dL 10),(19,dI)],[],0,52,[]⟩,u3 (z34 n)⟩),(2,⟨⟨[(18,dL 10),(19,dI),(20,dI),(4,(.ptr 0 0)),(33,dB)],[(.st 10)],0,52,[]⟩,u5 (z5p n)⟩),(3,⟨⟨[(37,dI),(35,dL 9),(18,dL 10),(19,dI),(20,dI),(36,dI)],[],0,52,[]⟩,u6 (z2u n)⟩),(4,⟨⟨[(35,dL 9),(18,dL 10),(19,dI),(20,dI),(36,dI),(37,dI),(49,dB)],[],0,52,[]⟩,u7 (z5r n)⟩)]) (anb [(5,0),(14,1),(28,2),(36,3),(49,4)] f32)
theorem yf8:FOk prog y3a:=okF (bs:=[z3d]) ⟨zbf,trivial⟩ func32 ntmps32 call32
 (λ_ _=>tr (zd1.eq_2 ..))
 (λn=>⟨λ_=>tr (z62.eq_2 ..),
  λ_=>tr (z34.eq_2 ..),
  λ_=>tr (z5p.eq_2 ..),
  λ_=>tr (z2u.eq_2 ..),
  λ_=>tr (z5r.eq_2 ..),
  trivial⟩)
mutual
def zap:Nat->B8->Ot Bool
 |0,_=>none
 |n+1,a=>
  pIf ((a.length:Int)==0)
   (z8v n a true)
   (z8v n a (decide ((a.length:Int)>40)))
def z8v:Nat->B8->Bool->Ot Bool
 |0,_,_=>none
 |n+1,a,b=>
  pIf b
   (some false)
   (z0a n a 0)
def z0a:Nat->B8->Nat->Ot Bool
 |0,_,_=>none
 |n+1,a,b=>
  pIf (decide (b<a.length))
   (pIf (decide (((zcn a b).1:Int)>=97))
     (z65 n ((zcn a b).1:Int) (b:Int) (decide (((zcn a b).1:Int)<=122)) a (b+(zcn a b).2))
     (z65 n ((zcn a b).1:Int) (b:Int) false a (b+(zcn a b).2)))
   (some true)
def z65:Nat->Int->Int->Bool->B8->Nat->Ot Bool
 |0,_,_,_,_,_=>none
 |n+1,a,b,c,d,e=>
  pIf (!c)
   (pIf (b==0)
     (yzv n true d e)
     (pIf (a != 45)
       (pIf (decide (a<48))
         (yzv n true d e)
         (yzv n (decide (a>57)) d e))
       (yzv n false d e)))
   (yzv n false d e)
def yzv:Nat->Bool->B8->Nat->Ot Bool
 |0,_,_,_=>none
 |n+1,a,b,c=>
  pIf a
   (some false)
   (z0a n b c)
end
def yhy:LSh:=⟨[(2,dB)],[],0,44,[]⟩
noncomputable def zs8:FI dat:=FI.of dat 148 44 0 [dS] [] [dB] [] true yhy (R:=Bool) Prod.fst (·,()) (λn=>u1 (zap n))
 (λn=>[(0,⟨⟨[(0,dS),(13,dB)],[],0,44,[]⟩,u2 (z8v n)⟩),(1,⟨⟨[(15,(.ptr 0 0))],[.siter],0,44,[]⟩,u2 (z0a n)⟩),(2,⟨⟨[(15,(.ptr 0 0)),(4,(.d (.int .i32))),(3,dI),(5,dB)],[.siter],0,44,[]⟩,u5 (z65 n)⟩),(3,⟨⟨[(15,(.ptr 0 0)),(43,dB)],[.siter],0,44,[]⟩,u3 (yzv n)⟩)]) (anb [(5,0),(14,1),(26,2),(28,3)] f148)
theorem zxu:FOk prog zs8:=okF (bs:=[]) trivial func148 ntmps148 call148
 (λ_ _=>tr (zap.eq_2 ..))
 (λn=>⟨λ_=>tr (z8v.eq_2 ..),
  λ_=>tr (z0a.eq_2 ..),
  λ_=>tr (z65.eq_2 ..),
  λ_=>tr (yzv.eq_2 ..),
  trivial⟩)
mutual
def kz8:Nat->(List B8)->B8->Ot Int
 |0,_,_=>none
 |n+1,a,b=>
  kzb n 0 a b (a.length:Int)
def kzb:Nat->Int->(List B8)->B8->Int->Ot Int
 |0,_,_,_,_=>none
 |n+1,a,b,c,d=>
  pIf (decide (a<d))
   ((ix b a).bind λx0=>
   pIf (c==x0)
    (some a)
    (kzb n (IntKind.i64.wrap (a+1)) b c d))
   (some (-1))
end
def zkg:LSh:=⟨[(4,dI)],[],0,19,[]⟩
noncomputable def zzq:FI dat:=FI.of dat 35 19 0 [dA,dS] [] [dI] [] true zkg (R:=Int) Prod.fst (·,()) (λn=>u2 (kz8 n))
 (λn=>[(0,⟨⟨[(8,dI),(0,dA),(1,dS),(7,dI)],[],0,19,[]⟩,u4 (kzb n)⟩)]) (anb [(6,0)] f35)
theorem z1u:FOk prog zzq:=okF (bs:=[]) trivial func35 ntmps35 call35
 (λ_ _=>tr (kz8.eq_2 ..))
 (λn=>⟨λ_=>tr (kzb.eq_2 ..),
  trivial⟩)
end Go.Proofs.YthphaiccgnkobaaGreatDoor
