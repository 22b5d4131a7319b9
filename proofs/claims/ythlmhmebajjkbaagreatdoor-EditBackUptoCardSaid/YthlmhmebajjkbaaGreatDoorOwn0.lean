/-
  THE GO STRUCTS AS LEAN STRUCTURES, by a program of this repo (types.py).
-/
import Derived.Test.YthlmhmebajjkbaaGreatDoorLib2
import Derived.Test.YthlmhmebajjkbaaGreatDoorLib4
import Derived.Test.YthlmhmebajjkbaaGreatDoorLib7
import Derived.Test.YthlmhmebajjkbaaGreatDoorLib8
import Derived.KernelRfl
import Derived.Shelf.Sort.Plain
import Derived.Shelf.Slices.In.SortNone
import Derived.Shelf.SlIter.Sorted
import Derived.Shelf.Spec.SlicesGrow
import Derived.Shelf.Strings.Split
import Derived.Shelf.Strings.OnBuilder
import Derived.Ground.GgzProg
import Derived.Ground.NamesProg
import Derived.Ground.Names8Prog
import Derived.Test.YthlmhmebajjkbaaGreatDoorProg
import Derived.Test.YthlmhmebajjkbaaGreatDoorLib9
import Derived.Shelf.RegionOpenPlain
import Derived.WalkKit
import Derived.Deep.LoopGhost
import Derived.Lib.Walk
import Derived.Lib.SliceRun
import Derived.Deep.RegionLaw
import Derived.RangeFuncBox
import Derived.RangeFuncLeaves
import Derived.RangeFuncFrom
import Derived.RangeFuncCalls
import Derived.Shelf.Abstract
import Derived.OwnWalkIn
import Derived.TacticsInMore
import Derived.LoopNIn
import Derived.LoopIn
import Derived.Shelf.RegionOpen
set_option linter.defProp false
set_option linter.unusedSimpArgs false
set_option linter.unusedVariables false
namespace Go.Ab
open Go
structure kz4 where
 num:Int
 den:Int
def kz4.el(x:kz4):V:=.agg [.int .i64 x.num,.int .i64 x.den]
def kz4.size(x:kz4):Nat:=1+1+1
def kz4.wf(x:kz4):Prop:=(IntKind.i64.min<=x.num∧x.num<=IntKind.i64.max)∧(IntKind.i64.min<=x.den∧x.den<=IntKind.i64.max)
def kz4.yz4(x:kz4):x.el = .agg [.int .i64 x.num,.int .i64 x.den]:=by rw[kz4.el]
def kz4.size_eq(x:kz4):x.size=1+1+1:=by rw[kz4.size]
def kz4.kzn(x:kz4):x.wf=((IntKind.i64.min<=x.num∧x.num<=IntKind.i64.max)∧(IntKind.i64.min<=x.den∧x.den<=IntKind.i64.max)):=by rw[kz4.wf]
def kz4.kzh(x:kz4):x.el.cells.length=2:=by rw[kz4.yz4];rfl
def kz4.zet(x:kz4):x.el = .agg x.el.cells:=by rw[kz4.yz4];rfl
def kz4.kin{D:Nat->Nat->Prop}(x:kz4):V.kin D x.el:=by rw[kz4.yz4];simp only[V.kin,V.zb1,and_true,true_and]
def kz4.ty:Ty kz4:=⟨kz4.el,2,kz4.size,kz4.wf,kz4.kzh⟩
structure zz1 where
 kind:Int
 num:kz4
 truth:Bool
 str:B8
 list:List zz1
def zz1.y5q{x y:zz1}(h:y∈x.list):SizeOf.sizeOf y<SizeOf.sizeOf x:=by cases x;have:=List.sizeOf_lt_of_mem h;simp at this ⊢;omega
def zz1.el(x:zz1):V:=.agg [.int .u8 x.kind,.int .i64 x.num.num,.int .i64 x.num.den,.bool x.truth,.str x.str,.sl 6 (x.list.map zz1.el) false]
 termination_by x
 decreasing_by all_goals first|exact zz1.y5q ‹_›
def zz1.size(x:zz1):Nat:=1+x.num.size+1+(x.str.length+1)+((x.list.map zz1.size).sum+1)+1
 termination_by x
 decreasing_by all_goals first|exact zz1.y5q ‹_›
def zz1.wf(x:zz1):Prop:=(IntKind.u8.min<=x.kind∧x.kind<=IntKind.u8.max)∧x.num.wf∧True∧True∧(∀y∈x.list,y.wf)
 termination_by x
 decreasing_by all_goals first|exact zz1.y5q ‹_›
def zz1.yz4(x:zz1):x.el = .agg [.int .u8 x.kind,.int .i64 x.num.num,.int .i64 x.num.den,.bool x.truth,.str x.str,.sl 6 (x.list.map zz1.el) false]:=by rw[zz1.el]
def zz1.size_eq(x:zz1):x.size=1+x.num.size+1+(x.str.length+1)+((x.list.map zz1.size).sum+1)+1:=by rw[zz1.size]
def zz1.kzn(x:zz1):x.wf=((IntKind.u8.min<=x.kind∧x.kind<=IntKind.u8.max)∧x.num.wf∧True∧True∧(∀y∈x.list,y.wf)):=by rw[zz1.wf]
def zz1.kzh(x:zz1):x.el.cells.length=6:=by rw[zz1.yz4];rfl
def zz1.zet(x:zz1):x.el = .agg x.el.cells:=by rw[zz1.yz4];rfl
def zz1.kin{D:Nat->Nat->Prop}(x:zz1):V.kin D x.el:=by rw[zz1.yz4];simp only[V.kin,V.zb1,and_true,true_and];exact z4a λy a=>zz1.kin y
 termination_by x
 decreasing_by all_goals first|exact zz1.y5q ‹_›
def zz1.ty:Ty zz1:=⟨zz1.el,6,zz1.size,zz1.wf,zz1.kzh⟩
structure yz1 where
 op:Int
 value:zz1
 name:B8
 args:List yz1
def yz1.y5j{x y:yz1}(h:y∈x.args):SizeOf.sizeOf y<SizeOf.sizeOf x:=by cases x;have:=List.sizeOf_lt_of_mem h;simp at this ⊢;omega
def yz1.el(x:yz1):V:=.agg [.int .u8 x.op,.int .u8 x.value.kind,.int .i64 x.value.num.num,.int .i64 x.value.num.den,.bool x.value.truth,.str x.value.str,.sl 6 (x.value.list.map zz1.el) false,.str x.name,.sl 9 (x.args.map yz1.el) false]
 termination_by x
 decreasing_by all_goals first|exact yz1.y5j ‹_›
def yz1.size(x:yz1):Nat:=1+x.value.size+(x.name.length+1)+((x.args.map yz1.size).sum+1)+1
 termination_by x
 decreasing_by all_goals first|exact yz1.y5j ‹_›
def yz1.wf(x:yz1):Prop:=(IntKind.u8.min<=x.op∧x.op<=IntKind.u8.max)∧x.value.wf∧True∧(∀y∈x.args,y.wf)
 termination_by x
 decreasing_by all_goals first|exact yz1.y5j ‹_›
def yz1.yz4(x:yz1):x.el = .agg [.int .u8 x.op,.int .u8 x.value.kind,.int .i64 x.value.num.num,.int .i64 x.value.num.den,.bool x.value.truth,.str x.value.str,.sl 6 (x.value.list.map zz1.el) false,.str x.name,.sl 9 (x.args.map yz1.el) false]:=by rw[yz1.el]
def yz1.size_eq(x:yz1):x.size=1+x.value.size+(x.name.length+1)+((x.args.map yz1.size).sum+1)+1:=by rw[yz1.size]
def yz1.kzn(x:yz1):x.wf=((IntKind.u8.min<=x.op∧x.op<=IntKind.u8.max)∧x.value.wf∧True∧(∀y∈x.args,y.wf)):=by rw[yz1.wf]
def yz1.kzh(x:yz1):x.el.cells.length=9:=by rw[yz1.yz4];rfl
def yz1.zet(x:yz1):x.el = .agg x.el.cells:=by rw[yz1.yz4];rfl
def yz1.kin{D:Nat->Nat->Prop}(x:yz1):V.kin D x.el:=by rw[yz1.yz4];simp only[V.kin,V.zb1,and_true,true_and];exact⟨z4a λy a=>zz1.kin y,z4a λy a=>yz1.kin y⟩
 termination_by x
 decreasing_by all_goals first|exact yz1.y5j ‹_›
def yz1.ty:Ty yz1:=⟨yz1.el,9,yz1.size,yz1.wf,yz1.kzh⟩
structure yz7 where
 name:B8
 value:yz1
def yz7.el(x:yz7):V:=.agg [.str x.name,.int .u8 x.value.op,.int .u8 x.value.value.kind,.int .i64 x.value.value.num.num,.int .i64 x.value.value.num.den,.bool x.value.value.truth,.str x.value.value.str,.sl 6 (x.value.value.list.map zz1.el) false,.str x.value.name,.sl 9 (x.value.args.map yz1.el) false]
def yz7.size(x:yz7):Nat:=(x.name.length+1)+x.value.size+1
def yz7.wf(x:yz7):Prop:=True∧x.value.wf
def yz7.yz4(x:yz7):x.el = .agg [.str x.name,.int .u8 x.value.op,.int .u8 x.value.value.kind,.int .i64 x.value.value.num.num,.int .i64 x.value.value.num.den,.bool x.value.value.truth,.str x.value.value.str,.sl 6 (x.value.value.list.map zz1.el) false,.str x.value.name,.sl 9 (x.value.args.map yz1.el) false]:=by rw[yz7.el]
def yz7.size_eq(x:yz7):x.size=(x.name.length+1)+x.value.size+1:=by rw[yz7.size]
def yz7.kzn(x:yz7):x.wf=(True∧x.value.wf):=by rw[yz7.wf]
def yz7.kzh(x:yz7):x.el.cells.length=10:=by rw[yz7.yz4];rfl
def yz7.zet(x:yz7):x.el = .agg x.el.cells:=by rw[yz7.yz4];rfl
def yz7.kin{D:Nat->Nat->Prop}(x:yz7):V.kin D x.el:=by rw[yz7.yz4];simp only[V.kin,V.zb1,and_true,true_and];exact⟨z4a λy a=>zz1.kin y,z4a λy a=>yz1.kin y⟩
def yz7.ty:Ty yz7:=⟨yz7.el,10,yz7.size,yz7.wf,yz7.kzh⟩
structure zz7 where
 kind:Int
 name:B8
 args:List yz1
def zz7.el(x:zz7):V:=.agg [.int .u8 x.kind,.str x.name,.sl 9 (x.args.map yz1.el) false]
def zz7.size(x:zz7):Nat:=1+(x.name.length+1)+((x.args.map yz1.size).sum+1)+1
def zz7.wf(x:zz7):Prop:=(IntKind.u8.min<=x.kind∧x.kind<=IntKind.u8.max)∧True∧(∀y∈x.args,y.wf)
def zz7.yz4(x:zz7):x.el = .agg [.int .u8 x.kind,.str x.name,.sl 9 (x.args.map yz1.el) false]:=by rw[zz7.el]
def zz7.size_eq(x:zz7):x.size=1+(x.name.length+1)+((x.args.map yz1.size).sum+1)+1:=by rw[zz7.size]
def zz7.kzn(x:zz7):x.wf=((IntKind.u8.min<=x.kind∧x.kind<=IntKind.u8.max)∧True∧(∀y∈x.args,y.wf)):=by rw[zz7.wf]
def zz7.kzh(x:zz7):x.el.cells.length=3:=by rw[zz7.yz4];rfl
def zz7.zet(x:zz7):x.el = .agg x.el.cells:=by rw[zz7.yz4];rfl
def zz7.kin{D:Nat->Nat->Prop}(x:zz7):V.kin D x.el:=by rw[zz7.yz4];simp only[V.kin,V.zb1,and_true,true_and];exact z4a λy a=>yz1.kin y
def zz7.ty:Ty zz7:=⟨zz7.el,3,zz7.size,zz7.wf,zz7.kzh⟩
structure kz2 where
 kind:Int
 axis:Int
 name:B8
 args:List yz1
 items:List zz7
def kz2.el(x:kz2):V:=.agg [.int .u8 x.kind,.int .u8 x.axis,.str x.name,.sl 9 (x.args.map yz1.el) false,.sl 3 (x.items.map zz7.el) false]
def kz2.size(x:kz2):Nat:=1+1+(x.name.length+1)+((x.args.map yz1.size).sum+1)+((x.items.map zz7.size).sum+1)+1
def kz2.wf(x:kz2):Prop:=(IntKind.u8.min<=x.kind∧x.kind<=IntKind.u8.max)∧(IntKind.u8.min<=x.axis∧x.axis<=IntKind.u8.max)∧True∧(∀y∈x.args,y.wf)∧(∀y∈x.items,y.wf)
def kz2.yz4(x:kz2):x.el = .agg [.int .u8 x.kind,.int .u8 x.axis,.str x.name,.sl 9 (x.args.map yz1.el) false,.sl 3 (x.items.map zz7.el) false]:=by rw[kz2.el]
def kz2.size_eq(x:kz2):x.size=1+1+(x.name.length+1)+((x.args.map yz1.size).sum+1)+((x.items.map zz7.size).sum+1)+1:=by rw[kz2.size]
def kz2.kzn(x:kz2):x.wf=((IntKind.u8.min<=x.kind∧x.kind<=IntKind.u8.max)∧(IntKind.u8.min<=x.axis∧x.axis<=IntKind.u8.max)∧True∧(∀y∈x.args,y.wf)∧(∀y∈x.items,y.wf)):=by rw[kz2.wf]
def kz2.kzh(x:kz2):x.el.cells.length=5:=by rw[kz2.yz4];rfl
def kz2.zet(x:kz2):x.el = .agg x.el.cells:=by rw[kz2.yz4];rfl
def kz2.kin{D:Nat->Nat->Prop}(x:kz2):V.kin D x.el:=by rw[kz2.yz4];simp only[V.kin,V.zb1,and_true,true_and];exact⟨z4a λy a=>yz1.kin y,z4a λy a=>zz7.kin y⟩
def kz2.ty:Ty kz2:=⟨kz2.el,5,kz2.size,kz2.wf,kz2.kzh⟩
structure zz4 where
 weight:Int
 when_:yz1
 do_:List kz2
def zz4.el(x:zz4):V:=.agg [.int .i64 x.weight,.int .u8 x.when_.op,.int .u8 x.when_.value.kind,.int .i64 x.when_.value.num.num,.int .i64 x.when_.value.num.den,.bool x.when_.value.truth,.str x.when_.value.str,.sl 6 (x.when_.value.list.map zz1.el) false,.str x.when_.name,.sl 9 (x.when_.args.map yz1.el) false,.sl 5 (x.do_.map kz2.el) false]
def zz4.size(x:zz4):Nat:=1+x.when_.size+((x.do_.map kz2.size).sum+1)+1
def zz4.wf(x:zz4):Prop:=(IntKind.i64.min<=x.weight∧x.weight<=IntKind.i64.max)∧x.when_.wf∧(∀y∈x.do_,y.wf)
def zz4.yz4(x:zz4):x.el = .agg [.int .i64 x.weight,.int .u8 x.when_.op,.int .u8 x.when_.value.kind,.int .i64 x.when_.value.num.num,.int .i64 x.when_.value.num.den,.bool x.when_.value.truth,.str x.when_.value.str,.sl 6 (x.when_.value.list.map zz1.el) false,.str x.when_.name,.sl 9 (x.when_.args.map yz1.el) false,.sl 5 (x.do_.map kz2.el) false]:=by rw[zz4.el]
def zz4.size_eq(x:zz4):x.size=1+x.when_.size+((x.do_.map kz2.size).sum+1)+1:=by rw[zz4.size]
def zz4.kzn(x:zz4):x.wf=((IntKind.i64.min<=x.weight∧x.weight<=IntKind.i64.max)∧x.when_.wf∧(∀y∈x.do_,y.wf)):=by rw[zz4.wf]
def zz4.kzh(x:zz4):x.el.cells.length=11:=by rw[zz4.yz4];rfl
def zz4.zet(x:zz4):x.el = .agg x.el.cells:=by rw[zz4.yz4];rfl
def zz4.kin{D:Nat->Nat->Prop}(x:zz4):V.kin D x.el:=by rw[zz4.yz4];simp only[V.kin,V.zb1,and_true,true_and];exact⟨z4a λy a=>zz1.kin y,z4a λy a=>yz1.kin y,z4a λy a=>kz2.kin y⟩
def zz4.ty:Ty zz4:=⟨zz4.el,11,zz4.size,zz4.wf,zz4.kzh⟩
structure zz3 where
 name:B8
 params:List B8
 cases:List zz4
def zz3.el(x:zz3):V:=.agg [.str x.name,.sl 1 (x.params.map V.str) false,.sl 11 (x.cases.map zz4.el) false]
def zz3.size(x:zz3):Nat:=(x.name.length+1)+((x.params.map (λs=>s.length+1)).sum+1)+((x.cases.map zz4.size).sum+1)+1
def zz3.wf(x:zz3):Prop:=True∧(∀y∈x.params,True)∧(∀y∈x.cases,y.wf)
def zz3.yz4(x:zz3):x.el = .agg [.str x.name,.sl 1 (x.params.map V.str) false,.sl 11 (x.cases.map zz4.el) false]:=by rw[zz3.el]
def zz3.size_eq(x:zz3):x.size=(x.name.length+1)+((x.params.map (λs=>s.length+1)).sum+1)+((x.cases.map zz4.size).sum+1)+1:=by rw[zz3.size]
def zz3.kzn(x:zz3):x.wf=(True∧(∀y∈x.params,True)∧(∀y∈x.cases,y.wf)):=by rw[zz3.wf]
def zz3.kzh(x:zz3):x.el.cells.length=3:=by rw[zz3.yz4];rfl
def zz3.zet(x:zz3):x.el = .agg x.el.cells:=by rw[zz3.yz4];rfl
def zz3.kin{D:Nat->Nat->Prop}(x:zz3):V.kin D x.el:=by rw[zz3.yz4];simp only[V.kin,V.zb1,and_true,true_and];exact⟨z4a λ_ _=>by simp[V.kin],z4a λy a=>zz4.kin y⟩
def zz3.ty:Ty zz3:=⟨zz3.el,3,zz3.size,zz3.wf,zz3.kzh⟩
structure zz0 where
 attrs:List yz7
 rules:List zz3
def zz0.el(x:zz0):V:=.agg [.sl 10 (x.attrs.map yz7.el) false,.sl 3 (x.rules.map zz3.el) false]
def zz0.size(x:zz0):Nat:=((x.attrs.map yz7.size).sum+1)+((x.rules.map zz3.size).sum+1)+1
def zz0.wf(x:zz0):Prop:=(∀y∈x.attrs,y.wf)∧(∀y∈x.rules,y.wf)
def zz0.yz4(x:zz0):x.el = .agg [.sl 10 (x.attrs.map yz7.el) false,.sl 3 (x.rules.map zz3.el) false]:=by rw[zz0.el]
def zz0.size_eq(x:zz0):x.size=((x.attrs.map yz7.size).sum+1)+((x.rules.map zz3.size).sum+1)+1:=by rw[zz0.size]
def zz0.kzn(x:zz0):x.wf=((∀y∈x.attrs,y.wf)∧(∀y∈x.rules,y.wf)):=by rw[zz0.wf]
def zz0.kzh(x:zz0):x.el.cells.length=2:=by rw[zz0.yz4];rfl
def zz0.zet(x:zz0):x.el = .agg x.el.cells:=by rw[zz0.yz4];rfl
def zz0.kin{D:Nat->Nat->Prop}(x:zz0):V.kin D x.el:=by rw[zz0.yz4];simp only[V.kin,V.zb1,and_true,true_and];exact⟨z4a λy a=>yz7.kin y,z4a λy a=>zz3.kin y⟩
def zz0.ty:Ty zz0:=⟨zz0.el,2,zz0.size,zz0.wf,zz0.kzh⟩
structure yzh where
 kind:Int
 name:B8
 to_:B8
 rule_:zz3
 value:yz1
def yzh.el(x:yzh):V:=.agg [.int .u8 x.kind,.str x.name,.str x.to_,.str x.rule_.name,.sl 1 (x.rule_.params.map V.str) false,.sl 11 (x.rule_.cases.map zz4.el) false,.int .u8 x.value.op,.int .u8 x.value.value.kind,.int .i64 x.value.value.num.num,.int .i64 x.value.value.num.den,.bool x.value.value.truth,.str x.value.value.str,.sl 6 (x.value.value.list.map zz1.el) false,.str x.value.name,.sl 9 (x.value.args.map yz1.el) false]
def yzh.size(x:yzh):Nat:=1+(x.name.length+1)+(x.to_.length+1)+x.rule_.size+x.value.size+1
def yzh.wf(x:yzh):Prop:=(IntKind.u8.min<=x.kind∧x.kind<=IntKind.u8.max)∧True∧True∧x.rule_.wf∧x.value.wf
def yzh.yz4(x:yzh):x.el = .agg [.int .u8 x.kind,.str x.name,.str x.to_,.str x.rule_.name,.sl 1 (x.rule_.params.map V.str) false,.sl 11 (x.rule_.cases.map zz4.el) false,.int .u8 x.value.op,.int .u8 x.value.value.kind,.int .i64 x.value.value.num.num,.int .i64 x.value.value.num.den,.bool x.value.value.truth,.str x.value.value.str,.sl 6 (x.value.value.list.map zz1.el) false,.str x.value.name,.sl 9 (x.value.args.map yz1.el) false]:=by rw[yzh.el]
def yzh.size_eq(x:yzh):x.size=1+(x.name.length+1)+(x.to_.length+1)+x.rule_.size+x.value.size+1:=by rw[yzh.size]
def yzh.kzn(x:yzh):x.wf=((IntKind.u8.min<=x.kind∧x.kind<=IntKind.u8.max)∧True∧True∧x.rule_.wf∧x.value.wf):=by rw[yzh.wf]
def yzh.kzh(x:yzh):x.el.cells.length=15:=by rw[yzh.yz4];rfl
def yzh.zet(x:yzh):x.el = .agg x.el.cells:=by rw[yzh.yz4];rfl
def yzh.kin{D:Nat->Nat->Prop}(x:yzh):V.kin D x.el:=by rw[yzh.yz4];simp only[V.kin,V.zb1,and_true,true_and];exact⟨z4a λ_ _=>by simp[V.kin],z4a λy a=>zz4.kin y,z4a λy a=>zz1.kin y,z4a λy a=>yz1.kin y⟩
def yzh.ty:Ty yzh:=⟨yzh.el,15,yzh.size,yzh.wf,yzh.kzh⟩
structure z2i where
 path:B8
 kind:Int
 name:B8
def z2i.el(x:z2i):V:=.agg [.str x.path,.int .u8 x.kind,.str x.name]
def z2i.size(x:z2i):Nat:=(x.path.length+1)+1+(x.name.length+1)+1
def z2i.wf(x:z2i):Prop:=True∧(IntKind.u8.min<=x.kind∧x.kind<=IntKind.u8.max)∧True
def z2i.yz4(x:z2i):x.el = .agg [.str x.path,.int .u8 x.kind,.str x.name]:=by rw[z2i.el]
def z2i.size_eq(x:z2i):x.size=(x.path.length+1)+1+(x.name.length+1)+1:=by rw[z2i.size]
def z2i.kzn(x:z2i):x.wf=(True∧(IntKind.u8.min<=x.kind∧x.kind<=IntKind.u8.max)∧True):=by rw[z2i.wf]
def z2i.kzh(x:z2i):x.el.cells.length=3:=by rw[z2i.yz4];rfl
def z2i.zet(x:z2i):x.el = .agg x.el.cells:=by rw[z2i.yz4];rfl
def z2i.kin{D:Nat->Nat->Prop}(x:z2i):V.kin D x.el:=by rw[z2i.yz4];simp only[V.kin,V.zb1,and_true,true_and]
def z2i.ty:Ty z2i:=⟨z2i.el,3,z2i.size,z2i.wf,z2i.kzh⟩
structure kzy where
 name:B8
 many:Int
def kzy.el(x:kzy):V:=.agg [.str x.name,.int .i64 x.many]
def kzy.size(x:kzy):Nat:=(x.name.length+1)+1+1
def kzy.wf(x:kzy):Prop:=True∧(IntKind.i64.min<=x.many∧x.many<=IntKind.i64.max)
def kzy.yz4(x:kzy):x.el = .agg [.str x.name,.int .i64 x.many]:=by rw[kzy.el]
def kzy.size_eq(x:kzy):x.size=(x.name.length+1)+1+1:=by rw[kzy.size]
def kzy.kzn(x:kzy):x.wf=(True∧(IntKind.i64.min<=x.many∧x.many<=IntKind.i64.max)):=by rw[kzy.wf]
def kzy.kzh(x:kzy):x.el.cells.length=2:=by rw[kzy.yz4];rfl
def kzy.zet(x:kzy):x.el = .agg x.el.cells:=by rw[kzy.yz4];rfl
def kzy.kin{D:Nat->Nat->Prop}(x:kzy):V.kin D x.el:=by rw[kzy.yz4];simp only[V.kin,V.zb1,and_true,true_and]
def kzy.ty:Ty kzy:=⟨kzy.el,2,kzy.size,kzy.wf,kzy.kzh⟩
structure zbt where
 x:Int
 y:Int
 z:Int
def zbt.el(x:zbt):V:=.agg [.int .i64 x.x,.int .i64 x.y,.int .i64 x.z]
def zbt.size(x:zbt):Nat:=1+1+1+1
def zbt.wf(x:zbt):Prop:=(IntKind.i64.min<=x.x∧x.x<=IntKind.i64.max)∧(IntKind.i64.min<=x.y∧x.y<=IntKind.i64.max)∧(IntKind.i64.min<=x.z∧x.z<=IntKind.i64.max)
def zbt.yz4(x:zbt):x.el = .agg [.int .i64 x.x,.int .i64 x.y,.int .i64 x.z]:=by rw[zbt.el]
def zbt.size_eq(x:zbt):x.size=1+1+1+1:=by rw[zbt.size]
def zbt.kzn(x:zbt):x.wf=((IntKind.i64.min<=x.x∧x.x<=IntKind.i64.max)∧(IntKind.i64.min<=x.y∧x.y<=IntKind.i64.max)∧(IntKind.i64.min<=x.z∧x.z<=IntKind.i64.max)):=by rw[zbt.wf]
def zbt.kzh(x:zbt):x.el.cells.length=3:=by rw[zbt.yz4];rfl
def zbt.zet(x:zbt):x.el = .agg x.el.cells:=by rw[zbt.yz4];rfl
def zbt.kin{D:Nat->Nat->Prop}(x:zbt):V.kin D x.el:=by rw[zbt.yz4];simp only[V.kin,V.zb1,and_true,true_and]
def zbt.ty:Ty zbt:=⟨zbt.el,3,zbt.size,zbt.wf,zbt.kzh⟩
structure z0j where
 zha:Int
 at_:zbt
def z0j.el(x:z0j):V:=.agg [.int .u8 x.zha,.int .i64 x.at_.x,.int .i64 x.at_.y,.int .i64 x.at_.z]
def z0j.size(x:z0j):Nat:=1+x.at_.size+1
def z0j.wf(x:z0j):Prop:=(IntKind.u8.min<=x.zha∧x.zha<=IntKind.u8.max)∧x.at_.wf
def z0j.yz4(x:z0j):x.el = .agg [.int .u8 x.zha,.int .i64 x.at_.x,.int .i64 x.at_.y,.int .i64 x.at_.z]:=by rw[z0j.el]
def z0j.size_eq(x:z0j):x.size=1+x.at_.size+1:=by rw[z0j.size]
def z0j.kzn(x:z0j):x.wf=((IntKind.u8.min<=x.zha∧x.zha<=IntKind.u8.max)∧x.at_.wf):=by rw[z0j.wf]
def z0j.kzh(x:z0j):x.el.cells.length=4:=by rw[z0j.yz4];rfl
def z0j.zet(x:z0j):x.el = .agg x.el.cells:=by rw[z0j.yz4];rfl
def z0j.kin{D:Nat->Nat->Prop}(x:z0j):V.kin D x.el:=by rw[z0j.yz4];simp only[V.kin,V.zb1,and_true,true_and]
def z0j.ty:Ty z0j:=⟨z0j.el,4,z0j.size,z0j.wf,z0j.kzh⟩
structure z0p where
 frame:z0j
 size_:zbt
def z0p.el(x:z0p):V:=.agg [.int .u8 x.frame.zha,.int .i64 x.frame.at_.x,.int .i64 x.frame.at_.y,.int .i64 x.frame.at_.z,.int .i64 x.size_.x,.int .i64 x.size_.y,.int .i64 x.size_.z]
def z0p.size(x:z0p):Nat:=x.frame.size+x.size_.size+1
def z0p.wf(x:z0p):Prop:=x.frame.wf∧x.size_.wf
def z0p.yz4(x:z0p):x.el = .agg [.int .u8 x.frame.zha,.int .i64 x.frame.at_.x,.int .i64 x.frame.at_.y,.int .i64 x.frame.at_.z,.int .i64 x.size_.x,.int .i64 x.size_.y,.int .i64 x.size_.z]:=by rw[z0p.el]
def z0p.size_eq(x:z0p):x.size=x.frame.size+x.size_.size+1:=by rw[z0p.size]
def z0p.kzn(x:z0p):x.wf=(x.frame.wf∧x.size_.wf):=by rw[z0p.wf]
def z0p.kzh(x:z0p):x.el.cells.length=7:=by rw[z0p.yz4];rfl
def z0p.zet(x:z0p):x.el = .agg x.el.cells:=by rw[z0p.yz4];rfl
def z0p.kin{D:Nat->Nat->Prop}(x:z0p):V.kin D x.el:=by rw[z0p.yz4];simp only[V.kin,V.zb1,and_true,true_and]
def z0p.ty:Ty z0p:=⟨z0p.el,7,z0p.size,z0p.wf,z0p.kzh⟩
structure z6n where
 path:B8
 rule_:B8
 args:List zz1
 scope:z0p
 leaf:B8
 fault:Int
 open_:Bool
def z6n.el(x:z6n):V:=.agg [.str x.path,.str x.rule_,.sl 6 (x.args.map zz1.el) false,.int .u8 x.scope.frame.zha,.int .i64 x.scope.frame.at_.x,.int .i64 x.scope.frame.at_.y,.int .i64 x.scope.frame.at_.z,.int .i64 x.scope.size_.x,.int .i64 x.scope.size_.y,.int .i64 x.scope.size_.z,.str x.leaf,.int .i64 x.fault,.bool x.open_]
def z6n.size(x:z6n):Nat:=(x.path.length+1)+(x.rule_.length+1)+((x.args.map zz1.size).sum+1)+x.scope.size+(x.leaf.length+1)+1+1+1
def z6n.wf(x:z6n):Prop:=True∧True∧(∀y∈x.args,y.wf)∧x.scope.wf∧True∧(IntKind.i64.min<=x.fault∧x.fault<=IntKind.i64.max)∧True
def z6n.yz4(x:z6n):x.el = .agg [.str x.path,.str x.rule_,.sl 6 (x.args.map zz1.el) false,.int .u8 x.scope.frame.zha,.int .i64 x.scope.frame.at_.x,.int .i64 x.scope.frame.at_.y,.int .i64 x.scope.frame.at_.z,.int .i64 x.scope.size_.x,.int .i64 x.scope.size_.y,.int .i64 x.scope.size_.z,.str x.leaf,.int .i64 x.fault,.bool x.open_]:=by rw[z6n.el]
def z6n.size_eq(x:z6n):x.size=(x.path.length+1)+(x.rule_.length+1)+((x.args.map zz1.size).sum+1)+x.scope.size+(x.leaf.length+1)+1+1+1:=by rw[z6n.size]
def z6n.kzn(x:z6n):x.wf=(True∧True∧(∀y∈x.args,y.wf)∧x.scope.wf∧True∧(IntKind.i64.min<=x.fault∧x.fault<=IntKind.i64.max)∧True):=by rw[z6n.wf]
def z6n.kzh(x:z6n):x.el.cells.length=13:=by rw[z6n.yz4];rfl
def z6n.zet(x:z6n):x.el = .agg x.el.cells:=by rw[z6n.yz4];rfl
def z6n.kin{D:Nat->Nat->Prop}(x:z6n):V.kin D x.el:=by rw[z6n.yz4];simp only[V.kin,V.zb1,and_true,true_and];exact z4a λy a=>zz1.kin y
def z6n.ty:Ty z6n:=⟨z6n.el,13,z6n.size,z6n.wf,z6n.kzh⟩
structure z3n where
 name:B8
 many:Int
def z3n.el(x:z3n):V:=.agg [.str x.name,.int .i64 x.many]
def z3n.size(x:z3n):Nat:=(x.name.length+1)+1+1
def z3n.wf(x:z3n):Prop:=True∧(IntKind.i64.min<=x.many∧x.many<=IntKind.i64.max)
def z3n.yz4(x:z3n):x.el = .agg [.str x.name,.int .i64 x.many]:=by rw[z3n.el]
def z3n.size_eq(x:z3n):x.size=(x.name.length+1)+1+1:=by rw[z3n.size]
def z3n.kzn(x:z3n):x.wf=(True∧(IntKind.i64.min<=x.many∧x.many<=IntKind.i64.max)):=by rw[z3n.wf]
def z3n.kzh(x:z3n):x.el.cells.length=2:=by rw[z3n.yz4];rfl
def z3n.zet(x:z3n):x.el = .agg x.el.cells:=by rw[z3n.yz4];rfl
def z3n.kin{D:Nat->Nat->Prop}(x:z3n):V.kin D x.el:=by rw[z3n.yz4];simp only[V.kin,V.zb1,and_true,true_and]
def z3n.ty:Ty z3n:=⟨z3n.el,2,z3n.size,z3n.wf,z3n.kzh⟩
structure zzk where
 name:B8
 index:Int
def zzk.el(x:zzk):V:=.agg [.str x.name,.int .i64 x.index]
def zzk.size(x:zzk):Nat:=(x.name.length+1)+1+1
def zzk.wf(x:zzk):Prop:=True∧(IntKind.i64.min<=x.index∧x.index<=IntKind.i64.max)
def zzk.yz4(x:zzk):x.el = .agg [.str x.name,.int .i64 x.index]:=by rw[zzk.el]
def zzk.size_eq(x:zzk):x.size=(x.name.length+1)+1+1:=by rw[zzk.size]
def zzk.kzn(x:zzk):x.wf=(True∧(IntKind.i64.min<=x.index∧x.index<=IntKind.i64.max)):=by rw[zzk.wf]
def zzk.kzh(x:zzk):x.el.cells.length=2:=by rw[zzk.yz4];rfl
def zzk.zet(x:zzk):x.el = .agg x.el.cells:=by rw[zzk.yz4];rfl
def zzk.kin{D:Nat->Nat->Prop}(x:zzk):V.kin D x.el:=by rw[zzk.yz4];simp only[V.kin,V.zb1,and_true,true_and]
def zzk.ty:Ty zzk:=⟨zzk.el,2,zzk.size,zzk.wf,zzk.kzh⟩
abbrev GRatio_l:=List kz4
abbrev z4f:=List zz1
abbrev kz5:=List yz1
abbrev kz6:=List yz7
abbrev zdu:=List zz7
abbrev yzu:=List kz2
abbrev z0q:=List zz4
abbrev zz5:=List zz3
abbrev z066:=List zz0
abbrev zv8:=List yzh
abbrev z2n:=List z2i
abbrev z9p:=List kzy
abbrev GVec_l:=List zbt
abbrev GFrame_l:=List z0j
abbrev GScope_l:=List z0p
abbrev yva:=List z6n
abbrev zdl:=List z3n
abbrev GStepT_l:=List zzk
def zz1.re(x:zz1):zz1:=⟨x.kind,x.num,x.truth,x.str,x.list⟩
@[simp] def zz1.yz3 (x:zz1):x.re=x:=by cases x;simp[zz1.re]
def yz1.re(x:yz1):yz1:=⟨x.op,x.value.re,x.name,x.args⟩
@[simp] def yz1.yz3 (x:yz1):x.re=x:=by cases x;simp[yz1.re]
def yz7.re(x:yz7):yz7:=⟨x.name,x.value.re⟩
@[simp] def yz7.yz3 (x:yz7):x.re=x:=by cases x;simp[yz7.re]
def zz4.re(x:zz4):zz4:=⟨x.weight,x.when_.re,x.do_⟩
@[simp] def zz4.yz3 (x:zz4):x.re=x:=by cases x;simp[zz4.re]
def yzh.re(x:yzh):yzh:=⟨x.kind,x.name,x.to_,x.rule_,x.value.re⟩
@[simp] def yzh.yz3 (x:yzh):x.re=x:=by cases x;simp[yzh.re]
def datT:Nat->Type
 |0=>kz4
 |1=>zz1
 |2=>yz1
 |3=>yz7
 |4=>zz7
 |5=>kz2
 |6=>zz4
 |7=>zz3
 |8=>zz0
 |9=>yzh
 |10=>z2i
 |11=>kzy
 |12=>zbt
 |13=>z0j
 |14=>z0p
 |15=>z6n
 |16=>z3n
 |17=>zzk
 |_=>Unit
def zjl:Nat->List DTy
 |0=>[.int .i64,.int .i64]
 |1=>[.int .u8,.int .i64,.int .i64,.bool,.str,.sl (.st 1)]
 |2=>[.int .u8,.int .u8,.int .i64,.int .i64,.bool,.str,.sl (.st 1),.str,.sl (.st 2)]
 |3=>[.str,.int .u8,.int .u8,.int .i64,.int .i64,.bool,.str,.sl (.st 1),.str,.sl (.st 2)]
 |4=>[.int .u8,.str,.sl (.st 2)]
 |5=>[.int .u8,.int .u8,.str,.sl (.st 2),.sl (.st 4)]
 |6=>[.int .i64,.int .u8,.int .u8,.int .i64,.int .i64,.bool,.str,.sl (.st 1),.str,.sl (.st 2),.sl (.st 5)]
 |7=>[.str,.sl .str,.sl (.st 6)]
 |8=>[.sl (.st 3),.sl (.st 7)]
 |9=>[.int .u8,.str,.str,.str,.sl .str,.sl (.st 6),.int .u8,.int .u8,.int .i64,.int .i64,.bool,.str,.sl (.st 1),.str,.sl (.st 2)]
 |10=>[.str,.int .u8,.str]
 |11=>[.str,.int .i64]
 |12=>[.int .i64,.int .i64,.int .i64]
 |13=>[.int .u8,.int .i64,.int .i64,.int .i64]
 |14=>[.int .u8,.int .i64,.int .i64,.int .i64,.int .i64,.int .i64,.int .i64]
 |15=>[.str,.str,.sl (.st 1),.int .u8,.int .i64,.int .i64,.int .i64,.int .i64,.int .i64,.int .i64,.str,.int .i64,.bool]
 |16=>[.str,.int .i64]
 |17=>[.str,.int .i64]
 |_=>[]
def z00y:List (Nat×DTy):=[(2,.int .i64),(3,.int .i64),(4,.bool),(5,.int .u8),(6,.int .u8),(9,.str),(10,.str),(11,.str),(12,.int .u64),(21,.int .i32),(22,.sl (.st 3)),(23,.sl (.st 7)),(25,.st 8),(27,.int .i64),(30,.sl (.st 9)),(31,.sl .str),(32,.sl (.st 6)),(34,.st 7),(36,.st 0),(37,.sl (.st 1)),(39,.st 1),(40,.sl (.st 2)),(42,.st 2),(44,.st 9),(47,.sl (.st 10)),(51,.st 10),(62,.sl (.st 5)),(64,.st 6),(69,.sl (.st 4)),(71,.st 5),(72,.sl .bool),(83,.st 3),(93,.sl (.st 11)),(96,.st 11),(106,.st 4),(114,.sl (.st 15)),(117,.st 12),(119,.st 13),(121,.st 14),(123,.st 15),(126,.sl (.int .u8)),(136,.sl (.st 16)),(139,.st 16),(184,.sl (.sl (.st 3))),(186,.sl (.sl (.st 7))),(194,.int .u64),(197,.st 17),(217,.int .i64),(225,.int .u32),(227,.int .u64),(239,.int .u64),(262,.int .u8),(263,.int .u8),(265,.int .i32),(266,.int .i32)]
def datOw:Nat->Nat->Option Nat
 |7,2=>some 64
 |6,10=>some 71
 |5,4=>some 106
 |_,_=>none
def dat:Dat where
 T:=datT
 fl:=zjl
 get:=λi=>match i with
  |0=>λ(x:kz4)=>(x.num,x.den,())
  |1=>λ(x:zz1)=>(x.kind,x.num.num,x.num.den,x.truth,x.str,x.list,())
  |2=>λ(x:yz1)=>(x.op,x.value.kind,x.value.num.num,x.value.num.den,x.value.truth,x.value.str,x.value.list,x.name,x.args,())
  |3=>λ(x:yz7)=>(x.name,x.value.op,x.value.value.kind,x.value.value.num.num,x.value.value.num.den,x.value.value.truth,x.value.value.str,x.value.value.list,x.value.name,x.value.args,())
  |4=>λ(x:zz7)=>(x.kind,x.name,x.args,())
  |5=>λ(x:kz2)=>(x.kind,x.axis,x.name,x.args,x.items,())
  |6=>λ(x:zz4)=>(x.weight,x.when_.op,x.when_.value.kind,x.when_.value.num.num,x.when_.value.num.den,x.when_.value.truth,x.when_.value.str,x.when_.value.list,x.when_.name,x.when_.args,x.do_,())
  |7=>λ(x:zz3)=>(x.name,x.params,x.cases,())
  |8=>λ(x:zz0)=>(x.attrs,x.rules,())
  |9=>λ(x:yzh)=>(x.kind,x.name,x.to_,x.rule_.name,x.rule_.params,x.rule_.cases,x.value.op,x.value.value.kind,x.value.value.num.num,x.value.value.num.den,x.value.value.truth,x.value.value.str,x.value.value.list,x.value.name,x.value.args,())
  |10=>λ(x:z2i)=>(x.path,x.kind,x.name,())
  |11=>λ(x:kzy)=>(x.name,x.many,())
  |12=>λ(x:zbt)=>(x.x,x.y,x.z,())
  |13=>λ(x:z0j)=>(x.zha,x.at_.x,x.at_.y,x.at_.z,())
  |14=>λ(x:z0p)=>(x.frame.zha,x.frame.at_.x,x.frame.at_.y,x.frame.at_.z,x.size_.x,x.size_.y,x.size_.z,())
  |15=>λ(x:z6n)=>(x.path,x.rule_,x.args,x.scope.frame.zha,x.scope.frame.at_.x,x.scope.frame.at_.y,x.scope.frame.at_.z,x.scope.size_.x,x.scope.size_.y,x.scope.size_.z,x.leaf,x.fault,x.open_,())
  |16=>λ(x:z3n)=>(x.name,x.many,())
  |17=>λ(x:zzk)=>(x.name,x.index,())
  |_+18=>λ_=>()
 make:=λi=>match i with
  |0=>λx=>kz4.mk x.1 x.2.1
  |1=>λx=>zz1.mk x.1 (kz4.mk x.2.1 x.2.2.1) x.2.2.2.1 x.2.2.2.2.1 x.2.2.2.2.2.1
  |2=>λx=>yz1.mk x.1 (zz1.mk x.2.1 (kz4.mk x.2.2.1 x.2.2.2.1) x.2.2.2.2.1 x.2.2.2.2.2.1 x.2.2.2.2.2.2.1) x.2.2.2.2.2.2.2.1 x.2.2.2.2.2.2.2.2.1
  |3=>λx=>yz7.mk x.1 (yz1.mk x.2.1 (zz1.mk x.2.2.1 (kz4.mk x.2.2.2.1 x.2.2.2.2.1) x.2.2.2.2.2.1 x.2.2.2.2.2.2.1 x.2.2.2.2.2.2.2.1) x.2.2.2.2.2.2.2.2.1 x.2.2.2.2.2.2.2.2.2.1)
  |4=>λx=>zz7.mk x.1 x.2.1 x.2.2.1
  |5=>λx=>kz2.mk x.1 x.2.1 x.2.2.1 x.2.2.2.1 x.2.2.2.2.1
  |6=>λx=>zz4.mk x.1 (yz1.mk x.2.1 (zz1.mk x.2.2.1 (kz4.mk x.2.2.2.1 x.2.2.2.2.1) x.2.2.2.2.2.1 x.2.2.2.2.2.2.1 x.2.2.2.2.2.2.2.1) x.2.2.2.2.2.2.2.2.1 x.2.2.2.2.2.2.2.2.2.1) x.2.2.2.2.2.2.2.2.2.2.1
  |7=>λx=>zz3.mk x.1 x.2.1 x.2.2.1
  |8=>λx=>zz0.mk x.1 x.2.1
  |9=>λx=>yzh.mk x.1 x.2.1 x.2.2.1 (zz3.mk x.2.2.2.1 x.2.2.2.2.1 x.2.2.2.2.2.1) (yz1.mk x.2.2.2.2.2.2.1 (zz1.mk x.2.2.2.2.2.2.2.1 (kz4.mk x.2.2.2.2.2.2.2.2.1 x.2.2.2.2.2.2.2.2.2.1) x.2.2.2.2.2.2.2.2.2.2.1 x.2.2.2.2.2.2.2.2.2.2.2.1 x.2.2.2.2.2.2.2.2.2.2.2.2.1) x.2.2.2.2.2.2.2.2.2.2.2.2.2.1 x.2.2.2.2.2.2.2.2.2.2.2.2.2.2.1)
  |10=>λx=>z2i.mk x.1 x.2.1 x.2.2.1
  |11=>λx=>kzy.mk x.1 x.2.1
  |12=>λx=>zbt.mk x.1 x.2.1 x.2.2.1
  |13=>λx=>z0j.mk x.1 (zbt.mk x.2.1 x.2.2.1 x.2.2.2.1)
  |14=>λx=>z0p.mk (z0j.mk x.1 (zbt.mk x.2.1 x.2.2.1 x.2.2.2.1)) (zbt.mk x.2.2.2.2.1 x.2.2.2.2.2.1 x.2.2.2.2.2.2.1)
  |15=>λx=>z6n.mk x.1 x.2.1 x.2.2.1 (z0p.mk (z0j.mk x.2.2.2.1 (zbt.mk x.2.2.2.2.1 x.2.2.2.2.2.1 x.2.2.2.2.2.2.1)) (zbt.mk x.2.2.2.2.2.2.2.1 x.2.2.2.2.2.2.2.2.1 x.2.2.2.2.2.2.2.2.2.1)) x.2.2.2.2.2.2.2.2.2.2.1 x.2.2.2.2.2.2.2.2.2.2.2.1 x.2.2.2.2.2.2.2.2.2.2.2.2.1
  |16=>λx=>z3n.mk x.1 x.2.1
  |17=>λx=>zzk.mk x.1 x.2.1
  |_+18=>λ_=>()
 enc:=λi=>match i with
  |0=>kz4.el
  |1=>zz1.el
  |2=>yz1.el
  |3=>yz7.el
  |4=>zz7.el
  |5=>kz2.el
  |6=>zz4.el
  |7=>zz3.el
  |8=>zz0.el
  |9=>yzh.el
  |10=>z2i.el
  |11=>kzy.el
  |12=>zbt.el
  |13=>z0j.el
  |14=>z0p.el
  |15=>z6n.el
  |16=>z3n.el
  |17=>zzk.el
  |_+18=>λ_=>.agg []
 ty:=fnd z00y
 ow:=datOw
def zzf(P:Program):dat.Ok P where
 enc:=λi=>match i with
  |0=>λx=>kz4.yz4 x
  |1=>λx=>zz1.yz4 x
  |2=>λx=>yz1.yz4 x
  |3=>λx=>yz7.yz4 x
  |4=>λx=>zz7.yz4 x
  |5=>λx=>kz2.yz4 x
  |6=>λx=>zz4.yz4 x
  |7=>λx=>zz3.yz4 x
  |8=>λx=>zz0.yz4 x
  |9=>λx=>yzh.yz4 x
  |10=>λx=>z2i.yz4 x
  |11=>λx=>kzy.yz4 x
  |12=>λx=>zbt.yz4 x
  |13=>λx=>z0j.yz4 x
  |14=>λx=>z0p.yz4 x
  |15=>λx=>z6n.yz4 x
  |16=>λx=>z3n.yz4 x
  |17=>λx=>zzk.yz4 x
  |_+18=>λ_=>rfl
 getMake:=λi=>match i with
  |0=>λx=>rfl
  |1=>λx=>rfl
  |2=>λx=>rfl
  |3=>λx=>rfl
  |4=>λx=>rfl
  |5=>λx=>rfl
  |6=>λx=>rfl
  |7=>λx=>rfl
  |8=>λx=>rfl
  |9=>λx=>rfl
  |10=>λx=>rfl
  |11=>λx=>rfl
  |12=>λx=>rfl
  |13=>λx=>rfl
  |14=>λx=>rfl
  |15=>λx=>rfl
  |16=>λx=>rfl
  |17=>λx=>rfl
  |_+18=>λ_=>rfl
 flat:=λi=>match i with
  |0=>λt h=>by simp only[dat,zjl,Qbl,List.not_mem_nil,or_false]at h;rcases h with rfl|rfl <;> trivial
  |1=>λt h=>by simp only[dat,zjl,Qbl,List.not_mem_nil,or_false]at h;rcases h with rfl|rfl|rfl|rfl|rfl|rfl <;> trivial
  |2=>λt h=>by simp only[dat,zjl,Qbl,List.not_mem_nil,or_false]at h;rcases h with rfl|rfl|rfl|rfl|rfl|rfl|rfl|rfl|rfl <;> trivial
  |3=>λt h=>by simp only[dat,zjl,Qbl,List.not_mem_nil,or_false]at h;rcases h with rfl|rfl|rfl|rfl|rfl|rfl|rfl|rfl|rfl|rfl <;> trivial
  |4=>λt h=>by simp only[dat,zjl,Qbl,List.not_mem_nil,or_false]at h;rcases h with rfl|rfl|rfl <;> trivial
  |5=>λt h=>by simp only[dat,zjl,Qbl,List.not_mem_nil,or_false]at h;rcases h with rfl|rfl|rfl|rfl|rfl <;> trivial
  |6=>λt h=>by simp only[dat,zjl,Qbl,List.not_mem_nil,or_false]at h;rcases h with rfl|rfl|rfl|rfl|rfl|rfl|rfl|rfl|rfl|rfl|rfl <;> trivial
  |7=>λt h=>by simp only[dat,zjl,Qbl,List.not_mem_nil,or_false]at h;rcases h with rfl|rfl|rfl <;> trivial
  |8=>λt h=>by simp only[dat,zjl,Qbl,List.not_mem_nil,or_false]at h;rcases h with rfl|rfl <;> trivial
  |9=>λt h=>by simp only[dat,zjl,Qbl,List.not_mem_nil,or_false]at h;rcases h with rfl|rfl|rfl|rfl|rfl|rfl|rfl|rfl|rfl|rfl|rfl|rfl|rfl|rfl|rfl <;> trivial
  |10=>λt h=>by simp only[dat,zjl,Qbl,List.not_mem_nil,or_false]at h;rcases h with rfl|rfl|rfl <;> trivial
  |11=>λt h=>by simp only[dat,zjl,Qbl,List.not_mem_nil,or_false]at h;rcases h with rfl|rfl <;> trivial
  |12=>λt h=>by simp only[dat,zjl,Qbl,List.not_mem_nil,or_false]at h;rcases h with rfl|rfl|rfl <;> trivial
  |13=>λt h=>by simp only[dat,zjl,Qbl,List.not_mem_nil,or_false]at h;rcases h with rfl|rfl|rfl|rfl <;> trivial
  |14=>λt h=>by simp only[dat,zjl,Qbl,List.not_mem_nil,or_false]at h;rcases h with rfl|rfl|rfl|rfl|rfl|rfl|rfl <;> trivial
  |15=>λt h=>by simp only[dat,zjl,Qbl,List.not_mem_nil,or_false]at h;rcases h with rfl|rfl|rfl|rfl|rfl|rfl|rfl|rfl|rfl|rfl|rfl|rfl|rfl <;> trivial
  |16=>λt h=>by simp only[dat,zjl,Qbl,List.not_mem_nil,or_false]at h;rcases h with rfl|rfl <;> trivial
  |17=>λt h=>by simp only[dat,zjl,Qbl,List.not_mem_nil,or_false]at h;rcases h with rfl|rfl <;> trivial
  |_+18=>λt h=>by cases h
 ty:=λe t h=>by
  have:=zat h;simp only[z00y,Qbl,Qbz,List.not_mem_nil,or_false]at this
  rcases this with ⟨_,rfl⟩|⟨_,rfl⟩|⟨_,rfl⟩|⟨_,rfl⟩|⟨_,rfl⟩|⟨_,rfl⟩|⟨_,rfl⟩|⟨_,rfl⟩|⟨_,rfl⟩|⟨_,rfl⟩|⟨_,rfl⟩|⟨_,rfl⟩|⟨_,rfl⟩|⟨_,rfl⟩|⟨_,rfl⟩|⟨_,rfl⟩|⟨_,rfl⟩|⟨_,rfl⟩|⟨_,rfl⟩|⟨_,rfl⟩|⟨_,rfl⟩|⟨_,rfl⟩|⟨_,rfl⟩|⟨_,rfl⟩|⟨_,rfl⟩|⟨_,rfl⟩|⟨_,rfl⟩|⟨_,rfl⟩|⟨_,rfl⟩|⟨_,rfl⟩|⟨_,rfl⟩|⟨_,rfl⟩|⟨_,rfl⟩|⟨_,rfl⟩|⟨_,rfl⟩|⟨_,rfl⟩|⟨_,rfl⟩|⟨_,rfl⟩|⟨_,rfl⟩|⟨_,rfl⟩|⟨_,rfl⟩|⟨_,rfl⟩|⟨_,rfl⟩|⟨_,rfl⟩|⟨_,rfl⟩|⟨_,rfl⟩|⟨_,rfl⟩|⟨_,rfl⟩|⟨_,rfl⟩|⟨_,rfl⟩|⟨_,rfl⟩|⟨_,rfl⟩|⟨_,rfl⟩|⟨_,rfl⟩|⟨_,rfl⟩ <;> simp
 kin:=λi=>match i with
  |0=>λx _=>kz4.kin x
  |1=>λx _=>zz1.kin x
  |2=>λx _=>yz1.kin x
  |3=>λx _=>yz7.kin x
  |4=>λx _=>zz7.kin x
  |5=>λx _=>kz2.kin x
  |6=>λx _=>zz4.kin x
  |7=>λx _=>zz3.kin x
  |8=>λx _=>zz0.kin x
  |9=>λx _=>yzh.kin x
  |10=>λx _=>z2i.kin x
  |11=>λx _=>kzy.kin x
  |12=>λx _=>zbt.kin x
  |13=>λx _=>z0j.kin x
  |14=>λx _=>z0p.kin x
  |15=>λx _=>z6n.kin x
  |16=>λx _=>z3n.kin x
  |17=>λx _=>zzk.kin x
  |_+18=>λ_ _=>by simp only[dat,V.kin,V.zb1]
def anb(l:List (Nat×Nat))(f:Func):AC:=(ann l (f.body.getD .skip) 0).1
abbrev dI:Sh:=.d (.int .i64)
abbrev dB:Sh:=.d .bool
abbrev dS:Sh:=.d .str
abbrev dU:Sh:=.d (.int .u8)
abbrev dA:Sh:=.d (.sl .str)
abbrev dT(i:Nat):Sh:=.d (.st i)
abbrev dL(i:Nat):Sh:=.d (.sl (.st i))
abbrev Ot:=Option
def tr{α:Type}{a b c:α}(h:a=b)(k:b=c:=by kernel_rfl):a=c:=h.trans k
def u1{a r x:Type}(f:a->r)(y:a×x):r:=f y.1
def u2{a b r x:Type}(f:a->b->r)(y:a×b×x):r:=u1 (f y.1) y.2
def u3{a b c r x:Type}(f:a->b->c->r)(y:a×b×c×x):r:=u2 (f y.1) y.2
def u4{a b c d r x:Type}(f:a->b->c->d->r)(y:a×b×c×d×x):r:=u3 (f y.1) y.2
def u5{a b c d e r x:Type}(f:a->b->c->d->e->r)(y:a×b×c×d×e×x):r:=u4 (f y.1) y.2
def u6{a b c d e g r x:Type}(f:a->b->c->d->e->g->r)(y:a×b×c×d×e×g×x):r:=u5 (f y.1) y.2
def u7{a b c d e g h r x:Type}(f:a->b->c->d->e->g->h->r)(y:a×b×c×d×e×g×h×x):r:=u6 (f y.1) y.2
def u8{a b c d e g h i r x:Type}(f:a->b->c->d->e->g->h->i->r)(y:a×b×c×d×e×g×h×i×x):r:=u7 (f y.1) y.2
def u9{a b c d e g h i j r x:Type}(f:a->b->c->d->e->g->h->i->j->r)(y:a×b×c×d×e×g×h×i×j×x):r:=u8 (f y.1) y.2
def u10{a b c d e g h i j k r x:Type}(f:a->b->c->d->e->g->h->i->j->k->r)(y:a×b×c×d×e×g×h×i×j×k×x):r:=u9 (f y.1) y.2
def u11{a b c d e g h i j k l r x:Type}(f:a->b->c->d->e->g->h->i->j->k->l->r)(y:a×b×c×d×e×g×h×i×j×k×l×x):r:=u10 (f y.1) y.2
def u12{a b c d e g h i j k l m r x:Type}(f:a->b->c->d->e->g->h->i->j->k->l->m->r)(y:a×b×c×d×e×g×h×i×j×k×l×m×x):r:=u11 (f y.1) y.2
def okG{R:Type}{P:Program}{D:Dat}{hD:D.Ok P}{f i p:Nat}{args:List Sh}{b:List OSh}{outs:List Sh}{a:List OSh}{pure:Bool}{l:LSh}{pack:HL D.T l.tys->R}{un:R->HL D.T (Sh.z45 outs++z19 a)}
  {go:Nat->HL D.T (Sh.z45 args++z19 b)->Option R} {z6m:Nat->List (Nat×Lb D R)}{c:AC}{gs:List Nat}{fn:Func}{bs:List (FI D)}(y:OkL P bs)
  (C:P.funcs[f]? = some fn) (q:fn.ntmps=i) (g:∀args w,(callFunc f args).run P w = .ok (.enter f args) w)
  (A:∀n x,go (n+1) x=run P D (tb bs n) (jump D (z6m n)) c (entry D args b i gs x) (yan D l pack))
  (u:∀n,y6f (λj m=>∀x,m.go x=y6d P D (tb bs n) (jump D (z6m n)) j c (yan D l pack) (m.sh.bld D x)) (z6m (n+1)))
  (E:fn.body=some c.erase) (r:decide c.labels.Nodup=true) (h:chkB p i args outs b a pure l c gs=true) (B:∀n,yfi p (z6m n)=true)
  (e:∀x,y7d P D (l.bld D x) fn.results.toList=some (z41 D (λk=>k) outs (HL.fst _ (un (pack x)))))
  (z:∀x,go 0 x=none) (s:y6f (λ_ m=>∀x,m.go x=none) (z6m 0))
  (d:∀x,pure=true∨(l.bld D x).o=z86 D (λk=>k) a 0 (HL.snd _ (un (pack x)))) :
  FOk P (FI.of D f i p args b outs a pure l pack un go z6m c gs) :=
 (zuz hD y (FI.z3l (hD:=hD) C q g E (Qac r) h B e z s A u d)).1
def okF{R:Type}{f i p:Nat}{args:List Sh}{b:List OSh}{outs:List Sh}{a:List OSh}{pure:Bool}{l:LSh}{pack:HL dat.T l.tys->R}{un:R->HL dat.T (Sh.z45 outs++z19 a)}
  {go:Nat->HL dat.T (Sh.z45 args++z19 b)->Option R} {z6m:Nat->List (Nat×Lb dat R)}{c:AC}{gs:List Nat}{fn:Func}{P:Program}{bs:List (FI dat)}(y:OkL P bs)
  (C:P.funcs[f]? = some fn) (q:fn.ntmps=i) (g:∀args w,(callFunc f args).run P w = .ok (.enter f args) w)
  (A:∀n x,go (n+1) x=run P dat (tb bs n) (jump dat (z6m n)) c (entry dat args b i gs x) (yan dat l pack))
  (u:∀n,y6f (λj m=>∀x,m.go x=y6d P dat (tb bs n) (jump dat (z6m n)) j c (yan dat l pack) (m.sh.bld dat x)) (z6m (n+1)))
  (D:fn.body=some c.erase:=by kernel_rfl) (r:decide c.labels.Nodup=true:=by kernel_rfl) (h:chkB p i args outs b a pure l c gs=true:=by kernel_rfl) (B:∀n,yfi p (z6m n)=true:=by exact λn=>by kernel_rfl)
  (e:∀x,y7d P dat (l.bld dat x) fn.results.toList=some (z41 dat (λk=>k) outs (HL.fst _ (un (pack x)))):=by exact λx=>by kernel_rfl)
  (z:∀x,go 0 x=none:=by exact λ_=>rfl) (s:y6f (λ_ m=>∀x,m.go x=none) (z6m 0):=by repeat (first|exact trivial|refine⟨λ_=>rfl,?_⟩))
  (d:∀x,pure=true∨(l.bld dat x).o=z86 dat (λk=>k) a 0 (HL.snd _ (un (pack x))):=by first|exact λx=>.inl rfl|exact λx=>.inr (by kernel_rfl)) :
  FOk P (FI.of dat f i p args b outs a pure l pack un go z6m c gs) :=
 okG (hD:=zzf P) y C q g A u D r h B e z s d
end Go.Ab
namespace Go.Proofs
open Go.Shelf
open Tryz
def ypv:Go.Shelf.Ren:=⟨λ|190=>94|125=>147|258=>146|128=>184|129=>185|302=>175|303=>176|304=>177|305=>178|306=>179|307=>180|308=>181|309=>182|310=>183|333=>204|329=>205|330=>206|334=>207|335=>208|336=>209|344=>214|n=>n,λ|31=>31|9=>9|3=>3|46=>194|0=>0|51=>225|53=>227|4=>4|183=>218|182=>217|131=>89|5=>5|218=>239|222=>243|228=>250|229=>180|n=>n,λ|n=>n⟩
def yaw:Go.Proofs.Lays.n190 prog ypv:={
 mixed:=by kernel_rfl
 f125:=func147.trans (congrArg some (by kernel_rfl))
 f128:=func184.trans (congrArg some (by kernel_rfl))
 f129:=func185.trans (congrArg some (by kernel_rfl))
 f190:=func94.trans (congrArg some (by kernel_rfl))
 f258:=func146.trans (congrArg some (by kernel_rfl))
 f302:=func175.trans (congrArg some (by kernel_rfl))
 f303:=func176.trans (congrArg some (by kernel_rfl))
 f304:=func177.trans (congrArg some (by kernel_rfl))
 f305:=func178.trans (congrArg some (by kernel_rfl))
 f306:=func179.trans (congrArg some (by kernel_rfl))
 f307:=func180.trans (congrArg some (by kernel_rfl))
 f308:=func181.trans (congrArg some (by kernel_rfl))
 f309:=func182.trans (congrArg some (by kernel_rfl))
 f310:=func183.trans (congrArg some (by kernel_rfl))
 f329:=func205.trans (congrArg some (by kernel_rfl))
 f330:=func206.trans (congrArg some (by kernel_rfl))
 f333:=func204.trans (congrArg some (by kernel_rfl))
 f334:=func207.trans (congrArg some (by kernel_rfl))
 f335:=func208.trans (congrArg some (by kernel_rfl))
 f336:=func209.trans (congrArg some (by kernel_rfl))
 f344:=func214.trans (congrArg some (by kernel_rfl))
 t0:=underlying0
 a0:=isAgg0
 z0:=sizeOf0
 v0:=zeroValue0
 t3:=underlying3
 a3:=isAgg3
 z3:=sizeOf3
 v3:=zeroValue3
 t4:=underlying4
 a4:=isAgg4
 z4:=sizeOf4
 v4:=zeroValue4
 t5:=underlying5
 a5:=isAgg5
 z5:=sizeOf5
 v5:=zeroValue5
 t9:=underlying9
 a9:=isAgg9
 z9:=sizeOf9
 v9:=zeroValue9
 t31:=underlying31
 a31:=isAgg31
 z31:=sizeOf31
 v31:=zeroValue31
 t46:=underlying194
 a46:=isAgg194
 z46:=sizeOf194
 v46:=zeroValue194
 t51:=underlying225
 a51:=isAgg225
 z51:=sizeOf225
 v51:=zeroValue225
 t53:=underlying227
 a53:=isAgg227
 z53:=sizeOf227
 v53:=zeroValue227
 t131:=underlying89
 a131:=isAgg89
 z131:=sizeOf89
 v131:=zeroValue89
 t182:=underlying217
 a182:=isAgg217
 z182:=sizeOf217
 v182:=zeroValue217
 t183:=underlying218
 a183:=isAgg218
 z183:=sizeOf218
 v183:=zeroValue218
 t218:=underlying239
 a218:=isAgg239
 z218:=sizeOf239
 v218:=zeroValue239
 t222:=underlying243
 a222:=isAgg243
 z222:=sizeOf243
 v222:=zeroValue243
 t228:=underlying250
 a228:=isAgg250
 z228:=sizeOf250
 v228:=zeroValue250
 t229:=underlying180
 a229:=isAgg180
 z229:=sizeOf180
 v229:=zeroValue180}
def yk7:Go.Shelf.Ren:=⟨λ|7=>86|10=>132|n=>n,λ|23=>86|26=>9|3=>4|28=>150|0=>0|27=>149|33=>75|4=>4|n=>n,λ|n=>n⟩
def z05n:Go.Proofs.SlLaysZ.n7 prog yk7:={
 mixed:=by kernel_rfl
 f7:=⟨f86.name,by decide,func86.trans (congrArg some (by kernel_rfl))⟩
 f10:=⟨f132.name,by decide,func132.trans (congrArg some (by kernel_rfl))⟩
 t0:=underlying0
 a0:=isAgg0
 z0:=sizeOf0
 v0:=zeroValue0
 t4:=underlying4
 a4:=isAgg4
 z4:=sizeOf4
 v4:=zeroValue4
 t23:=underlying86
 a23:=isAgg86
 z23:=sizeOf86
 v23:=zeroValue86
 t26:=underlying9
 a26:=isAgg9
 z26:=sizeOf9
 v26:=zeroValue9
 t27:=underlying149
 a27:=isAgg149
 z27:=sizeOf149
 v27:=zeroValue149
 t28:=underlying150
 a28:=isAgg150
 z28:=sizeOf150
 v28:=zeroValue150
 t33:=underlying75
 a33:=isAgg75
 z33:=sizeOf75
 v33:=zeroValue75}
def y8n:Go.Shelf.Ren:=⟨λ|6=>85|8=>131|9=>94|11=>172|13=>147|12=>146|23=>184|24=>185|14=>175|15=>176|16=>177|17=>178|18=>179|19=>180|20=>181|21=>182|22=>183|25=>204|26=>205|27=>206|28=>207|29=>208|30=>209|31=>214|n=>n,λ|26=>9|28=>150|24=>31|0=>0|3=>3|37=>194|48=>225|50=>227|4=>4|40=>218|39=>217|45=>89|5=>5|9=>9|51=>239|55=>243|57=>250|58=>180|33=>75|n=>n,λ|n=>n⟩
def z04j:Go.Proofs.SlLaysZ.n6 prog y8n:={
 mixed:=by kernel_rfl
 f6:=⟨f85.name,by decide,func85.trans (congrArg some (by kernel_rfl))⟩
 f8:=⟨f131.name,by decide,func131.trans (congrArg some (by kernel_rfl))⟩
 f11:=⟨f172.name,by decide,func172.trans (congrArg some (by kernel_rfl))⟩
 t0:=underlying0
 a0:=isAgg0
 z0:=sizeOf0
 v0:=zeroValue0
 t24:=underlying31
 a24:=isAgg31
 z24:=sizeOf31
 v24:=zeroValue31
 t26:=underlying9
 a26:=isAgg9
 z26:=sizeOf9
 v26:=zeroValue9
 t28:=underlying150
 a28:=isAgg150
 z28:=sizeOf150
 v28:=zeroValue150
 i26:=by kernel_rfl}
def yyi:Go.Shelf.Ren:=⟨λ|4=>133|n=>n,λ|22=>22|25=>83|3=>3|4=>4|9=>9|20=>20|0=>0|n=>n,λ|n=>n⟩
def growA:Go.Proofs.Lays8.n4 prog yyi:={
 mixed:=by kernel_rfl
 f4:=⟨f133.name,by decide,func133.trans (congrArg some (by kernel_rfl))⟩
 t0:=underlying0
 a0:=isAgg0
 z0:=sizeOf0
 v0:=zeroValue0
 t3:=underlying3
 a3:=isAgg3
 z3:=sizeOf3
 v3:=zeroValue3
 t4:=underlying4
 a4:=isAgg4
 z4:=sizeOf4
 v4:=zeroValue4
 t9:=underlying9
 a9:=isAgg9
 z9:=sizeOf9
 v9:=zeroValue9
 t20:=underlying20
 a20:=isAgg20
 z20:=sizeOf20
 v20:=zeroValue20
 t22:=underlying22
 a22:=isAgg22
 z22:=sizeOf22
 v22:=zeroValue22}
def yw5:Go.Shelf.Ren:=⟨λ|4=>135|n=>n,λ|22=>23|25=>34|3=>3|4=>4|9=>9|20=>20|0=>0|n=>n,λ|n=>n⟩
def growR:Go.Proofs.Lays8.n4 prog yw5:={
 mixed:=by kernel_rfl
 f4:=⟨f135.name,by decide,func135.trans (congrArg some (by kernel_rfl))⟩
 t0:=underlying0
 a0:=isAgg0
 z0:=sizeOf0
 v0:=zeroValue0
 t3:=underlying3
 a3:=isAgg3
 z3:=sizeOf3
 v3:=zeroValue3
 t4:=underlying4
 a4:=isAgg4
 z4:=sizeOf4
 v4:=zeroValue4
 t9:=underlying9
 a9:=isAgg9
 z9:=sizeOf9
 v9:=zeroValue9
 t20:=underlying20
 a20:=isAgg20
 z20:=sizeOf20
 v20:=zeroValue20
 t22:=underlying23
 a22:=isAgg23
 z22:=sizeOf23
 v22:=zeroValue23}
def y7x:Go.Shelf.Ren:=⟨λ|146=>26|221=>61|268=>108|138=>109|143=>110|195=>152|197=>153|218=>154|219=>111|260=>188|217=>155|225=>156|224=>157|267=>158|266=>189|314=>190|n=>n,λ|9=>9|31=>31|3=>3|4=>4|0=>0|105=>202|21=>21|5=>5|46=>194|119=>245|139=>248|138=>247|146=>230|51=>225|n=>n,λ|1=>0|3=>1|4=>2|n=>n⟩
def y4r:Go.Proofs.Lays.n146 prog y7x:={
 mixed:=by kernel_rfl
 f138:=func109.trans (congrArg some (by kernel_rfl))
 f143:=func110.trans (congrArg some (by kernel_rfl))
 f146:=func26.trans (congrArg some (by kernel_rfl))
 f195:=func152.trans (congrArg some (by kernel_rfl))
 f197:=func153.trans (congrArg some (by kernel_rfl))
 f217:=func155.trans (congrArg some (by kernel_rfl))
 f218:=func154.trans (congrArg some (by kernel_rfl))
 f219:=func111.trans (congrArg some (by kernel_rfl))
 f221:=func61.trans (congrArg some (by kernel_rfl))
 f224:=func157.trans (congrArg some (by kernel_rfl))
 f225:=func156.trans (congrArg some (by kernel_rfl))
 f260:=func188.trans (congrArg some (by kernel_rfl))
 f266:=func189.trans (congrArg some (by kernel_rfl))
 f267:=func158.trans (congrArg some (by kernel_rfl))
 f268:=func108.trans (congrArg some (by kernel_rfl))
 f314:=func190.trans (congrArg some (by kernel_rfl))
 t0:=underlying0
 a0:=isAgg0
 z0:=sizeOf0
 v0:=zeroValue0
 t3:=underlying3
 a3:=isAgg3
 z3:=sizeOf3
 v3:=zeroValue3
 t4:=underlying4
 a4:=isAgg4
 z4:=sizeOf4
 v4:=zeroValue4
 t5:=underlying5
 a5:=isAgg5
 z5:=sizeOf5
 v5:=zeroValue5
 t9:=underlying9
 a9:=isAgg9
 z9:=sizeOf9
 v9:=zeroValue9
 t21:=underlying21
 a21:=isAgg21
 z21:=sizeOf21
 v21:=zeroValue21
 t31:=underlying31
 a31:=isAgg31
 z31:=sizeOf31
 v31:=zeroValue31
 t46:=underlying194
 a46:=isAgg194
 z46:=sizeOf194
 v46:=zeroValue194
 t51:=underlying225
 a51:=isAgg225
 z51:=sizeOf225
 v51:=zeroValue225
 t105:=underlying202
 a105:=isAgg202
 z105:=sizeOf202
 v105:=zeroValue202
 t119:=underlying245
 a119:=isAgg245
 z119:=sizeOf245
 t138:=underlying247
 a138:=isAgg247
 z138:=sizeOf247
 v138:=zeroValue247
 t139:=underlying248
 a139:=isAgg248
 z139:=sizeOf248
 v139:=zeroValue248
 t146:=underlying230
 a146:=isAgg230
 z146:=sizeOf230
 v146:=zeroValue230
 g1:=by kernel_rfl
 g3:=by kernel_rfl
 g4:=by kernel_rfl}
def y8j:Go.Shelf.Ren:=⟨λ|156=>28|165=>63|166=>64|169=>65|240=>112|241=>113|276=>159|277=>160|n=>n,λ|31=>31|9=>9|3=>3|4=>4|0=>0|20=>20|72=>128|76=>132|70=>125|37=>126|75=>131|127=>172|164=>206|5=>5|80=>134|n=>n,λ|n=>n⟩
def yoe:Go.Proofs.Lays.n156 prog y8j:={
 mixed:=by kernel_rfl
 f156:=func28.trans (congrArg some (by kernel_rfl))
 f165:=func63.trans (congrArg some (by kernel_rfl))
 f166:=func64.trans (congrArg some (by kernel_rfl))
 f169:=func65.trans (congrArg some (by kernel_rfl))
 f240:=func112.trans (congrArg some (by kernel_rfl))
 f241:=func113.trans (congrArg some (by kernel_rfl))
 f276:=func159.trans (congrArg some (by kernel_rfl))
 f277:=func160.trans (congrArg some (by kernel_rfl))
 t0:=underlying0
 a0:=isAgg0
 z0:=sizeOf0
 v0:=zeroValue0
 t3:=underlying3
 a3:=isAgg3
 z3:=sizeOf3
 v3:=zeroValue3
 t4:=underlying4
 a4:=isAgg4
 z4:=sizeOf4
 v4:=zeroValue4
 t9:=underlying9
 a9:=isAgg9
 z9:=sizeOf9
 v9:=zeroValue9
 t20:=underlying20
 a20:=isAgg20
 z20:=sizeOf20
 v20:=zeroValue20
 t31:=underlying31
 a31:=isAgg31
 z31:=sizeOf31
 v31:=zeroValue31
 t37:=underlying126
 a37:=isAgg126
 z37:=sizeOf126
 v37:=zeroValue126
 t70:=underlying125
 a70:=isAgg125
 z70:=sizeOf125
 v70:=zeroValue125
 t72:=underlying128
 a72:=isAgg128
 z72:=sizeOf128
 v72:=zeroValue128
 t75:=underlying131
 a75:=isAgg131
 z75:=sizeOf131
 v75:=zeroValue131
 t76:=underlying132
 a76:=isAgg132
 z76:=sizeOf132
 v76:=zeroValue132
 t127:=underlying172
 a127:=isAgg172
 z127:=sizeOf172
 v127:=zeroValue172
 t164:=underlying206
 a164:=isAgg206
 z164:=sizeOf206
 v164:=zeroValue206}
def zjy:Builder.Extra prog y8j:={
 sizeBuilder:=by kernel_rfl
 liesBuilder:=by kernel_rfl
 t5:=underlying5
 a5:=isAgg5
 z5:=sizeOf5
 v5:=zeroValue5
 infoByte:=by kernel_rfl
 cellsByte:=by kernel_rfl
 sizeByte:=by kernel_rfl
 neB5:=by decide}
end Go.Proofs
namespace Go.Proofs
open Go Go.RowKit Go.Maps Go.Sort Go.Shelf Go.Lib
open Go.Ab (Qbk Qbn Qbr Qbu Qbv Qbw Qbz Qcc)
open Tryz
def z068(m:Nat):AnyZ.SortsIn prog y8n Fence.wide m :=
 ⟨λblk d a g W h b e=>callsIn_wide.2 (Any.slices_Sort_string yaw blk d a g W h b e),
  λp a W=>callsIn_wide.2 (Any.slices_Sort_string_none yaw p a W)⟩
set_option maxHeartbeats 1000000 in
def z052:Ab.yn7 prog 43 9:=λb es clock w hb ft hsz=>by
 refine(callsIn_wide (n:=6)).1 ?_;have hbl:b<w.heap.size:=(Qbn.1 hb).1;have hown:w.ownsMap prog 9 (Ab.zvs (H:=Unit)) b es.size (DataW.map ((es.toList.map (WideElems.rg prog 9 (Ab.zvs (H:=Unit)))).foldr DataW.insert [])):=⟨es,clock,hb,ft,Qbw _,rfl⟩
 have hlen:Maps.size (DataW.map ((es.toList.map (WideElems.rg prog 9 (Ab.zvs (H:=Unit)))).foldr DataW.insert []))=es.size:=by
  rw[Maps.size_eq,(Ab.zvu _).length_eq];simp
 generalize DataW.map ((es.toList.map (WideElems.rg prog 9 (Ab.zvs (H:=Unit)))).foldr DataW.insert [])=D0 at hown hlen ⊢;have hmax:Maps.size D0<=maxLen:=by rw[hlen];simp only[maxLen];omega
 have hbytes:Maps.size D0 * 16<=140737488355328:=by rw[hlen];omega
 have hseq:SeqGives Fence.wide 2 prog 132 #[.pointer (some ⟨w.heap.size,0,none⟩)] encStr (λss=>ss.Perm (strKeys D0)) (Maps.size D0) (w.alloc (.cells #[.map (some b)] 86)) :=
  AnyZ.keys_gives (ρ:=yk7) {z05n with} Fence.wide _ trivial rfl (by omega) w.heap.size b es.size D0 _ (by simp) (by simp) (by
   obtain⟨es',clock',hb',Ft,hs,hD⟩:=hown
   exact⟨es',clock',(Below.heap_alloc _ _ b hbl).trans hb',Ft,hs,hD⟩)
 have cK:∀mb W,CallsIn Fence.wide 5 prog 86 #[.map mb] W λe w'=>e = .returned (.func (.func 132) #[] #[.pointer (some ⟨W.heap.size,0,none⟩)])∧w'=W.alloc (.cells #[.map mb] 86):=λmb W=>AnyZ.keys_in z05n Fence.wide 5 trivial rfl mb W
 have cS:=AnyZ.sorted_in z04j Fence.wide 5 trivial trivial trivial trivial rfl (by omega) (z068 _) (enters_of func94 (by kernel_rfl) rfl) 132 #[.pointer (some ⟨w.heap.size,0,none⟩)] trivial (enters_of func132 (by kernel_rfl) rfl) _ _ hmax hbytes _ hseq;change CallsIn _ _ prog 85 _ _ _ at cS;have hfK:Fence.wide.fn 86:=trivial;have hfS:Fence.wide.fn 85:=trivial
 refine callsIn_of_wp func43 rfl trivial ?_ rfl;simp only[ntmps43,List.size_toArray,List.length_cons,Qcc,Nat.reduceAdd,Nat.reduceSub,Array.replicate_succ,Array.replicate_zero,List.push_toArray,List.append_toArray,List.nil_append,List.cons_append]
 gi_wp2_with (first
  |(gi_at_call 86;refine(cK _ _).mono ?_;rintro e w' ⟨rfl,rfl⟩)
  |(gi_at_call 85;refine cS.mono ?_;rintro e w' ⟨v,ss,rfl,hS,hrow,hnil,hb⟩))
 go_ret
 exact⟨v,ss,rfl,hS,ownsRow_base_a hrow (by simp),((Below.refl _ w).alloc (Qbw _) _).trans (hb.mono (by simp))⟩
def ylz{P:Program}{e n b:Nat}(h:(P.info? e).map (λi=>(i.zero.map (·.cells.size),i.size,i.bytes))=some (some n,n,b)):∃i z,P.info? e=some i∧i.zero=some z∧i.size=n∧i.bytes=b∧z.cells.size=n:=by
 cases g:P.info? e with
 |none=>rw[g]at h;cases h
 |some i=>
  rw[g]at h;simp only[Qbr,Qbu,Qbz]at h;have⟨a,k,j⟩:=h
  cases d:i.zero with
  |none=>rw[d]at a;cases a
  |some z=>
   rw[d]at a;simp only[Qbr,Qbu]at a;exact⟨i,z,rfl,d,k,j,a⟩
set_option maxHeartbeats 2000000 in
set_option maxRecDepth 100000 in
def yyl(ad:Addr)(n c:Nat)(cells:List Value)(w:World)(hl:cells.length=n * 9)(hc:∀j u,cells[j]? = some u->w.cell? (ad.add j)=some u)(h1:∀u∈cells,u.oneCell'=true)(hn:n<=maxLen)(hb:n * 120<=140737488355328) :
  Calls prog 143 #[.slice (some ad) n c] w λe w'=>∃v',e = .returned v'∧w'.ownsRow w.heap.size 42 9 v' n cells∧Below w.heap.size w w':=by
 have t40:prog.underlying 40=some (.slice 42):=by kernel_rfl
 obtain⟨i0,z,hi,hz0,hz1,hz2,hz3⟩:=ylz (P:=prog) (e:=42) (n:=9) (b:=120) (by kernel_rfl);have q40:∀(w:World) (a:Option Addr) (n c n' c':Nat),(binOp .eql 40 (.slice a n c) (.slice none n' c')).run prog w = .ok (.bool a.isNone) w:=λw a n c n' c'=>Lib.run_eql_slice_nil w _ _ a n c n' c' t40
 have A:Aside (∀j u,cells[j]? = some u->w.cell? (ad.add j)=some u):=hc;have B:Aside (∀u∈cells,u.oneCell'=true):=h1;clear hc h1
 go_enter func143,ntmps143
 go_wp2_with (at_builtin;refine wpList_append_own _ rfl _ _ 40 rfl w.heap.size 42 i0 z 9 120 t40 hi hz0 hz1 hz2 hz3 (by decide) _ _ _ rfl (World.ownsRow_made w #[] 0 (Qbw _) (Qbv _) rfl) ad n c cells rfl ?qc1 ?qc2 ?qc3 ?qc4 ?qc5 ?qc6 ?_)
 case qc1=>exact hl
 case qc2=>
  intro j u hj;exact Lib.cell?_alloc_some _ (A.out j u hj)
 case qc3=>exact B.out
 case qc4=>omega
 case qc5=>omega
 case qc6=>simp
 intro v' w1 hown hgrow hnil
 go_wp2
 go_ret
 refine⟨v',rfl,by simpa using hown,?_⟩;exact((Below.refl _ w).alloc (Qbw _) _).grown hgrow (by simp) (by intro k hk;simp[Value.ownBlock]at hk;omega)
set_option maxHeartbeats 1000000 in
def yun(w:World):Calls prog 143 #[.slice none 0 0] w λe w'=>e = .returned (.slice none 0 0)∧w'=w:=by
 have t40:prog.underlying 40=some (.slice 42):=by kernel_rfl
 have q40:∀(w:World) (a:Option Addr) (n c n' c':Nat),(binOp .eql 40 (.slice a n c) (.slice none n' c')).run prog w = .ok (.bool a.isNone) w:=λw a n c n' c'=>Lib.run_eql_slice_nil w _ _ a n c n' c' t40
 go_enter func143,ntmps143
 go_wp2
 go_ret
 exact⟨rfl,rfl⟩
set_option maxHeartbeats 2000000 in
set_option maxRecDepth 100000 in
def z01f(ad:Addr)(n c:Nat)(cells:List Value)(w:World)(hl:cells.length=n * 1)(hc:∀j u,cells[j]? = some u->w.cell? (ad.add j)=some u)(h1:∀u∈cells,u.oneCell'=true)(hn:n<=maxLen)(hb:n * 16<=140737488355328) :
  Calls prog 50 #[.slice (some ad) n c] w λe w'=>∃v',e = .returned v'∧w'.ownsRow w.heap.size 9 1 v' n cells∧Below w.heap.size w w':=by
 have t31:prog.underlying 31=some (.slice 9):=by kernel_rfl
 obtain⟨i0,z,hi,hz0,hz1,hz2,hz3⟩:=ylz (P:=prog) (e:=9) (n:=1) (b:=16) (by kernel_rfl);have q31:∀(w:World) (a:Option Addr) (n c n' c':Nat),(binOp .eql 31 (.slice a n c) (.slice none n' c')).run prog w = .ok (.bool a.isNone) w:=λw a n c n' c'=>Lib.run_eql_slice_nil w _ _ a n c n' c' t31
 have A:Aside (∀j u,cells[j]? = some u->w.cell? (ad.add j)=some u):=hc;have B:Aside (∀u∈cells,u.oneCell'=true):=h1;clear hc h1
 go_enter func50,ntmps50
 go_wp2_with (at_builtin;refine wpList_append_own _ rfl _ _ 31 rfl w.heap.size 9 i0 z 1 16 t31 hi hz0 hz1 hz2 hz3 (by decide) _ _ _ rfl (World.ownsRow_made w #[] 0 (Qbw _) (Qbv _) rfl) ad n c cells rfl ?qc1 ?qc2 ?qc3 ?qc4 ?qc5 ?qc6 ?_)
 case qc1=>exact hl
 case qc2=>
  intro j u hj;exact Lib.cell?_alloc_some _ (A.out j u hj)
 case qc3=>exact B.out
 case qc4=>omega
 case qc5=>omega
 case qc6=>simp
 intro v' w1 hown hgrow hnil
 go_wp2
 go_ret
 refine⟨v',rfl,by simpa using hown,?_⟩;exact((Below.refl _ w).alloc (Qbw _) _).grown hgrow (by simp) (by intro k hk;simp[Value.ownBlock]at hk;omega)
set_option maxHeartbeats 1000000 in
def yy7(w:World):Calls prog 50 #[.slice none 0 0] w λe w'=>e = .returned (.slice none 0 0)∧w'=w:=by
 have t31:prog.underlying 31=some (.slice 9):=by kernel_rfl
 have q31:∀(w:World) (a:Option Addr) (n c n' c':Nat),(binOp .eql 31 (.slice a n c) (.slice none n' c')).run prog w = .ok (.bool a.isNone) w:=λw a n c n' c'=>Lib.run_eql_slice_nil w _ _ a n c n' c' t31
 go_enter func50,ntmps50
 go_wp2
 go_ret
 exact⟨rfl,rfl⟩
def yqv{P:Program}{ρ:Ren}(L:Lays8.n4 P ρ){sz by':Nat}(hinf:(P.info? (ρ.t 25)).map (λi=>(i.zero.map (·.cells.size),i.size,i.bytes))=some (some sz,sz,by'))(hs0:0<sz)(hby:by'<=4096)(n:Nat)(w:World)(hn:n<=8388608) :
  Calls P (ρ.f 4) #[.slice none 0 0,.int .i64 n] w λe w'=>∃v',e = .returned v'∧w'.ownsRow w.heap.size (ρ.t 25) sz v' 0 []∧Below w.heap.size w w':=by
 obtain⟨i0,z,hi,hz0,hz1,hz2,hz3⟩:=ylz hinf
 rcases Nat.eq_zero_or_pos n with h0|h0
 ·subst h0;refine(Any8.slices_Grow_room L none 0 0 0 w (Qbw _) (by omega) (by omega) (by omega)).mono ?_
  rintro e w' ⟨rfl,rfl⟩
  exact⟨_,rfl,⟨by simp,.inl ⟨rfl,rfl⟩⟩,.refl _ _⟩
 ·have hbig:(0+n) * i0.bytes<=140737488355328:=by
   rw[hz2];exact Qbk (Nat.mul_le_mul (show 0+n<=8388608 by omega) hby) (by decide)
  refine(Any8.slices_Grow_grow L i0 z hi hz0 (by omega) none 0 0 n [] w (Qbw _) (by omega) hbig (by omega) (by simp) (λ_=>rfl) (λa h=>by cases h)).mono ?_
  rintro e w' ⟨rfl,rfl⟩
  have h1:=grownCap_ge w (0+n) 0 (ρ.t 25);have h2:=grownCap_le_maxLen w (0+n) 0 (ρ.t 25) (by simp only[maxLen];omega);refine⟨_,rfl,⟨by simp,.inr ⟨w.heap.size,_,_,rfl,Qbw _,heap_alloc_new w.drew _,Qbv _,h2,?_,by simp⟩⟩,((Below.refl _ w).drew).alloc (Qbw _) _⟩
  simp only[Array.size_append,List.size_toArray,Qcc,size_zeroCells,hz3,Nat.zero_add,Nat.sub_zero,<-Nat.add_mul];rw[Nat.zero_add]at h1
  congr 1
  omega
def z01i(n:Nat)(w:World)(hn:n<=8388608):Calls prog 133 #[.slice none 0 0,.int .i64 n] w λe w'=>∃v',e = .returned v'∧w'.ownsRow w.heap.size 83 10 v' 0 []∧Below w.heap.size w w' :=
 yqv growA (sz:=10) (by':=136) (by kernel_rfl) (by decide) (by decide) n w hn
def yyx(n:Nat)(w:World)(hn:n<=8388608):Calls prog 135 #[.slice none 0 0,.int .i64 n] w λe w'=>∃v',e = .returned v'∧w'.ownsRow w.heap.size 34 3 v' 0 []∧Below w.heap.size w w' :=
 yqv growR (sz:=3) (by':=64) (by kernel_rfl) (by decide) (by decide) n w hn
end Go.Proofs
namespace Go.Proofs
open Go.RowKit Go.Shelf Go.Lib
open Go.Ab (Qaa Qae Qas Qau Qaw Qbf Qbh Qbk Qbp Qbr Qbu Qbx Qby Qbz)
open Tryz
def y94{P:Program}(w:World)(t e ty:TypeId)(z:Value)(g:P.underlying t=some (.slice e))(d:∀w,(zeroValue e).run P w = .ok z w)(b o n c:Nat)(l:0<n)
  (k:∀u∈(Builtin.zeroCells z.cells n).toList,u.oneCell'=true) (i:∀j,j<(Builtin.zeroCells z.cells n).toList.length->(w.cell? ⟨b,o+j,none⟩).isSome=true) (h:∀j,j<(Builtin.zeroCells z.cells n).toList.length->w.frozen? ⟨b,o+j,none⟩=false) :
  (Builtin.clear_ #[t] ty #[.slice (some ⟨b,o,none⟩) n c]).run P w = .ok (.tuple #[]) (w.setCells b o (Builtin.zeroCells z.cells n).toList):=by
 have a:=run_storeCells_cells (P:=P) b o (Builtin.zeroCells z.cells n).toList 0 w (by simpa using i) (by simpa using h) k;simp only[Nat.add_zero]at a;obtain⟨m,rfl⟩:∃m,n=m+1:=⟨n-1,by omega⟩;simp[Builtin.clear_,run_underlying g,d,a]
def zo3(b:Nat)(ty:TypeId):∀(vs:List Value) (o:Nat) (w:World) (d:Array Value),w.heap[b]? = some (.cells d ty (0,0)) ->
  ∃a,(w.setCells b o vs).heap[b]? = some (.cells a ty (0,0))∧a.size=d.size∧(∀t,t<o∨o+vs.length<=t->a[t]? = d[t]?)∧(∀t,t<vs.length->o+t<d.size->a[o+t]? = vs[t]?)
 |[],o,w,d,h=>⟨d,h,rfl,λ_ _=>rfl,λt e=>by simp at e⟩
 |v::r,o,w,d,h=>by
  have l:(w.setCell ⟨b,o,none⟩ v).heap[b]? = some (.cells (d.setIfInBounds o v) ty (0,0)):=by
   simp[World.setCell,Array.getElem?_modify,h]
  have⟨a,k,j,g,i⟩:=zo3 b ty r (o+1) _ _ l;refine⟨a,k,by simpa using j,λt e =>?_,λt e m =>?_⟩
  ·simp only[List.length_cons]at e;rw[g t (by omega),Array.getElem?_setIfInBounds,Qby (by omega)]
  ·cases t with
   |zero=>
    rw[Nat.add_zero,g o (by omega),Array.getElem?_setIfInBounds,Qbx rfl]
    simp;omega
   |succ t=>
    have:=i t (by simpa using e) (by simp;omega);rw[show o+(t+1)=o+1+t by omega,this];simp
def zog(b:Nat):∀(vs:List Value) (o:Nat) (w:World),
  (w.setCells b o vs).os=w.os∧(w.setCells b o vs).tape=w.tape∧(w.setCells b o vs).output=w.output∧(w.setCells b o vs).heap.size=w.heap.size∧∀k,k≠b->(w.setCells b o vs).heap[k]? = w.heap[k]?
 |[],o,w=>⟨rfl,rfl,rfl,rfl,λ_ _=>rfl⟩
 |v::r,o,w=>by
  have⟨l,j,i,h,g⟩:=zog b r (o+1) (w.setCell ⟨b,o,none⟩ v);refine⟨l,j,i,h.trans (by simp[World.setCell]),λk d=>(g k d).trans ?_⟩;have a:¬b=k:=λe=>d e.symm
  simp only[World.setCell];rw[Array.getElem?_modify];simp[a]
set_option maxHeartbeats 4000000 in
set_option maxRecDepth 1000000 in
def z06b:Ab.ylq prog 58 3:=λblk cap i j n cur ty w hb hn hcs hcm hij hj h1=>by
 have mixed:prog.follows .mixedOrders=true:=by kernel_rfl
 have t23:prog.underlying 23=some (.slice 34):=by kernel_rfl
 have hinf:(prog.info? 34).map (λi=>(i.zero.map (·.cells.size),i.size))=some (some 3,3):=by kernel_rfl
 obtain⟨i0,hi0,hz1⟩:∃i0,prog.info? 34=some i0∧i0.size=3:=by
  cases hi:prog.info? 34 with
  |none=>rw[hi]at hinf;cases hinf
  |some i0=>rw[hi]at hinf;simp at hinf;exact⟨i0,rfl,hinf.2⟩
 obtain⟨news,hnews⟩:∃news,news=(cur.toList.drop (j * 3)).take ((n-j) * 3):=⟨_,rfl⟩;have hns:n * 3<=cur.size:=Qbk (Qau 3 hn) hcs;have hlen:news.length=(n-j) * 3:=by rw[hnews];simp;omega
 have hcell:∀t,t<cur.size->w.drew.cell? ⟨blk,t,none⟩=cur[t]? := λt ht=>by
  show w.cell? _=_;simp[World.cell?,hb]
 have hget:∀t,t<(n-j) * 3->news[t]? = cur[j * 3+t]? := λt ht=>by
  rw[hnews,Qaw,Qbx ht,Qbf,Qbh]
 obtain⟨A,hA,hsrc⟩:∃A:Addr,(if cap=j then some (⟨blk,0,none⟩:Addr)else some ⟨blk,j * 3,none⟩)=some A∧Aside (∀t u,news[t]? = some u->w.drew.cell? (A.add t)=some u):=by
  by_cases h:cap=j
  ·refine⟨⟨blk,0,none⟩,by simp[h],λt u hu =>?_⟩;have h0:news.length=0:=by rw[hlen];omega
   rw[List.length_eq_zero_iff.1 h0]at hu;simp at hu
  ·refine⟨⟨blk,j * 3,none⟩,by simp[h],λt u hu =>?_⟩
   have ht:t<(n-j) * 3:=by
    have:=(Qaa.1 hu).1;rwa[hlen]at this
   rw[hget t ht]at hu;rw[Addr.add_lit,hcell _ (by omega)];exact hu
 have s1:Aside (news.length=(n-j) * 3):=hlen
 have s2:Aside (∀u∈news,u.oneCell'=true):=by
  intro u hu;obtain⟨t,ht⟩:=Qbp hu;have hlt:t<(n-j) * 3:=by have:=(Qaa.1 ht).1;rwa[hlen]at this
  rw[hget t hlt]at ht;have:=h1 (j * 3+t) (by omega);rw[Qae,ht]at this;exact this
 have s3:Aside (∀t,t<news.length->(w.drew.cell? ⟨blk,0+i * 3+t,none⟩).isSome=true∧w.drew.frozen? ⟨blk,0+i * 3+t,none⟩=false):=by
  intro t ht;rw[hlen]at ht;have hlt:i * 3+t<cur.size:=by omega
  rw[Nat.zero_add,hcell _ hlt,Qas hlt];exact⟨rfl,by show w.frozen? _=false;simp[World.frozen?,hb]⟩
 have hic:i<=cap:=by omega
 have hjc:j<=cap:=by omega
 have hlt:i<j:=hij
 obtain⟨z,hz,hzc,hzo⟩:∃z,(∀w,(zeroValue 34).run prog w = .ok z w)∧z.cells.size=3∧z.cells.all (·.oneCell')=true:=by
  have hinf2:(prog.info? 34).map (λi=>i.zero.map (λz=>(z.cells.size,z.cells.all (·.oneCell'))))=some (some (3,true)):=by kernel_rfl
  rw[hi0]at hinf2;simp only[Qbr,Qbu]at hinf2
  cases hz:i0.zero with
  |none=>rw[hz]at hinf2;cases hinf2
  |some z=>
   rw[hz]at hinf2;simp only[Qbr,Qbu,Qbz]at hinf2;exact⟨z,λw=>by simp[zeroValue,typeInfo,hi0,hz],hinf2.1,hinf2.2⟩
 obtain⟨zs,hzs⟩:∃zs,zs=(Builtin.zeroCells z.cells (n-(i+(n-j)))).toList:=⟨_,rfl⟩;have hzl:zs.length=(n-(i+(n-j))) * 3:=by rw[hzs];simp[Builtin.zeroCells,hzc]
 obtain⟨cur1,c1,c2,c3,c4⟩:=zo3 blk ty news (i * 3) w.drew cur hb;obtain⟨W2,hW2⟩:∃W2,W2=(w.drew.setCells blk (i * 3) news).setCells blk ((i+(n-j)) * 3) zs:=⟨_,rfl⟩;obtain⟨cur2,e1,e2,e3,e4⟩:=zo3 blk ty zs ((i+(n-j)) * 3) _ cur1 c1
 have hcl:∀t,(Builtin.clear_ #[23] t #[.slice (some ⟨blk,(i+(n-j)) * 3,none⟩) (n-(i+(n-j))) (cap-(i+(n-j)))]).run prog (w.drew.setCells blk (i * 3) news) = .ok (.tuple #[]) W2:=by
  intro t;rw[hW2,hzs];refine y94 _ 23 34 t z t23 hz blk _ _ _ (by omega) ?_ ?_ ?_
  ·intro u hu;obtain⟨q,hq⟩:=Qbp hu;simp only[Builtin.zeroCells,Qbh,Array.getElem?_map]at hq;have hlt:q % z.cells.size<z.cells.size:=Nat.mod_lt _ (by omega)
   cases hr:(Array.range ((n-(i+(n-j))) * z.cells.size))[q]? with
   |none=>rw[hr]at hq;cases hq
   |some q'=>
    rw[hr]at hq;have hlt:q' % z.cells.size<z.cells.size:=Nat.mod_lt _ (by omega);simp only[Qbr,Qbu]at hq;subst hq;rw[getElem!_pos z.cells _ hlt];exact(Array.all_eq_true.1 hzo) _ hlt
  ·intro q hq;rw[<-hzs,hzl]at hq;simp only[World.cell?,c1];have:(i+(n-j)) * 3+q<cur1.size:=by rw[c2];omega
   simp[Qas this]
  ·intro q hq;simp[World.frozen?,c1]
 have hfin:Aside (W2.os=w.os∧W2.tape=w.tape∧W2.output=w.output∧W2.heap.size=w.heap.size∧(∀b,b≠blk->W2.heap[b]? = w.heap[b]?) ∧
  ∃cur',W2.heap[blk]? = some (.cells cur' ty (0,0))∧cur'.size=cur.size∧(∀t,t<i * 3->cur'[t]? = cur[t]?)∧∀t,t<(n-j) * 3->cur'[i * 3+t]? = cur[j * 3+t]?):=by
  obtain⟨f1,f2,f3,f4,f5⟩:=zog blk news (i * 3) w.drew;obtain⟨g1,g2,g3,g4,g5⟩:=zog blk zs ((i+(n-j)) * 3) (w.drew.setCells blk (i * 3) news);rw[hW2];refine⟨g1.trans f1,g2.trans f2,g3.trans f3,g4.trans f4,λb hb'=>(g5 b hb').trans (f5 b hb'),cur2,e1,e2.trans c2,λt ht =>?_,λt ht =>?_⟩
  ·rw[e3 t (by omega),c3 t (by omega)]
  ·rw[e3 _ (by omega),c4 t (by omega) (by omega),hget t ht]
 have hA2:=hA;clear hnews hcell hget h1 hzs hzl c1 c2 c3 c4 e1 e2 e3 e4 hW2
 go_enter func58,ntmps58
 go_wp2_with fail
 go_region_law_o (refine step_append_room rfl (.tmp 22) (.tmp 25) 23 rfl 34 i0 3 t23 hi0 hz1 blk 0 i cap (by simp[Act.eval,Act.put]) A (n-j) (cap-j) news (by simp[Act.eval,Act.put]) s1.out hsrc.out s2.out (by omega) s3.out ?_)
 go_wp2_with fail
 all_goals (go_ret;rw[show n-(j-i)=i+(n-j) by omega];exact⟨rfl,hfin.out⟩)
end Go.Proofs
namespace Go.Proofs.YthlmhmebajjkbaaGreatDoor
open Go Go.Ab Go.Proofs
open Tryz
def z8o:Nat->B8->B8->Option Int:=λ_ s t=>match t with
 |[c]=>some (Lib.indexByte s c)
 |_=>none
def zm6:LSh:=⟨[(4,(.d (.int .i64)))],[],0,143,[]⟩
noncomputable def zec:FI dat:=FI.of dat 111 143 0 [(.d .str),(.d .str)] [] [(.d (.int .i64))] [] true zm6 (R:=Int) (λx=>x.1) (λr=>(r,())) (λn x=>z8o n x.1 x.2.1)
 (λn=>[]) .skip
def z06c(s:B8)(c:UInt8):zw3 prog 111 [.str s,.str [c]] (.int .i64 (Lib.indexByte s c)):=λH W g b d h=>by
 obtain⟨x,y,rfl,j,a⟩:=z03p h;cases j;cases a;have c:=Any.stringslite_Index_one {y4r with} ⟨s.toArray⟩ c W;refine .inl ⟨call111 _ _,c.mono λe W' ⟨a,i⟩ =>?_⟩;subst a;subst i;exact⟨_,g,rfl,.refl _ _ _,d,.int _ _⟩
def zls:FOk prog zec:=λn R x k j r h=>by
 have⟨s,t,u⟩:=x;have⟨y,a,h⟩:=Qce.1 (show(z8o n s t).bind (λr=>k (r,()))=some r from h)
 match t,a with
 |[c],a=>
  have a:some (Lib.indexByte s c)=some y:=a;cases a;refine⟨(_,()),h,rfl,rfl,rfl,λlv vargs b=>⟨[.int .i64 (Lib.indexByte s c)],λρ d =>?_,?_⟩⟩
  ·show VRL dat ρ d [TV.int .i64 (Lib.indexByte s c)] _;simp only[VRL,VR];exact⟨_,_,rfl,rfl,rfl⟩
  ·have b:VRL dat [] lv [TV.str s,TV.str [c]] vargs:=b;simp only[VRL,VR]at b;obtain⟨v,i,rfl,rfl,e,g,rfl,rfl,rfl⟩:=b;exact z06c _ _
end Go.Proofs.YthlmhmebajjkbaaGreatDoor
namespace Go.Proofs.YthlmhmebajjkbaaGreatDoor
open Go Go.Ab
open Tryz
set_option maxRecDepth 100000
set_option maxHeartbeats 4000000
noncomputable section
def z4o:Nat->B8->B8->Ot (B8×B8×Bool)
 |0,_,_=>none
 |n+1,a,b=>
  (z8o n a b).bind λd=>
  pIf (decide (d>=0))
   ((sub a 0 d).bind λg=>
   (sub a (IntKind.i64.wrap (d+(b.length:Int))) (a.length:Int)).bind λe=>
   some (g,e,true))
   (some (a,[],false))
def zo6:LSh:=⟨[(4,dS),(5,dS),(6,dB)],[],0,23,[]⟩
def zg0:FI dat:=FI.of dat 62 23 0 [dS,dS] [] [dS,dS,dB] [] true zo6 (R:=B8×B8×Bool) (λx=>(x.1,x.2.1,x.2.2.1)) (λr=>(r.1,r.2.1,r.2.2,())) (λn=>u2 (z4o n))
 (λn=>[]) (anb [] f62)
def zn8:FOk prog zg0:=okF (bs:=[zec]) ⟨zls,trivial⟩ func62 ntmps62 call62
 (λ_ _=>tr (z4o.eq_2 ..))
 (λn=>trivial)
def z8e:Nat->B8->B8->Ot (B8×B8×Bool)
 |0,_,_=>none
 |n+1,a,b=>
  (z4o n a b).bind λd=>
  some (d.1,d.2.1,d.2.2)
def yh5:LSh:=⟨[(4,dS),(5,dS),(6,dB)],[],0,13,[]⟩
def zrh:FI dat:=FI.of dat 27 13 0 [dS,dS] [] [dS,dS,dB] [] true yh5 (R:=B8×B8×Bool) (λx=>(x.1,x.2.1,x.2.2.1)) (λr=>(r.1,r.2.1,r.2.2,())) (λn=>u2 (z8e n))
 (λn=>[]) (anb [] f27)
def zos:FOk prog zrh:=okF (bs:=[zg0]) ⟨zn8,trivial⟩ func27 ntmps27 call27
 (λ_ _=>tr (z8e.eq_2 ..))
 (λn=>trivial)
mutual
def z2g:Nat->B8->Ot Bool
 |0,_=>none
 |n+1,a=>
  pIf ((a.length:Int)==0)
   (za7 n a true)
   (za7 n a (decide ((a.length:Int)>40)))
def za7:Nat->B8->Bool->Ot Bool
 |0,_,_=>none
 |n+1,a,b=>
  pIf b
   (some false)
   (z10 n a 0)
def z10:Nat->B8->Nat->Ot Bool
 |0,_,_=>none
 |n+1,a,b=>
  pIf (decide (b<a.length))
   (pIf (decide (((zho a b).1:Int)>=97))
     (z78 n ((zho a b).1:Int) (b:Int) (decide (((zho a b).1:Int)<=122)) a (b+(zho a b).2))
     (z78 n ((zho a b).1:Int) (b:Int) false a (b+(zho a b).2)))
   (some true)
def z78:Nat->Int->Int->Bool->B8->Nat->Ot Bool
 |0,_,_,_,_,_=>none
 |n+1,a,b,c,d,e=>
  pIf (!c)
   (pIf (b==0)
     (z0a n true d e)
     (pIf (a != 45)
       (pIf (decide (a<48))
         (z0a n true d e)
         (z0a n (decide (a>57)) d e))
       (z0a n false d e)))
   (z0a n false d e)
def z0a:Nat->Bool->B8->Nat->Ot Bool
 |0,_,_,_=>none
 |n+1,a,b,c=>
  pIf a
   (some false)
   (z10 n b c)
end
def ylj:LSh:=⟨[(2,dB)],[],0,44,[]⟩
def zgy:FI dat:=FI.of dat 25 44 0 [dS] [] [dB] [] true ylj (R:=Bool) Prod.fst (·,()) (λn=>u1 (z2g n))
 (λn=>[(0,⟨⟨[(0,dS),(13,dB)],[],0,44,[]⟩,u2 (za7 n)⟩),(1,⟨⟨[(15,(.ptr 0 0))],[.siter],0,44,[]⟩,u2 (z10 n)⟩),(2,⟨⟨[(15,(.ptr 0 0)),(4,(.d (.int .i32))),(3,dI),(5,dB)],[.siter],0,44,[]⟩,u5 (z78 n)⟩),(3,⟨⟨[(15,(.ptr 0 0)),(43,dB)],[.siter],0,44,[]⟩,u3 (z0a n)⟩)]) (anb [(5,0),(14,1),(26,2),(28,3)] f25)
def zht:FOk prog zgy:=okF (bs:=[]) trivial func25 ntmps25 call25
 (λ_ _=>tr (z2g.eq_2 ..))
 (λn=>⟨λ_=>tr (za7.eq_2 ..),
  λ_=>tr (z10.eq_2 ..),
  λ_=>tr (z78.eq_2 ..),
  λ_=>tr (z0a.eq_2 ..),
  trivial⟩)
def z4s:Nat->B8->B8->Ot Bool
 |0,_,_=>none
 |n+1,a,b=>
  pIf (decide ((a.length:Int)>=(b.length:Int)))
   ((sub a (IntKind.i64.wrap ((a.length:Int)-(b.length:Int))) (a.length:Int)).bind λd=>
   some (d==b))
   (some false)
def zje:LSh:=⟨[(4,dB)],[],0,21,[]⟩
def zbm:FI dat:=FI.of dat 215 21 0 [dS,dS] [] [dB] [] true zje (R:=Bool) Prod.fst (·,()) (λn=>u2 (z4s n))
 (λn=>[]) (anb [] f215)
def ziy:FOk prog zbm:=okF (bs:=[]) trivial func215 ntmps215 call215
 (λn=>λ_=>tr (z4s.eq_2 _ _ n))
 (λn=>trivial)
def z4r:Nat->B8->B8->Ot (B8×Bool)
 |0,_,_=>none
 |n+1,a,b=>
  (z4s n a b).bind λd=>
  pIf (!d)
   (some (a,false))
   ((sub a 0 (IntKind.i64.wrap ((a.length:Int)-(b.length:Int)))).bind λe=>
   some (e,true))
def zjo:LSh:=⟨[(4,dS),(5,dB)],[],0,18,[]⟩
def zbs:FI dat:=FI.of dat 210 18 0 [dS,dS] [] [dS,dB] [] true zjo (R:=B8×Bool) (λx=>(x.1,x.2.1)) (λr=>(r.1,r.2,())) (λn=>u2 (z4r n))
 (λn=>[]) (anb [] f210)
def zj4:FOk prog zbs:=okF (bs:=[zbm]) ⟨ziy,trivial⟩ func210 ntmps210 call210
 (λ_ _=>tr (z4r.eq_2 ..))
 (λn=>trivial)
def zg8:Nat->B8->B8->Ot (B8×Bool)
 |0,_,_=>none
 |n+1,a,b=>
  (z4r n a b).bind λd=>
  some (d.1,d.2)
def y0t:LSh:=⟨[(4,dS),(5,dB)],[],0,11,[]⟩
def zml:FI dat:=FI.of dat 187 11 0 [dS,dS] [] [dS,dB] [] true y0t (R:=B8×Bool) (λx=>(x.1,x.2.1)) (λr=>(r.1,r.2,())) (λn=>u2 (zg8 n))
 (λn=>[]) (anb [] f187)
def zx1:FOk prog zml:=okF (bs:=[zbs]) ⟨zj4,trivial⟩ func187 ntmps187 call187
 (λ_ _=>tr (zg8.eq_2 ..))
 (λn=>trivial)
mutual
def z3d:Nat->B8->Ot (Bool×zzk)
 |0,_=>none
 |n+1,a=>
  (z8e n a [91]).bind λb=>
  (z2g n b.1).bind λd=>
  pIf (!d)
   (zgq n b.1 b.2.2 b.2.1 true (zzk.mk [] 0))
   (zgq n b.1 b.2.2 b.2.1 (!b.2.2) (zzk.mk [] 0))
def zgq:Nat->B8->Bool->B8->Bool->zzk->Ot (Bool×zzk)
 |0,_,_,_,_,_=>none
 |n+1,a,b,c,d,e=>
  pIf d
   (pIf (!b)
     ((z2g n a).bind λh=>
     some (h,(zzk.mk a (-1))))
     (some (false,(zzk.mk a (-1)))))
   ((zg8 n c [93]).bind λg=>
   pIf (!g.2)
    (z7i n a g.1 true e)
    (pIf ((g.1.length:Int)==0)
      (z7i n a g.1 true e)
      (pIf (decide ((g.1.length:Int)>4))
        (z7i n a g.1 true e)
        ((ix g.1 0).bind λi=>
        pIf ((i.toNat:Int)==48)
         (z7i n a g.1 (decide ((g.1.length:Int)>1)) e)
         (z7i n a g.1 false e)))))
def z7i:Nat->B8->B8->Bool->zzk->Ot (Bool×zzk)
 |0,_,_,_,_=>none
 |n+1,a,b,c,d=>
  pIf c
   (some (false,(zzk.mk [] 0)))
   (zgs n 0 a d b 0)
def zgs:Nat->Int->B8->zzk->B8->Nat->Ot (Bool×zzk)
 |0,_,_,_,_,_=>none
 |n+1,a,b,c,d,e=>
  pIf (decide (e<d.length))
   (pIf (decide (((zho d e).1:Int)<48))
     (zgi n b ((zho d e).1:Int) a true c d (e+(zho d e).2))
     (zgi n b ((zho d e).1:Int) a (decide (((zho d e).1:Int)>57)) c d (e+(zho d e).2)))
   (some (true,(zzk.mk b a)))
def zgi:Nat->B8->Int->Int->Bool->zzk->B8->Nat->Ot (Bool×zzk)
 |0,_,_,_,_,_,_,_=>none
 |n+1,a,b,c,d,e,f,g=>
  pIf d
   (some (false,(zzk.mk [] 0)))
   (zgs n (IntKind.i64.wrap ((IntKind.i64.wrap (10 * c))+(IntKind.i64.wrap (IntKind.i32.wrap (b-48))))) a e f g)
end
def ylv:LSh:=⟨[(2,(.ptr 0 0)),(3,dB)],[(.st 17)],0,82,[]⟩
def ynh:FI dat:=FI.of dat 150 82 0 [dS] [] [dT 17,dB] [] true ylv (R:=Bool×zzk) (λx=>(x.1,x.2.1)) (λr=>(r.2,r.1,())) (λn=>u1 (z3d n))
 (λn=>[(0,⟨⟨[(2,(.ptr 0 0)),(4,dS),(6,dB),(5,dS),(24,dB)],[(.st 17)],0,82,[]⟩,u5 (zgq n)⟩),(1,⟨⟨[(2,(.ptr 0 0)),(4,dS),(7,dS),(59,dB)],[(.st 17)],0,82,[]⟩,u4 (z7i n)⟩),(2,⟨⟨[(2,(.ptr 0 0)),(9,dI),(4,dS),(62,(.ptr 1 0))],[(.st 17),.siter],0,82,[]⟩,u5 (zgs n)⟩),(3,⟨⟨[(2,(.ptr 0 0)),(4,dS),(62,(.ptr 1 0)),(11,(.d (.int .i32))),(9,dI),(71,dB)],[(.st 17),.siter],0,82,[]⟩,u7 (zgi n)⟩)]) (anb [(7,0),(17,1),(28,2),(41,3)] f150)
def yhy:FOk prog ynh:=okF (bs:=[zrh,zgy,zml]) ⟨zos,zht,zx1,trivial⟩ func150 ntmps150 call150
 (λ_ _=>tr (z3d.eq_2 ..))
 (λn=>⟨λ_=>tr (zgq.eq_2 ..),
  λ_=>tr (z7i.eq_2 ..),
  λ_=>tr (zgs.eq_2 ..),
  λ_=>tr (zgi.eq_2 ..),
  trivial⟩)
end
end Go.Proofs.YthlmhmebajjkbaaGreatDoor
namespace Go.Proofs.YthlmhmebajjkbaaGreatDoor
open Go Go.Ab Go.Proofs
open Go.RowKit
open Tryz
attribute [local go_sem] Oper.semAt_some
namespace OHand
open Go.Ab (B8)
def yq6{c:UInt8}{s:B8}(d:s.length<=1048576):Ev (λn=>z8e n s [c]) (cutAt c s):=by
 refine .succ (λn=>by rw[z8e]) ?_;refine .bind (y:=cutAt c s) ?_ (.pure rfl);refine .succ (λn=>by rw[z4o]) ?_;refine .bind (y:=Lib.indexByte s c) (.pure rfl) ?_;rw[ybc];cases h:s.any (· == c)
 ·rw[ysj h];exact .pf rfl (.pure rfl)
 ·have⟨g,b,a⟩:=ynr h;simp only[if_true];refine .pt (by simp) ?_;refine .opt (y:=s.takeWhile (· != c)) (by rw[yxe (by omega),b]) ?_
  refine .opt (y:=(s.dropWhile (· != c)).tail) (by
   have e:IntKind.i64.wrap ((s.takeWhile (· != c)).length+([c].length:Int))=(((s.takeWhile (· != c)).length+1:Nat):Int):=by rw[show([c].length:Int)=1 from rfl];exact wrk (by omega)
   rw[e,z03u (by omega) (Qbw _),List.take_length,a]) ?_
  exact .pure (by simp only[cutAt,h])
def z063(n:Nat)(s t:B8)(r:B8×B8×Bool)(h:z8e n s t=some r):zw3 prog 27 [.str s,.str t] (.tup [.str r.1,.str r.2.1,.bool r.2.2]):=by
 have⟨y,e,_,_,_,d⟩:=zos n _ (s,t,()) (λy=>some (y.1,y.2.1,y.2.2.1)) (λ_=>none) r (by show(z8e n s t).bind (λr=>some (r.1,r.2.1,r.2.2))=some r;rw[h];rfl);have⟨vs,b,a⟩:=d 0 [.str s,.str t] (by show VRL dat [] 0 [TV.str s,TV.str t] _;simp only[VRL,VR];exact⟨_,_,rfl,rfl,_,_,rfl,rfl,rfl⟩);cases e;have:=b [] 0
 replace this:VRL dat [] 0 [TV.str y.1,TV.str y.2.1,TV.bool y.2.2.1] vs:=this;simp only[VRL,VR]at this;obtain⟨_,_,rfl,rfl,_,_,rfl,rfl,_,_,rfl,rfl,rfl⟩:=this;exact a
def z04o(n:Nat)(s:B8)(r:Bool×zzk)(h:z3d n s=some r):zw3 prog 150 [.str s] (.tup [.agg [.str r.2.name,.int .i64 r.2.index],.bool r.1]):=by
 have⟨y,e,_,_,_,d⟩:=yhy n _ (s,()) (λy=>some (y.2.1,y.1)) (λ_=>none) r (by show(z3d n s).bind (λr=>some (r.1,r.2))=some r;rw[h];rfl);have⟨vs,b,a⟩:=d 0 [.str s] (by show VRL dat [] 0 [TV.str s] _;simp only[VRL,VR];exact⟨_,_,rfl,rfl,rfl⟩);cases e;have:=b [] 0;replace this:VRL dat [] 0 [TV.agg [TV.str y.1.name,TV.int .i64 y.1.index],TV.bool y.2.1] vs:=this
 simp only[VRL,VR]at this;obtain⟨_,_,rfl,⟨_,rfl,_,_,rfl,rfl,_,_,rfl,rfl,rfl⟩,_,_,rfl,rfl,rfl⟩:=this;exact a
def pc{f n:Nat}{vargs:List V}{r:V}{a:Array Value}{W:World}(h:zw3 prog f vargs r)(b:∀args w,(callFunc f args).run prog w = .ok (.enter f args) w)(l:zlt W g0 H0 vargs a) :
  CallsIn Fence.wide n prog f a W λe W'=>∃c,e = .returned c∧RowKit.Below W.heap.size W W'∧∃g',Rel W' g' H0 r c:=by
 refine callsIn_wide.2 ?_
 rcases h H0 W g0 a (z05c W ⟨λk cs h=>(by cases h),λk h=>(by cases h)⟩) l with ⟨_,d⟩|⟨c,W',g',d,_⟩
 ·exact d.mono λe W' ⟨c,g',j,g,_,i⟩=>⟨c,j,y1j g,g',i⟩
 ·rw[b]at d;cases d
def fx(x:B8):B8:=if (z3d 60 x).isSome then x else []
def rd(x:B8):Bool×zzk:=(z3d 60 (fx x)).getD (false,⟨[],0⟩)
def rd_some(x:B8):z3d 60 (fx x)=some (rd x):=by
 have h:(z3d 60 (fx x)).isSome=true:=by
  unfold fx;split
  ·assumption
  ·rfl
 unfold rd
 cases a:z3d 60 (fx x)with
 |none=>rw[a]at h;cases h
 |some y=>rfl
def relA1{W:World}{s:B8}:zlt W g0 H0 [.str s] #[.string ⟨s.toArray⟩]:=ymw (cs:=[.string ⟨s.toArray⟩]) rfl λj v a=>by
 cases j with
 |zero=>simp at a;subst a;exact⟨_,rfl,.str _⟩
 |succ j=>simp at a
def relA2{W:World}{s t:B8}:zlt W g0 H0 [.str s,.str t] #[.string ⟨s.toArray⟩,.string ⟨t.toArray⟩]:=ymw (cs:=[.string ⟨s.toArray⟩,.string ⟨t.toArray⟩]) rfl λj v a=>by
 match j with
 |0=>simp at a;subst a;exact⟨_,rfl,.str _⟩
 |1=>simp at a;subst a;exact⟨_,rfl,.str _⟩
 |j+2=>simp at a
def grown{W W':World}(h:RowKit.Below W.heap.size W W'):W.grownBy W' none:=⟨h.os,h.tape,h.output,h.size,λk a _=>h.block k a⟩
abbrev S(s:B8):Value:=.string ⟨s.toArray⟩
def z069(n:Nat)(s:B8)(u:s.length<=1048576)(W:World):CallsIn Fence.wide n prog 27 #[S s,S [47]] W λe W'=>
  e = .returned (.tuple #[S (cutAt 47 s).1,S (cutAt 47 s).2.1,.bool (cutAt 47 s).2.2])∧W.grownBy W' none:=by
 have⟨k,r⟩:=(yq6 (c:=47) u).get;refine(pc (z063 k s [47] _ r) (λ_ _=>call27 _ _) relA2).mono ?_
 rintro e W' ⟨c,rfl,w,g',p⟩
 refine⟨?_,grown w⟩
 cases p with
 |tup vs cs q h=>
  have e0:=h 0 _ rfl;have m:=h 1 _ rfl;have j:=h 2 _ rfl
  have o:cs = #[cs.getD 0 undef,cs.getD 1 undef,cs.getD 2 undef]:=by
   have⟨l⟩:=cs
   match l,q with
   |[a,b,c],_=>rfl
  cases i:cs.getD 0 undef <;> rw[i]at e0 <;> cases e0
  cases g:cs.getD 1 undef <;> rw[g]at m <;> cases m
  cases d:cs.getD 2 undef <;> rw[d]at j <;> cases j
  rw[o,i,g,d]
def z04r(n:Nat)(s:B8){y:Bool×zzk}(r:z3d 60 s=some y)(W:World):CallsIn Fence.wide n prog 150 #[S s] W λe W'=>
  ∃nm ix,e = .returned (.tuple #[.agg #[S nm,.int .i64 ix],.bool y.1])∧RowKit.Below W.heap.size W W':=by
 refine(pc (z04o 60 s _ r) (λ_ _=>call150 _ _) relA1).mono ?_
 rintro e W' ⟨c,rfl,z,g',w⟩
 refine⟨y.2.name,y.2.index,?_,z⟩
 cases w with
 |tup vs cs x h=>
  have e0:=h 0 _ rfl;have q:=h 1 _ rfl
  have u:cs = #[cs.getD 0 undef,cs.getD 1 undef]:=by
   have⟨l⟩:=cs
   match l,x with
   |[a,b],_=>rfl
  cases g:cs.getD 1 undef <;> rw[g]at q <;> cases q
  cases i:cs.getD 0 undef <;> rw[i]at e0 <;> try (cases e0;done)
  rename_i d
  cases e0 with
  |agg _ _ p A m=>
   have f0:=m 0 _ rfl;have f1:=m 1 _ rfl
   have o:d = #[d.getD 0 undef,d.getD 1 undef]:=by
    have⟨l⟩:=d
    match l,p with
    |[a,b],_=>rfl
   cases k:d.getD 0 undef <;> rw[k]at f0 <;> cases f0
   cases j:d.getD 1 undef <;> rw[j]at f1 <;> cases f1
   rw[u,i,g,o,k,j]
def z01a(n:Nat)(s:B8)(W:World):CallsIn Fence.wide n prog 109 #[S s,S [47]] W λe W'=>
  e = .returned (.int .i64 (s.countP (· == 47):Int))∧RowKit.Below W.heap.size W W':=by
 refine callsIn_wide.2 ?_;refine(Any.strings_Count_one {y4r with} ⟨s.toArray⟩ 47 W).mono λe d ⟨b,a⟩=>⟨?_,by rw[a];exact RowKit.Below.refl _ _⟩
 rw[b];rfl
def yux{s:B8}{k:Nat}{rest:B8}(h:(steps s).drop k=parts 47 rest) :
  (steps s).take (k+1)=(steps s).take k++[(cutAt 47 rest).1]∧(steps s).drop (k+1)=if (cutAt 47 rest).2.2 then parts 47 (cutAt 47 rest).2.1 else []:=by
 rw[parts_eq]at h
 have a:(steps s)[k]? = some (cutAt 47 rest).1:=by
  have:=congrArg List.head? h;rw[List.head?_drop]at this;simpa using this
 refine⟨?_,?_⟩
 ·rw[List.take_add_one,a];rfl
 ·have:=congrArg List.tail h;rw[List.tail_drop]at this;simpa using this
def strSize:Value->Nat
 |.string b=>b.size
 |_=>0
def ymk:Value->Nat
 |.bool true=>1
 |_=>0
end OHand
open OHand
def zss(s:B8):Int :=
 if 4000<s.length then 4 else if 40<(steps s).length then 4 else if (steps s).all (λx=>(rd x).1)then 0 else 12
def zg2:Nat->B8->Option Int:=λ_ s=>if (steps s).all (λx=>(z3d 60 x).isSome)then some (zss s)else none
set_option maxRecDepth 100000 in
set_option maxHeartbeats 2000000 in
def yw8(n:Nat)(hn:1<=n)(l Bs:Nat)(s:B8)(hb:s.length<=1048576)(J Jx:List B8->World->Prop)
  (hY:∀pre x W,J pre W->pre.length<s.length+1->YieldAt Fence.wide (n-1) prog l #[S (fx x)] W λe W'=>
   (e = .returned (.bool true)∧J (pre++[x]) W'∧True)∨(e = .returned (.bool false)∧Jx (pre++[x]) W'))
  (h4:s.length<=4000) (hfx:∀x∈steps s,fx x=x) (W:World) (hJ:AbidesFrom W.heap.size J) (hBs:W.cell? ⟨Bs,0,none⟩=some (S s)) (h0:J [] W) :
  CallsIn Fence.wide n prog 186 #[.func (.yield l) #[] #[],.pointer (some ⟨Bs,0,none⟩)] W λe W'=>(∃v,e = .returned v) ∧
   ((∃ys,ys=steps s∧J ys W')∨(∃pre,(∃k,pre=(steps s).take k)∧Jx pre W')):=by
 refine callsIn_of_wp func186 rfl trivial ?_ rfl;simp only[ntmps186,List.size_toArray,List.length_cons,Qcc,Nat.reduceAdd,Nat.reduceSub,Array.replicate_succ,Array.replicate_zero,List.push_toArray,List.append_toArray,List.nil_append,List.cons_append];have hmx:prog.follows .mixedOrders=true:=by kernel_rfl
 gi_wp2
 gi_region_o
 all_goals gi_wp2
 gi_loopw [3,4] (λr m wr=>∃(k:Nat) (rest:B8),r=S rest∧k+rest.length<=s.length+1 ∧
   ((m = .bool true∧k+rest.length<=s.length∧(steps s).drop k=parts 47 rest)∨(m = .bool false∧(steps s).drop k=[]))∧J ((steps s).take k) wr)
  (λr m _=>strSize r+ymk m)
 case atStart=>
  refine⟨0,s,rfl,by omega,?_,hJ _ _ _ none h0 ⟨rfl,rfl,rfl,Qbw _,λ_ _ _=>rfl⟩ (λr e=>by cases e)⟩
  cases s with
  |nil=>exact .inr ⟨rfl,rfl⟩
  |cons c t=>exact .inl ⟨rfl,by omega,rfl⟩
 case round=>
  obtain⟨k,rest,rfl,hkr,hm,hJs⟩:=hrel
  rcases hm with ⟨rfl,hkr,hd⟩|⟨rfl,hd⟩
  ·obtain⟨hs1,hs2⟩:=yux hd;have hx4:fx (cutAt 47 rest).1=(cutAt 47 rest).1:=hfx _ (List.mem_of_mem_take (i:=k+1) (by rw[hs1];simp))
   gi_wp2_with (refine⟨trivial,?_⟩;gi_at_call 27;refine(z069 _ rest (by omega) _).mono ?_;rintro e w2 ⟨rfl,hg⟩;have hJ2:=hJ _ _ _ none hJs hg (λr e=>by cases e);obtain⟨fn,tmps,assign,body,hy,hR⟩:=hY _ (cutAt 47 rest).1 w2 hJ2 (by rw[Qay];omega);rw[hx4]at hy)
   refine hR.mono ?_
   rintro e W3 (⟨rfl,hJ3,_⟩|⟨rfl,hJx3⟩)
   ·gi_wp2
    go_roundw
    case rel=>
     refine⟨k+1,(cutAt 47 rest).2.1,rfl,?_,?_,by rw[hs1];exact hJ3⟩
     ·have:=ycc 47 rest;omega
     ·cases hc:(cutAt 47 rest).2.2
      ·exact .inr ⟨rfl,by rw[hs2,hc];rfl⟩
      ·exact .inl ⟨rfl,by have:=y3d hc;omega,by rw[hs2,hc];rfl⟩
    case measure=>
     have h1:=ycc 47 rest;cases hc:(cutAt 47 rest).2.2
     ·simp[strSize,ymk,ByteArray.size];omega
     ·have:=y3d hc;simp[strSize,ymk,ByteArray.size];omega
   ·gi_wp2
    refine bodyPost_ret (results_none rfl _ _ _) rfl ?_;exact⟨⟨_,rfl⟩,.inr ⟨_,⟨k+1,hs1.symm⟩,hJx3⟩⟩
  ·gi_wp2
   go_end0
   refine⟨⟨_,rfl⟩,.inl ⟨_,rfl,?_⟩⟩
   have:(steps s).take k=steps s:=by
    have:=List.take_append_drop k (steps s);rw[hd,List.append_nil]at this;exact this
   rw[<-this];exact hJs
def z02p(n:Nat)(s:B8)(w:World) :
  CallsIn Fence.wide n prog 149 #[S s] w λe w'=>e = .returned (.func (.func 186) #[] #[.pointer (some ⟨w.heap.size,0,none⟩)])∧w'=w.alloc (.cells #[S s] 9):=by
 refine callsIn_of_wp func149 rfl trivial ?_ rfl;simp only[ntmps149,List.size_toArray,List.length_cons,Qcc,Nat.reduceAdd,Nat.reduceSub,Array.replicate_succ,Array.replicate_zero,List.push_toArray,List.append_toArray,List.nil_append,List.cons_append]
 gi_wp2
 go_ret
 exact⟨rfl,rfl⟩
def yph(n:Nat)(g:1<=n)(a:Nat)(s:B8)(o:s.length<=4000)(b:∀x∈steps s,fx x=x)(w:World)(d:a<w.heap.size)(h:w.cell? ⟨a,0,none⟩=some (S s)) :
  SeqStopsK Fence.wide n prog 186 #[.pointer (some ⟨a,0,none⟩)] (λx:B8 => #[S (fx x)]) (λ_ _=>True) (λe=>e=steps s) (λpre=>∃k,pre=(steps s).take k) (s.length+1) w:=λl J r W j m _ i q=>
 yw8 n g l a s (by omega) J r i o b W m ((j.cell (p:=⟨a,0,none⟩) d).trans h) q
def yvm{tmps:Array Value}{w:World}{B:Nat}{v:Value}(b:tmps.getD 2 undef = .pointer (some ⟨B,0,none⟩))(d:w.cell? ⟨B,0,none⟩=some v):(results f105 tmps).run prog w = .ok v w:=by
 have a:tmps[2]?.getD undef = .pointer (some ⟨B,0,none⟩):=by simpa using b
 simp[results,f105,a,asAddr,go_sem,d]
set_option maxRecDepth 100000 in
set_option maxHeartbeats 2000000 in
def z00u(s:B8)(hfx:∀x∈steps s,fx x=x)(w:World):CallsIn Fence.wide 3 prog 105 #[S s] w λe w'=>e = .returned (.int .i64 (zss s))∧RowKit.Below w.heap.size w w':=by
 refine callsIn_of_wp_marks func105 rfl trivial ?_ rfl;simp only[ntmps105,List.size_toArray,List.length_cons,Qcc,Nat.reduceAdd,Nat.reduceSub,Array.replicate_succ,Array.replicate_zero,List.push_toArray,List.append_toArray,List.nil_append,List.cons_append];have hB0:RowKit.Below w.heap.size w (w.alloc (.cells #[.int .i64 0] 27)):=(RowKit.Below.refl _ w).alloc (Qbw _) _
 by_cases h4:(4000:Int)<(s.length:Int)
 ·gi_wp2
  refine⟨trivial,?_⟩
  gi_wp2
  refine⟨.int .i64 4,yvm (B:=w.heap.size) rfl (by simp),?_,(RowKit.Below.refl _ w).alloc (Qbw _) _⟩;have h4':4000<s.length:=by omega
  simp[zss,h4']
 ·have hB2:∀w2,RowKit.Below (w.alloc (.cells #[.int .i64 0] 27)).heap.size (w.alloc (.cells #[.int .i64 0] 27)) w2->RowKit.Below w.heap.size w w2:=λw2 h=>hB0.trans (h.mono (by simp))
  gi_wp2_with (first|(refine⟨trivial,?_⟩;gi_at_call 109;refine(z01a _ s _).mono ?_;rintro e w2 ⟨rfl,hg⟩;have hc2:w2.cell? ⟨w.heap.size,0,none⟩=some (.int .i64 0):=(hg.cell (p:=⟨w.heap.size,0,none⟩) (by simp)).trans (by simp);have hf2:w2.frozen? ⟨w.heap.size,0,none⟩=false:=(hg.frozen (p:=⟨w.heap.size,0,none⟩) (by simp)).trans (by simp);have hsz:=hg.size;rw[World.size_alloc]at hsz)|(refine⟨trivial,?_⟩;gi_at_call 149;refine(z02p _ s _).mono ?_;rintro e w3 ⟨rfl,rfl⟩))
  ·rename_i h39;refine⟨.int .i64 4,yvm (B:=w.heap.size) rfl (World.cell?_setCell_same' _ _ _ (by rw[hc2];rfl)),?_,(hB2 _ hg).setCell (Qbw _) _⟩;have h4':¬4000<s.length:=by omega
   have hs:40<(steps s).length:=by
    cases s with
    |nil=>simp at h39
    |cons c t=>rw[show steps (c::t)=parts 47 (c::t)from rfl,ziq];omega
   simp only[zss,h4',hs,if_false,if_true]
  ·rename_i h39 _ _ _
   have hs40:¬40<(steps s).length:=by
    cases s with
    |nil=>simp[steps]
    |cons c t=>rw[show steps (c::t)=parts 47 (c::t)from rfl,ziq];omega
   have hBA:RowKit.Below w2.heap.size w2 (w2.alloc (.cells #[S s] 9)):=(RowKit.Below.refl _ w2).alloc (Qbw _) _
   refine wpIn_rangeFunc_ownF rfl (by omega) (gf:=186) (lb := #[.pointer (some ⟨w2.heap.size,0,none⟩)]) rfl trivial (enters_of func186 (by kernel_rfl) rfl)
    (yph _ (by omega) w2.heap.size s (by omega) hfx _ (by simp) (by simp)) (λ_ _=>trivial) (λ_ _ _ _ _ _ _ _=>trivial) (RowKit.Below.refl _ _) (λ_=>rfl)
    (λpre W=>(pre.all λx=>(rd x).1)=true∧W.cell? ⟨w.heap.size,0,none⟩=some (.int .i64 0)∧W.frozen? ⟨w.heap.size,0,none⟩=false∧RowKit.Below w.heap.size w W)
    (λc pre W=>c = .ret∧(pre.all λx=>(rd x).1)=false∧W.cell? ⟨w.heap.size,0,none⟩=some (.int .i64 12)∧RowKit.Below w.heap.size w W)
    (λs A B row hs hg hr =>?_) (λc s A B row hs hg hr =>?_)
    ⟨rfl,(hBA.cell (p:=⟨w.heap.size,0,none⟩) (by show w.heap.size<_;omega)).trans hc2,(hBA.frozen (p:=⟨w.heap.size,0,none⟩) (by show w.heap.size<_;omega)).trans hf2,(hB2 _ hg).alloc (by omega) _⟩
    (λx=>{tmps := #[S s,undef,.pointer (some ⟨w.heap.size,0,none⟩),S (fx x),undef,undef,S s,.int .i64 s.length,.bool false,.bool false,S s,.int .i64 (s.countP (· == 47):Int),.bool (decide (39<(s.countP (· == 47):Int))),.bool (decide (39<(s.countP (· == 47):Int))),S s,.func (.func 186) #[] #[.pointer (some ⟨w2.heap.size,0,none⟩)],S (fx x),undef,undef,undef,undef,undef,undef,undef],defers:=[]}) ?assign ?body ?done ?stop
   ·exact⟨hs.1,cell_kept hs.2.1 hg (λr e=>(hr r e).2),(frozen_kept hs.2.1 hg (λr e=>(hr r e).2)).trans hs.2.2.1,hs.2.2.2.grown hg hs.2.2.2.size (λk e=>by have:=(hr k e).1;simp at this;omega)⟩
   ·exact⟨hs.1,hs.2.1,cell_kept hs.2.2.1 hg (λr e=>(hr r e).2),hs.2.2.2.grown hg hs.2.2.2.size (λk e=>by have:=(hr k e).1;simp at this;omega)⟩
   case assign=>
    intro l x W K hK
    gi_wp2
    exact hK
   case body=>
    rintro l pre x W ⟨hp,hc,hf,hB⟩ _
    have hlt:w.heap.size<W.heap.size:=by
     obtain⟨o,ho,_⟩:=cells_of_cell hc;exact(Qbn.1 ho).1
    gi_wp2_with (refine⟨trivial,?_⟩;gi_at_call 150;refine(CallsIn.inRound l (z04r _ (fx x) (rd_some x) _)).mono ?_;rintro e w4 ⟨nm,ix,rfl,hg4⟩;have hc4:w4.cell? ⟨w.heap.size,0,none⟩=some (.int .i64 0):=(hg4.cell (p:=⟨w.heap.size,0,none⟩) hlt).trans hc;have hf4:w4.frozen? ⟨w.heap.size,0,none⟩=false:=(hg4.frozen (p:=⟨w.heap.size,0,none⟩) hlt).trans hf;have hlt4:=Qbj hlt hg4.size;have hc5:∀o,(w4.alloc o).cell? ⟨w.heap.size,0,none⟩=some (.int .i64 0):=λo=>((((RowKit.Below.refl w4.heap.size w4).alloc (Qbw _) o).cell (p:=⟨w.heap.size,0,none⟩) hlt4).trans hc4);have hf5:∀o,(w4.alloc o).frozen? ⟨w.heap.size,0,none⟩=false:=λo=>((((RowKit.Below.refl w4.heap.size w4).alloc (Qbw _) o).frozen (p:=⟨w.heap.size,0,none⟩) hlt4).trans hf4))
    ·rename_i hx;have hB5:RowKit.Below w.heap.size w (w4.setCell ⟨w.heap.size,0,none⟩ (.int .i64 12)):=(hB.trans (hg4.mono (Nat.le_of_lt hlt))).setCell (Qbw _) _;have hlt5:w.heap.size<(w4.setCell ⟨w.heap.size,0,none⟩ (.int .i64 12)).heap.size:=by rw[World.size_setCell];exact hlt4
     refine⟨(KeepsOthers.of_grownBy (grown hg4) (λj o e=>by cases e)).trans ((KeepsOthers.setCell _ _ _).trans (KeepsOthers.alloc _ _)),rfl,?_,?_,hB5.alloc (Nat.le_of_lt hlt5) _⟩
     ·simp[hp];simpa using hx
     ·exact((((RowKit.Below.refl _ _).alloc (Qbw _) _).cell (p:=⟨w.heap.size,0,none⟩) hlt5).trans (World.cell?_setCell_same' _ _ _ (by rw[hc4];rfl)))
    ·rename_i hx;refine⟨(KeepsOthers.of_grownBy (grown hg4) (λj o e=>by cases e)).trans (KeepsOthers.alloc _ _),trivial,?_,hc5 _,hf5 _,(hB.trans (hg4.mono (Nat.le_of_lt hlt))).alloc (Nat.le_of_lt hlt4) _⟩;simp[hp];simpa using hx
   case done=>
    rintro D xs W hD rfl ⟨hp,hc,hf,hB⟩ hK
    gi_wp2
    have hDw:w.heap.size<D:=by simp at hD;omega
    refine⟨by simp,.inl ⟨_,_,rfl,run_takeDeferred (w:=W.setCell ⟨w.heap.size,0,none⟩ (.int .i64 0)) ((Below.heap_setCell _ _ _ _ (by show D≠w.heap.size;omega)).trans hK),?_⟩⟩
    refine⟨.int .i64 0,yvm (B:=w.heap.size) rfl ((World.cell?_of_block (World.putObj_heap_other (by show w.heap.size≠D;omega))).trans (World.cell?_setCell_same' _ _ _ (by rw[hc];rfl))),?_,(hB.setCell (Qbw _) _).grown (grownBy_putObj' _ _ _) (hB.setCell (p:=⟨w.heap.size,0,none⟩) (Qbw _) _).size (λk e=>by cases e;omega)⟩;have h4':¬4000<s.length:=by omega
    have hs:¬40<(steps s).length:=hs40;simp only[zss,h4',hs,hp,if_false,if_true]
   case stop=>
    rintro D c pre W hD ⟨k,rfl⟩ ⟨rfl,hp,hc,hB⟩ hK
    gi_wp2
    have hDw:w.heap.size<D:=by simp at hD;omega
    refine⟨by simp,.inl ⟨_,_,rfl,run_takeDeferred hK,?_⟩⟩;refine⟨.int .i64 12,yvm (B:=w.heap.size) rfl ((World.cell?_of_block (World.putObj_heap_other (by show w.heap.size≠D;omega))).trans hc),?_,hB.grown (grownBy_putObj' _ _ _) hB.size (λk e=>by cases e;omega)⟩;have h4':¬4000<s.length:=by omega
    have hs:¬40<(steps s).length:=hs40
    have hall:((steps s).all λx=>(rd x).1)=false:=by
     cases ha:(steps s).all λx=>(rd x).1 with
     |false=>rfl
     |true=>
      rw[Qat]at ha;rw[Qat.2 λx hx=>ha x (List.mem_of_mem_take hx)]at hp;cases hp
    simp only[zss,h4',hs,hall,if_false,Bool.false_eq_true]
def y3u(n:Nat)(j:B8)(r:Int)(h:zg2 n j=some r):zw3 prog 105 [.str j] (.int .i64 r):=by
 rw[zg2]at h;split at h
 case isFalse=>cases h
 rename_i i
 have k:∀x∈steps j,fx x=x:=λx p=>by
  have:=Qat.1 i x p;unfold fx;rw[Qbx this]
 cases h;intro H W g b w y;refine .inl ⟨call105 _ _,?_⟩;have⟨u,s⟩:=y;have e0:=s 0 _ rfl
 have q:b = #[b.getD 0 undef]:=by
  have⟨l⟩:=b
  match l,u with
  |[a],_=>rfl
 cases m:b.getD 0 undef <;> rw[m]at e0 <;> cases e0
 rw[q,m];refine(callsIn_wide.1 (z00u j k W)).mono ?_
 rintro e W' ⟨rfl,d⟩
 have o:Grow W W':=⟨d.os,d.tape,d.output,d.size,d.block⟩;exact⟨_,g,rfl,o.step,w.grow o,.int _ _⟩
end Go.Proofs.YthlmhmebajjkbaaGreatDoor
namespace Go.Proofs.YthlmhmebajjkbaaGreatDoor
open Go Go.Ab Go.Proofs Go.RowKit
open Tryz
noncomputable section
def yzp:Nat->List B8->Option (List B8):=λ_ xs=>if xs.length<4611686018427387904 then some (yk2 xs)else none
def z4n:FI dat:=yst dat 94 9 yzp
def ze7:FOk prog z4n:=by
 have e:yzp=λ_ xs=>if xs.length<4611686018427387904 then some (z0e xs)else none:=by funext n xs;simp only[yzp,yex]
 unfold z4n;rw[e];exact z04w (λ_ _=>call94 _ _) (λblk a b w h g d=>Any.slices_Sort_string yaw blk 0 a b w h g d) (λp a w=>Any.slices_Sort_string_none yaw p a w)
def zg4:Nat->List B8->List Bool->Option (List B8×List B8×List Bool):=λ_ a vs=>if a.Nodup∧a.length=vs.length∧a.length<=8388608∧(∀s∈a,s.length<=8388608)then some (yk2 a,a,vs)else none
def zel:FI dat:=ytt dat 43 86 zg4
def zwn:FOk prog zel:=by
 have e:zg4=λ_ a vs=>if a.Nodup∧a.length=vs.length∧a.length<=8388608∧(∀s∈a,s.length<=8388608)then some (z0e a,a,vs)else none:=by funext n a vs;simp only[zg4,yex]
 unfold zel;rw[e];exact z04h (by kernel_rfl) (λ_ _=>call43 _ _) z052
def zb0:Nat->kz5->Option kz5:=λ_ xs=>if xs.length<=8388608 then some xs else none
def zbh:FI dat:=ymv dat 143 42 (.st 2) zb0
def zj7:FOk prog zbh :=
 z02u (zzf _) (bytes:=120) (by decide) (by decide) (λ_ _=>call143 _ _) (λa n c cells w h g e d b=>yyl a n c cells w h g e d b) yun
def zbq:Nat->kz6->Int->Option kz6:=λ_ _ n=>if 0<=n∧n<=8388608 then some []else none
def z6h:FI dat:=yo6 dat 133 83 (.st 3) (λn m=>zbq n [] m)
def zjx:FOk prog z6h:=yvy (by decide) (λ_ _=>call133 _ _) (λn w h=>z01i n w h)
def zbp:Nat->zz5->Int->Option zz5:=λ_ _ n=>if 0<=n∧n<=8388608 then some []else none
def z6g:FI dat:=yo6 dat 135 34 (.st 7) (λn m=>zbp n [] m)
def zjh:FOk prog z6g:=yvy (by decide) (λ_ _=>call135 _ _) (λn w h=>yyx n w h)
def z8m:Nat->List B8->Option (List B8):=λ_ xs=>if xs.length<=8388608 then some xs else none
def ze9:FI dat:=yra dat 50 .str z8m
def zlz:FOk prog ze9 :=
 yxl (zzf _) (ty:=9) (bytes:=16) (by decide) (by decide) (λ_ _=>call50 _ _) (λa n c cells w h g e d b=>z01f a n c cells w h g e d b) yy7
def z3q:Nat->Int->Int->zz5->Option zz5:=λ_ i j xs=>yjo xs i j
def zay:FI dat:=z02i dat 58 34 7 (λn xs i j=>z3q n i j xs)
def zid:FOk prog zay:=z05s (by decide) (λ_ _=>call58 _ _) z06b
def y0w:FI dat :=
 {R:=Int,ent:=λn=>{f:=105,p:=0,args:=[.d .str],aos:=[],outs:=[.d (.int .i64)],ros:=[],pan:=.nilp,pos:=[],pure:=true,go:=λx k _=>(zg2 n x.1).bind λr=>k (r,())},
   c:=.skip,K:=⟨λ_=>none,[],λ_=>none,λ_ _=>none⟩,p:=0,args:=[],aos:=[],nt:=0,z6m:=λ_=>[],go:=λ_ _=>none}
def yee:FOk prog y0w:=λn R x k g r h=>by
 have⟨y,d,h⟩:=Qce.1 (show(zg2 n x.1).bind (λr=>k (r,()))=some r from h);refine⟨(y,()),h,rfl,rfl,rfl,λlv vargs a=>⟨[.int .i64 y],λρ b =>?_,?_⟩⟩
 ·show VRL dat ρ b [TV.int .i64 y] _;simp only[VRL,VR];exact⟨_,_,rfl,rfl,rfl⟩
 ·have a:VRL dat [] lv [TV.str x.1] vargs:=a;simp only[VRL,VR]at a;obtain⟨v,e,rfl,rfl,rfl⟩:=a;exact y3u n x.1 y d
def zh0:Nat->B8->B8->Option (List B8):=λ_ s t=>if t=[47]∧s.length<=1048576 then some (parts 47 s)else none
def zwa:FI dat :=
 {R:=List B8,ent:=λn=>{f:=26,p:=0,args:=[.d .str,.d .str],aos:=[],outs:=[.own 0],ros:=[.acc 9 .str true],pan:=.nilp,pos:=[],pure:=false,go:=λx k _=>(zh0 n x.1 x.2.1).bind λr=>k (r,())},
   c:=.skip,K:=⟨λ_=>none,[],λ_=>none,λ_ _=>none⟩,p:=0,args:=[],aos:=[],nt:=0,z6m:=λ_=>[],go:=λ_ _=>none}
def y47(b:UInt8):∀(k:Nat) (s:B8),s.countP (· == b)=k->Lib.splitK [b] 0 k s=parts b s
 |0,s,h=>by
  have a:s.any (· == b)=false:=by
   rw[List.any_eq_false];intro x d;have:=List.countP_eq_zero.1 h x d;simpa using this
  rw[parts_eq,ysj a];rfl
 |k+1,s,h=>by
  have a:s.any (· == b)=true:=by
   rw[List.any_eq_true];have⟨x,d,i⟩:=List.countP_pos_iff.1 (show 0<s.countP (· == b) by omega);exact⟨x,d,i⟩
  have⟨o,n,m⟩:=ynr a;have l:Lib.index s [b]=((s.takeWhile (· != b)).length:Int):=by rw[Lib.index_one,ybc,Qbx a]
  have j:¬(Lib.index s [b] == -1)=true:=λe=>by have:=Qbm.1 e;omega
  have g:(cutAt b s).2.2=true:=a;have hlen:=congrArg List.length (parts_eq b s);rw[Qbx g,ziq,List.length_cons,ziq]at hlen;rw[Lib.splitK,Qby j,l,Qbq,parts_eq,Qbx g]
  congr 1
  ·rw[List.length_singleton,m];exact y47 b k _ (by show(cutAt b s).2.1.countP _=_;omega)
def yqm(s:ByteArray)(w:World)(hs:s.size<4294967281):Calls prog 26 #[.string s,.string ⟨#[47]⟩] w λe w'=>
  ∃l:List ByteArray,l.map (·.data.toList)=parts 47 s.data.toList∧e = .returned (.slice (some ⟨w.heap.size,0,none⟩) l.length l.length)∧w'=w.alloc (.cells (l.map Value.string).toArray 9):=by
 have h1:1<=(⟨#[47]⟩:ByteArray).size:=by decide
 have hlen:=Lib.splitB_all ⟨#[47]⟩ h1 0 _ s rfl
 have c:=Any.strings_genSplit_core (ρ:=y7x) {y4r with} (by kernel_rfl) s ⟨#[47]⟩ 0 (-1) (Lib.countB s ⟨#[47]⟩+1) w hs h1 (Qbv _)
  (λx c hx=>(Any.strings_Index_one {y4r with} x 47 _).mono λe w' ⟨a1,a2⟩=>⟨by rw[a1];exact congrArg (λz=>Ending.returned (Value.int .i64 z)) (Lib.index_one _ _).symm,a2⟩)
  ((Any.strings_Count_one {y4r with} s 47 w).mono λe w' ⟨a1,a2⟩=>⟨by
    rw[a1];show _=Ending.returned (Value.int .i64 ((Lib.count s.data.toList [47]:Nat):Int))
    rw[Lib.count_one];rfl,a2⟩) (by decide) (by decide) (by rw[Qbx (by decide)];have:=Lib.countB_le ⟨#[47]⟩ h1 s.size s (Qbw _);omega)
 rw[Nat.add_sub_cancel,hlen]at c;have e2:Lib.cellsOf (Lib.splitB ⟨#[47]⟩ 0 (Lib.countB s ⟨#[47]⟩) s) (Lib.countB s ⟨#[47]⟩+1)=((Lib.splitB ⟨#[47]⟩ 0 (Lib.countB s ⟨#[47]⟩) s).map Value.string).toArray:=by rw[<-hlen];exact Lib.cellsOf_full _
 rw[e2]at c
 have hp:(Lib.splitB ⟨#[47]⟩ 0 (Lib.countB s ⟨#[47]⟩) s).map (·.data.toList)=parts 47 s.data.toList:=by
  rw[Lib.splitB_data];refine y47 47 _ _ ?_;show _=Lib.count s.data.toList [47];rw[Lib.count_one];rfl
 go_enter func26,ntmps26
 go_wp2_with (go_at_call 61;refine c.mono ?_;rintro e w' ⟨rfl,hw⟩;rw[hw])
 go_ret
 refine⟨_,hp,?_,rfl⟩;rw[hlen];rfl
def z061(xs:List B8)(j:Nat)(y:B8)(u:V)(b:xs[j]? = some y)(a:(xs.map V.str)[j]? = some u):DR dat .str y u:=by
 rw[Qan,b]at a;cases a;exact .str _
def mk_data(s:B8):(⟨s.toArray⟩:ByteArray).data.toList=s:=rfl
def y6x:FOk prog zwa:=λn R x k kp r h=>by
 have⟨s,t,u⟩:=x;change B8 at s;change B8 at t;have⟨y,o,h⟩:=Qce.1 (show(zh0 n s t).bind (λr=>k (r,()))=some r from h);unfold zh0 at o;split at o
 case isFalse=>cases o
 rename_i F;obtain⟨rfl,F⟩:=F;cases o;refine .inl ⟨(parts 47 s,()),h,λlv L E G vargs I m k3 k4 =>?_⟩;obtain rfl:G=[]:=Qao I;have m:VRL dat [] lv [TV.str s,TV.str [47]] vargs:=m;simp only[VRL,VR]at m;obtain⟨v,r1,rfl,rfl,Z,H,rfl,rfl,rfl⟩:=m
 have hlen:(parts 47 s).length<=1048577:=by
  rw[ziq];have:=List.countP_le_length (p:=λx=>x==47) (l:=s);omega
 have N:=ydx (P:=prog) (f:=26) (vargs:=[V.str s,V.str [47]]) (lv:=lv) (L:=L) (E:=E) (ty:=9) (sz:=1) (ws:=(parts 47 s).map V.str) (by decide) (λj u i=>by
   rw[Qan,Qaf]at i;obtain⟨z,_,rfl⟩:=i
   rfl) (λ_ _=>call26 _ _) λW g C hG O=>by
  obtain⟨a,b,rfl,T,Q⟩:=z03p O;cases T;cases Q;refine⟨(parts 47 s).map λz=>Value.string ⟨z.toArray⟩,⟨by simp,λj x t v i w =>?_⟩,(yqm _ W (by simp only[ByteArray.size];simp;omega)).mono ?_⟩
  ·rw[Qan,Qaf]at i;obtain⟨z,J,rfl⟩:=i
   cases t with
   |succ t=>simp[V.cells]at w
   |zero=>
    simp[V.cells]at w;subst w;exact⟨.string ⟨z.toArray⟩,by simp[J],rfl,.str _⟩
  ·rintro e W' ⟨l,A,rfl,rfl⟩
   rw[mk_data]at A
   have B:l.map Value.string=(parts 47 s).map λz=>Value.string ⟨z.toArray⟩:=by
    rw[<-A,List.map_map];exact List.map_congr_left λb _=>by simp
   have d:l.length=(parts 47 s).length:=by rw[<-A,Qbd]
   refine⟨_,rfl,⟨by simp,.inr ⟨W.heap.size,l.length,_,by rw[Qbd,d],Qbw _,z2h W _,by rw[Qbd,d];exact Qbw _,by simp only[maxLen];omega,by simp,?_⟩⟩,(Below.refl _ W).alloc (Qbw _) _⟩;rw[<-B];simp[d];rw[List.take_of_length_le (by simp[d])]
 refine N.mono λout H' M =>?_
 have⟨L',ρ',Y,X,U⟩:=y6i (D:=dat) (τ:=.str) (xs:=parts 47 s) (ws:=(parts 47 s).map V.str) (Qbd _) (z061 (parts 47 s)) M;exact⟨L',ρ',Y,X,(λq K=>by cases K),U⟩
def yv2(l:List ByteArray)(d o c:Nat)(w:World)(a:∀(j:Nat) x,l[j]? = some x->w.cell? ⟨d,o+j,none⟩=some (.string x))(m:l.length<=1048576)(b:l.length<=c)
  (hlen:(Lib.join (l.map (·.data.toList)) [47]).length<=16777216) (k:l=[]∨d<w.heap.size) :
  Calls prog 28 #[.slice (some ⟨d,o,none⟩) l.length c,.string ⟨#[47]⟩] w λe g=>e = .returned (.string ⟨(Lib.join (l.map (·.data.toList)) [47]).toArray⟩)∧RowKit.Below w.heap.size w g:=by
 rcases k with rfl|hbk
 ·exact(Any.strings_Join_none yoe zjy _ c ⟨#[47]⟩ w).mono λe g ⟨i,h⟩=>⟨i,h▸RowKit.Below.refl _ _⟩
 ·exact Any.strings_Join yoe zjy d o c l ⟨#[47]⟩ w a hbk (by omega) b (by show(Lib.join (l.map (·.data.toList)) [47]).length<=_;omega)
def join_none(a:Option Addr)(c:Nat)(w:World):Calls prog 28 #[.slice a 0 c,.string ⟨#[47]⟩] w λe b=>e = .returned (.string ⟨([]:B8).toArray⟩)∧b=w :=
 (Any.strings_Join_none yoe zjy a c ⟨#[47]⟩ w).mono λe b ⟨g,d⟩=>⟨g,d⟩
def zhz:Nat->List B8->B8->Option B8:=λ_ xs t=>if t=[47]∧xs.length<=1048576∧(Lib.join xs [47]).length<=16777216 then some (Lib.join xs [47])else none
def zx6:FI dat :=
 {R:=B8,ent:=λn=>{f:=28,p:=0,args:=[.d (.sl .str),.d .str],aos:=[],outs:=[.d .str],ros:=[],pan:=.nilp,pos:=[],pure:=true,go:=λx k _=>(zhz n x.1 x.2.1).bind λr=>k (r,())},
   c:=.skip,K:=⟨λ_=>none,[],λ_=>none,λ_ _=>none⟩,p:=0,args:=[],aos:=[],nt:=0,z6m:=λ_=>[],go:=λ_ _=>none}
def z053(xs:List B8)(D:xs.length<=1048576)(C:(Lib.join xs [47]).length<=16777216){v:V}(N:DR dat (.sl .str) xs v):zw3 prog 28 [v,.str [47]] (.str (Lib.join xs [47])):=λH W g E K X=>by
 obtain⟨x,y,rfl,r,Y⟩:=z03p X;cases Y;refine .inl ⟨call28 _ _,?_⟩
 have nil:∀a c,xs=[]->Calls prog 28 #[.slice a 0 c,.string ⟨#[47]⟩] W λe W'=>∃c g',e = .returned c∧Step W g H W' g' H∧Go.Ab.Good W' g' H∧Rel W' g' H (.str (Lib.join xs [47])) c:=λa c R=>(join_none a c W).mono λe w' ⟨B,p⟩=>by
  subst R;subst p;exact⟨_,g,B,.refl _ _ _,K,.str _⟩
 cases N with
 |nil=>cases r;exact nil none 0 rfl
 |sl _ _ ws full I T=>
  have u:ws=xs.map V.str:=by
   refine List.ext_getElem? λj =>?_
   rw[Qan]
   cases h:xs[j]? with
   |none=>have:=List.getElem?_eq_none_iff.1 h;simp only[Option.map_none];exact Qcf (by rw[I];exact this)
   |some z=>
    have A:=(Qaa.1 h).1;obtain⟨w,p⟩:∃w,ws[j]? = some w:=⟨_,Qab (by rw[I];exact A)⟩;have:=T j z w h p;rw[p];cases this;rfl
  subst u;generalize i:xs.map V.str=ys at r
  cases r with
  |slnil=>exact nil none 0 (by simpa using i)
  |sle _ _ a m Q=>exact nil _ _ (by simpa using i)
  |sl _ _ _ b o m c P F n Q G U Z O=>
   subst i
   have d:∀(j:Nat) (s:B8),xs[j]? = some s->W.cell? ⟨b,o+j,none⟩=some (.string ⟨s.toArray⟩):=λj s h=>by
    have M:(xs.map V.str)[j]? = some (.str s):=by rw[Qan,h];rfl
    have q:=U j (.str s) 0 (.str s) M rfl;have L:=O j (.str s) 0 (.str s) M rfl;have q:W.cell? ⟨b,o+j * 1+0,none⟩=some (c j 0):=q;rw[Nat.mul_one,Nat.add_zero]at q;rw[q];cases F:c j 0 <;> rw[F]at L <;> cases L
    rfl
   have l:(xs.map λs=>(⟨s.toArray⟩:ByteArray)).map (·.data.toList)=xs:=by rw[List.map_map];exact(List.map_congr_left λs _=>mk_data s).trans (List.map_id _)
   have:=yv2 (xs.map λs=>⟨s.toArray⟩) b o m W (λj x h=>by
    rw[Qan,Qaf]at h;obtain⟨s,G,rfl⟩:=h
    exact d j s G) (by simpa using D) (by simpa using n) (by rw[l];exact C) (by
    cases xs with
    |nil=>exact .inl rfl
    |cons s t=>exact .inr (yl7 (d 0 s rfl)))
   rw[l,Qbd]at this;rw[Qbd];refine this.mono ?_
   rintro e W' ⟨rfl,k⟩
   have J:Grow W W':=⟨k.os,k.tape,k.output,k.size,k.block⟩;exact⟨_,g,rfl,J.step,K.grow J,.str _⟩
def y9a:FOk prog zx6:=λn R x k p r h=>by
 have⟨xs,t,u⟩:=x;change List B8 at xs;change B8 at t;have⟨y,a,h⟩:=Qce.1 (show(zhz n xs t).bind (λr=>k (r,()))=some r from h);unfold zhz at a;split at a
 case isFalse=>cases a
 rename_i j;obtain⟨rfl,g,e⟩:=j;cases a;refine⟨(_,()),h,rfl,rfl,rfl,λlv vargs b=>⟨[.str (Lib.join xs [47])],λρ d =>?_,?_⟩⟩
 ·show VRL dat ρ d [TV.str (Lib.join xs [47])] _;simp only[VRL,VR];exact⟨_,_,rfl,rfl,rfl⟩
 ·have b:VRL dat [] lv [TV.sl .str xs 0,TV.str [47]] vargs:=b;simp only[VRL,VR]at b;obtain⟨v,o,rfl,⟨i,_,_⟩,l,m,rfl,rfl,rfl⟩:=b;exact z053 xs g e i
end
end Go.Proofs.YthlmhmebajjkbaaGreatDoor
namespace Go.Proofs.YthlmhmebajjkbaaGreatDoor
open Go Go.Ab
open Tryz
set_option maxRecDepth 100000
set_option maxHeartbeats 4000000
noncomputable section
def z0o:Nat->Option yz1
 |0=>none
 |n+1=>
  some (yz1.mk 1 (zz1.mk 2 (kz4.mk 0 0) true [] []) [] [])
def zwg:LSh:=⟨[(0,(.ptr 0 0))],[(.st 2)],0,3,[]⟩
def zew:FI dat:=FI.of dat 9 3 0 [] [] [dT 2] [] true zwg (R:=yz1) Prod.fst (·,()) (λn x=>z0o n)
 (λn=>[]) (anb [] f9)
def zj9:FOk prog zew:=okF (bs:=[]) trivial func9 ntmps9 call9
 (λn=>λx=>(z0o.eq_2 n).trans (by kernel_rfl))
 (λn=>trivial)
mutual
def kzt:Nat->B8->(List B8)->Ot zz3
 |0,_,_=>none
 |n+1,a,b=>
  (z0o n).bind λd=>
  z17 n 0 b a 1 d.op d.value.kind d.value.num.num d.value.num.den d.value.truth d.value.str d.value.list d.name d.args (zz3.mk [] [] []) []
def z17:Nat->Int->(List B8)->B8->Int->Int->Int->Int->Int->Bool->B8->z4f->B8->kz5->zz3->yzu->Ot zz3
 |0,_,_,_,_,_,_,_,_,_,_,_,_,_,_,_=>none
 |n+1,a,b,c,d,e,f,g,h,i,j,k,l,m,o,p=>
  pIf (decide (a<(b.length:Int)))
   ((ix b a).bind λr=>
   (ext p [(kz2.mk 1 0 r [] [])]).bind λq=>
   z17 n (IntKind.i64.wrap (a+1)) b c d e f g h i j k l m o q)
   (some (zz3.mk c [] [(zz4.mk d (yz1.mk e (zz1.mk f (kz4.mk g h) i j k) l m) p)]))
end
def zxj:LSh:=⟨[(4,(.ptr 0 0))],[(.st 7)],0,29,[]⟩
def zbr:FI dat:=FI.of dat 8 29 0 [dS,dA] [] [dT 7] [] true zxj (R:=zz3) Prod.fst (·,()) (λn=>u2 (kzt n))
 (λn=>[(0,⟨⟨[(6,dI),(5,(.ptr 0 0)),(1,dA),(4,(.ptr 1 0)),(0,dS)],[(.cells [dI,dU,dU,dI,dI,dB,dS,dL 1,dS,dL 2,(.own 2)]),(.st 7),(.acc 71 (.st 5) true)],0,29,[]⟩,λx=>z17 n x.1 x.2.1 x.2.2.1 x.2.2.2.1 x.2.2.2.2.1 x.2.2.2.2.2.1 x.2.2.2.2.2.2.1 x.2.2.2.2.2.2.2.1 x.2.2.2.2.2.2.2.2.1 x.2.2.2.2.2.2.2.2.2.1 x.2.2.2.2.2.2.2.2.2.2.1 x.2.2.2.2.2.2.2.2.2.2.2.1 x.2.2.2.2.2.2.2.2.2.2.2.2.1 x.2.2.2.2.2.2.2.2.2.2.2.2.2.1 x.2.2.2.2.2.2.2.2.2.2.2.2.2.2.1⟩)]) (anb [(8,0)] Tryz.f8)
def zkn:FOk prog zbr:=okF (bs:=[zew]) ⟨zj9,trivial⟩ func8 ntmps8 call8
 (λ_ _=>tr (kzt.eq_2 ..))
 (λn=>⟨λ_=>tr (z17.eq_2 ..),
  trivial⟩)
mutual
def yzt:Nat->Int->Ot zz0
 |0,_=>none
 |n+1,a=>
  z8a n 0 a [99] [] (zz0.mk [] []) []
def z8a:Nat->Int->Int->B8->(List B8)->zz0->z0q->Ot zz0
 |0,_,_,_,_,_,_=>none
 |n+1,a,b,c,d,e,f=>
  pIf (decide (a<b))
   ((z0o n).bind λj=>
   (ext f [(zz4.mk 1 j.re [])]).bind λk=>
   z8a n (IntKind.i64.wrap (a+1)) b c d e k)
   ((kzt n [97] [[98]]).bind λi=>
   (kzt n [98] [[99]]).bind λh=>
   (kzt n [100] []).bind λg=>
   some (zz0.mk [] [i,h,(zz3.mk c d f),g]))
end
def zya:LSh:=⟨[(2,(.ptr 0 0))],[(.st 8)],0,26,[]⟩
def zfx:FI dat:=FI.of dat 6 26 0 [dI] [] [dT 8] [] true zya (R:=zz0) Prod.fst (·,()) (λn=>u1 (yzt n))
 (λn=>[(0,⟨⟨[(4,dI),(3,(.ptr 0 0)),(2,(.ptr 1 0)),(0,dI)],[(.cells [dS,dA,(.own 2)]),(.st 8),(.acc 64 (.st 6) true)],0,26,[]⟩,u6 (z8a n)⟩)]) (anb [(8,0)] Tryz.f6)
def zwj:FOk prog zfx:=okF (bs:=[zew,zbr]) ⟨zj9,zkn,trivial⟩ func6 ntmps6 call6
 (λ_ _=>tr (yzt.eq_2 ..))
 (λn=>⟨λ_=>tr (z8a.eq_2 ..),
  trivial⟩)
def zbc:Nat->kz2->Ot Bool
 |0,_=>none
 |n+1,a=>
  some (decide ((a.items.length:Int)>10))
def yc0:LSh:=⟨[(2,dB)],[],0,7,[]⟩
def zy5:FI dat:=FI.of dat 76 7 0 [dT 5] [] [dB] [] true yc0 (R:=Bool) Prod.fst (·,()) (λn=>u1 (zbc n))
 (λn=>[]) (anb [] f76)
def ya3:FOk prog zy5:=okF (bs:=[]) trivial func76 ntmps76 call76
 (λn=>λ_=>tr (zbc.eq_2 _ n))
 (λn=>trivial)
mutual
def yzj:Nat->yzu->Ot Int
 |0,_=>none
 |n+1,a=>
  yzb n 0 a (a.length:Int)
def yzb:Nat->Int->yzu->Int->Ot Int
 |0,_,_,_=>none
 |n+1,a,b,c=>
  pIf (decide (a<c))
   ((ix b a).bind λe=>
   (zbc n e).bind λd=>
   pIf d
    (some a)
    (yzb n (IntKind.i64.wrap (a+1)) b c))
   (some (-1))
end
def zev:LSh:=⟨[(4,dI)],[],0,19,[]⟩
def z6j:FI dat:=FI.of dat 126 19 0 [dL 5,(.fn 76 [] [])] [] [dI] [] true zev (R:=Int) Prod.fst (·,()) (λn=>u1 (yzj n))
 (λn=>[(0,⟨⟨[(8,dI),(0,dL 5),(1,(.fn 76 [] [])),(7,dI)],[],0,19,[]⟩,u3 (yzb n)⟩)]) (anb [(6,0)] f126)
def zea:FOk prog z6j:=okF (bs:=[zy5]) ⟨ya3,trivial⟩ func126 ntmps126 call126
 (λ_ _=>tr (yzj.eq_2 ..))
 (λn=>⟨λ_=>tr (yzb.eq_2 ..),
  trivial⟩)
def kzb:Nat->yzu->Ot Bool
 |0,_=>none
 |n+1,a=>
  (yzj n a).bind λb=>
  some (decide (b>=0))
def zdc:LSh:=⟨[(4,dB)],[],0,9,[]⟩
def z4t:FI dat:=FI.of dat 75 9 0 [dL 5,(.fn 76 [] [])] [] [dB] [] true zdc (R:=Bool) Prod.fst (·,()) (λn=>u1 (kzb n))
 (λn=>[]) (anb [] f75)
def zcw:FOk prog z4t:=okF (bs:=[z6j]) ⟨zea,trivial⟩ func75 ntmps75 call75
 (λ_ _=>tr (kzb.eq_2 ..))
 (λn=>trivial)
mutual
def zeg:Nat->zz0->Ot Bool
 |0,_=>none
 |n+1,a=>
  pIf (decide ((a.attrs.length:Int)>20))
   (z6q n true a)
   (z6q n (decide ((a.rules.length:Int)>40)) a)
def z6q:Nat->Bool->zz0->Ot Bool
 |0,_,_=>none
 |n+1,a,b=>
  pIf a
   (some true)
   (z4l n 0 b.rules (b.rules.length:Int))
def z4l:Nat->Int->zz5->Int->Ot Bool
 |0,_,_,_=>none
 |n+1,a,b,c=>
  pIf (decide (a<c))
   ((ix b a).bind λd=>
   pIf (decide ((d.params.length:Int)>4))
    (z7h n b c a true d)
    (z7h n b c a (decide ((d.cases.length:Int)>6)) d))
   (some false)
def z7h:Nat->zz5->Int->Int->Bool->zz3->Ot Bool
 |0,_,_,_,_,_=>none
 |n+1,a,b,c,d,e=>
  pIf d
   (some true)
   (z4b n 0 e.cases a b c (e.cases.length:Int))
def z4b:Nat->Int->z0q->zz5->Int->Int->Int->Ot Bool
 |0,_,_,_,_,_,_=>none
 |n+1,a,b,c,d,e,f=>
  pIf (decide (a<f))
   ((ix b a).bind λg=>
   pIf (decide ((g.do_.length:Int)>10))
    (z82 n b c d e f a true)
    ((kzb n g.do_).bind λh=>
    z82 n b c d e f a h))
   (z4l n (IntKind.i64.wrap (e+1)) c d)
def z82:Nat->z0q->zz5->Int->Int->Int->Int->Bool->Ot Bool
 |0,_,_,_,_,_,_,_=>none
 |n+1,a,b,c,d,e,f,g=>
  pIf g
   (some true)
   (z4b n (IntKind.i64.wrap (f+1)) a b c d e)
end
def yma:LSh:=⟨[(2,dB)],[],0,52,[]⟩
def y5p:FI dat:=FI.of dat 34 52 0 [dT 8] [] [dB] [] true yma (R:=Bool) Prod.fst (·,()) (λn=>u1 (zeg n))
 (λn=>[(0,⟨⟨[(1,(.ptr 0 0)),(16,dB)],[(.st 8)],0,52,[]⟩,u2 (z6q n)⟩),(1,⟨⟨[(20,dI),(18,dL 7),(19,dI)],[],0,52,[]⟩,u3 (z4l n)⟩),(2,⟨⟨[(18,dL 7),(19,dI),(20,dI),(4,(.ptr 0 0)),(33,dB)],[(.st 7)],0,52,[]⟩,u5 (z7h n)⟩),(3,⟨⟨[(37,dI),(35,dL 6),(18,dL 7),(19,dI),(20,dI),(36,dI)],[],0,52,[]⟩,u6 (z4b n)⟩),(4,⟨⟨[(35,dL 6),(18,dL 7),(19,dI),(20,dI),(36,dI),(37,dI),(49,dB)],[],0,52,[]⟩,u7 (z82 n)⟩)]) (anb [(5,0),(14,1),(28,2),(36,3),(49,4)] f34)
def yhm:FOk prog y5p:=okF (bs:=[z4t]) ⟨zcw,trivial⟩ func34 ntmps34 call34
 (λ_ _=>tr (zeg.eq_2 ..))
 (λn=>⟨λ_=>tr (z6q.eq_2 ..),
  λ_=>tr (z4l.eq_2 ..),
  λ_=>tr (z7h.eq_2 ..),
  λ_=>tr (z4b.eq_2 ..),
  λ_=>tr (z82.eq_2 ..),
  trivial⟩)
mutual
def zzm:Nat->(List B8)->B8->Ot Int
 |0,_,_=>none
 |n+1,a,b=>
  zze n 0 a b (a.length:Int)
def zze:Nat->Int->(List B8)->B8->Int->Ot Int
 |0,_,_,_,_=>none
 |n+1,a,b,c,d=>
  pIf (decide (a<d))
   ((ix b a).bind λe=>
   pIf (c==e)
    (some a)
    (zze n (IntKind.i64.wrap (a+1)) b c d))
   (some (-1))
end
def zm4:LSh:=⟨[(4,dI)],[],0,19,[]⟩
def z96:FI dat:=FI.of dat 37 19 0 [dA,dS] [] [dI] [] true zm4 (R:=Int) Prod.fst (·,()) (λn=>u2 (zzm n))
 (λn=>[(0,⟨⟨[(8,dI),(0,dA),(1,dS),(7,dI)],[],0,19,[]⟩,u4 (zze n)⟩)]) (anb [(6,0)] f37)
def zdg:FOk prog z96:=okF (bs:=[]) trivial func37 ntmps37 call37
 (λ_ _=>tr (zzm.eq_2 ..))
 (λn=>⟨λ_=>tr (zze.eq_2 ..),
  trivial⟩)
def yzo:Nat->(List B8)->B8->Ot Bool
 |0,_,_=>none
 |n+1,a,b=>
  (zzm n a b).bind λd=>
  some (decide (d>=0))
def zkh:LSh:=⟨[(4,dB)],[],0,9,[]⟩
def zce:FI dat:=FI.of dat 127 9 0 [dA,dS] [] [dB] [] true zkh (R:=Bool) Prod.fst (·,()) (λn=>u2 (yzo n))
 (λn=>[]) (anb [] f127)
def zjp:FOk prog zce:=okF (bs:=[z96]) ⟨zdg,trivial⟩ func127 ntmps127 call127
 (λ_ _=>tr (yzo.eq_2 ..))
 (λn=>trivial)
end
end Go.Proofs.YthlmhmebajjkbaaGreatDoor
