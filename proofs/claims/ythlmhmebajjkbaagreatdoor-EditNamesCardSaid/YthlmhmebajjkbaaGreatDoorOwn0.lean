/-
  THE GO STRUCTS AS LEAN STRUCTURES, by a program of this repo (types.py).
-/
import Derived.Test.YthlmhmebajjkbaaGreatDoorLib2
import Derived.Test.YthlmhmebajjkbaaGreatDoorLib4
import Derived.Test.YthlmhmebajjkbaaGreatDoorLib7
import Derived.Shelf.Sort.Plain
import Derived.Shelf.Slices.In.SortNone
import Derived.Shelf.SlIter.Sorted
import Derived.Shelf.Spec.SlicesGrow
import Derived.Shelf.Strings.Split
import Derived.Shelf.Strings.OnBuilder
import Derived.Ground.GgzProg
import Derived.Ground.NamesProg
import Derived.Ground.Names8Prog
import Derived.Test.YthlmhmebajjkbaaGreatDoorProg
import Derived.Test.YthlmhmebajjkbaaGreatDoorLib9
import Derived.Shelf.RegionOpenPlain
import Derived.WalkKit
import Derived.Deep.LoopGhost
import Derived.Lib.Walk
import Derived.Lib.SliceRun
import Derived.Deep.RegionLaw
import Derived.KernelRfl
import Derived.Test.YthlmhmebajjkbaaGreatDoorLib8
import Derived.RangeFuncBox
import Derived.RangeFuncLeaves
import Derived.RangeFuncFrom
import Derived.RangeFuncCalls
import Derived.Shelf.Abstract
import Derived.OwnWalkIn
import Derived.TacticsInMore
import Derived.LoopNIn
import Derived.LoopIn
import Derived.Shelf.RegionOpen
namespace Go.Ab
open Go
set_option linter.unusedVariables false
set_option linter.unusedSimpArgs false
structure yz2 where
 num:Int
 den:Int
def yz2.el (x:yz2):V:=.agg [.int .i64 x.num,.int .i64 x.den]
def yz2.size (x:yz2):Nat:=1+1+1
def yz2.wf (x:yz2):Prop:=(IntKind.i64.min<=x.num∧x.num<=IntKind.i64.max)∧(IntKind.i64.min<=x.den∧x.den<=IntKind.i64.max)
theorem yz2.yzd (x:yz2):x.el = .agg [.int .i64 x.num,.int .i64 x.den]:=by rw [yz2.el]
theorem yz2.size_eq (x:yz2):x.size=1+1+1:=by rw [yz2.size]
theorem yz2.zza (x:yz2):x.el.cells.length=2:=by rw [yz2.yzd];rfl
theorem yz2.kin {D:Nat->Nat->Prop} (x:yz2):V.kin D x.el:=by rw [yz2.yzd];simp only [V.kin,V.z4l,and_true,true_and]
def yz2.ty:Ty yz2:=⟨yz2.el,2,yz2.size,yz2.wf,yz2.zza⟩
structure yz0 where
 kind:Int
 num:yz2
 truth:Bool
 str:List UInt8
 list:List yz0
theorem yz0.zw1 {x y:yz0} (h:y∈x.list):SizeOf.sizeOf y<SizeOf.sizeOf x:=by cases x;have:=List.sizeOf_lt_of_mem h;simp at this ⊢;omega
def yz0.el (x:yz0):V:=.agg [.int .u8 x.kind,.int .i64 x.num.num,.int .i64 x.num.den,.bool x.truth,.str x.str,.sl 6 (x.list.map yz0.el) false]
 termination_by x
 decreasing_by all_goals first|exact yz0.zw1 ‹_›
def yz0.size (x:yz0):Nat:=1+x.num.size+1+(x.str.length+1)+((x.list.map yz0.size).sum+1)+1
 termination_by x
 decreasing_by all_goals first|exact yz0.zw1 ‹_›
def yz0.wf (x:yz0):Prop:=(IntKind.u8.min<=x.kind∧x.kind<=IntKind.u8.max)∧x.num.wf∧True∧True∧(∀y∈x.list,y.wf)
 termination_by x
 decreasing_by all_goals first|exact yz0.zw1 ‹_›
theorem yz0.yzd (x:yz0):x.el = .agg [.int .u8 x.kind,.int .i64 x.num.num,.int .i64 x.num.den,.bool x.truth,.str x.str,.sl 6 (x.list.map yz0.el) false]:=by rw [yz0.el]
theorem yz0.size_eq (x:yz0):x.size=1+x.num.size+1+(x.str.length+1)+((x.list.map yz0.size).sum+1)+1:=by rw [yz0.size]
theorem yz0.zza (x:yz0):x.el.cells.length=6:=by rw [yz0.yzd];rfl
theorem yz0.kin {D:Nat->Nat->Prop} (x:yz0):V.kin D x.el:=by rw [yz0.yzd];simp only [V.kin,V.z4l,and_true,true_and];exact z0z λy hy=>yz0.kin y
 termination_by x
 decreasing_by all_goals first|exact yz0.zw1 ‹_›
def yz0.ty:Ty yz0:=⟨yz0.el,6,yz0.size,yz0.wf,yz0.zza⟩
structure kz0 where
 op:Int
 value:yz0
 name:List UInt8
 args:List kz0
theorem kz0.zvx {x y:kz0} (h:y∈x.args):SizeOf.sizeOf y<SizeOf.sizeOf x:=by cases x;have:=List.sizeOf_lt_of_mem h;simp at this ⊢;omega
def kz0.el (x:kz0):V:=.agg [.int .u8 x.op,.int .u8 x.value.kind,.int .i64 x.value.num.num,.int .i64 x.value.num.den,.bool x.value.truth,.str x.value.str,.sl 6 (x.value.list.map yz0.el) false,.str x.name,.sl 9 (x.args.map kz0.el) false]
 termination_by x
 decreasing_by all_goals first|exact kz0.zvx ‹_›
def kz0.size (x:kz0):Nat:=1+x.value.size+(x.name.length+1)+((x.args.map kz0.size).sum+1)+1
 termination_by x
 decreasing_by all_goals first|exact kz0.zvx ‹_›
def kz0.wf (x:kz0):Prop:=(IntKind.u8.min<=x.op∧x.op<=IntKind.u8.max)∧x.value.wf∧True∧(∀y∈x.args,y.wf)
 termination_by x
 decreasing_by all_goals first|exact kz0.zvx ‹_›
theorem kz0.yzd (x:kz0):x.el = .agg [.int .u8 x.op,.int .u8 x.value.kind,.int .i64 x.value.num.num,.int .i64 x.value.num.den,.bool x.value.truth,.str x.value.str,.sl 6 (x.value.list.map yz0.el) false,.str x.name,.sl 9 (x.args.map kz0.el) false]:=by rw [kz0.el]
theorem kz0.size_eq (x:kz0):x.size=1+x.value.size+(x.name.length+1)+((x.args.map kz0.size).sum+1)+1:=by rw [kz0.size]
theorem kz0.zza (x:kz0):x.el.cells.length=9:=by rw [kz0.yzd];rfl
theorem kz0.kin {D:Nat->Nat->Prop} (x:kz0):V.kin D x.el:=by rw [kz0.yzd];simp only [V.kin,V.z4l,and_true,true_and];exact ⟨z0z λy hy=>yz0.kin y,z0z λy hy=>kz0.kin y⟩
 termination_by x
 decreasing_by all_goals first|exact kz0.zvx ‹_›
def kz0.ty:Ty kz0:=⟨kz0.el,9,kz0.size,kz0.wf,kz0.zza⟩
structure kz4 where
 name:List UInt8
 value:kz0
def kz4.el (x:kz4):V:=.agg [.str x.name,.int .u8 x.value.op,.int .u8 x.value.value.kind,.int .i64 x.value.value.num.num,.int .i64 x.value.value.num.den,.bool x.value.value.truth,.str x.value.value.str,.sl 6 (x.value.value.list.map yz0.el) false,.str x.value.name,.sl 9 (x.value.args.map kz0.el) false]
def kz4.size (x:kz4):Nat:=(x.name.length+1)+x.value.size+1
def kz4.wf (x:kz4):Prop:=True∧x.value.wf
theorem kz4.yzd (x:kz4):x.el = .agg [.str x.name,.int .u8 x.value.op,.int .u8 x.value.value.kind,.int .i64 x.value.value.num.num,.int .i64 x.value.value.num.den,.bool x.value.value.truth,.str x.value.value.str,.sl 6 (x.value.value.list.map yz0.el) false,.str x.value.name,.sl 9 (x.value.args.map kz0.el) false]:=by rw [kz4.el]
theorem kz4.size_eq (x:kz4):x.size=(x.name.length+1)+x.value.size+1:=by rw [kz4.size]
theorem kz4.zza (x:kz4):x.el.cells.length=10:=by rw [kz4.yzd];rfl
theorem kz4.kin {D:Nat->Nat->Prop} (x:kz4):V.kin D x.el:=by rw [kz4.yzd];simp only [V.kin,V.z4l,and_true,true_and];exact ⟨z0z λy hy=>yz0.kin y,z0z λy hy=>kz0.kin y⟩
def kz4.ty:Ty kz4:=⟨kz4.el,10,kz4.size,kz4.wf,kz4.zza⟩
structure zzu where
 kind:Int
 name:List UInt8
 args:List kz0
def zzu.el (x:zzu):V:=.agg [.int .u8 x.kind,.str x.name,.sl 9 (x.args.map kz0.el) false]
def zzu.size (x:zzu):Nat:=1+(x.name.length+1)+((x.args.map kz0.size).sum+1)+1
def zzu.wf (x:zzu):Prop:=(IntKind.u8.min<=x.kind∧x.kind<=IntKind.u8.max)∧True∧(∀y∈x.args,y.wf)
theorem zzu.yzd (x:zzu):x.el = .agg [.int .u8 x.kind,.str x.name,.sl 9 (x.args.map kz0.el) false]:=by rw [zzu.el]
theorem zzu.size_eq (x:zzu):x.size=1+(x.name.length+1)+((x.args.map kz0.size).sum+1)+1:=by rw [zzu.size]
theorem zzu.zza (x:zzu):x.el.cells.length=3:=by rw [zzu.yzd];rfl
theorem zzu.kin {D:Nat->Nat->Prop} (x:zzu):V.kin D x.el:=by rw [zzu.yzd];simp only [V.kin,V.z4l,and_true,true_and];exact z0z λy hy=>kz0.kin y
def zzu.ty:Ty zzu:=⟨zzu.el,3,zzu.size,zzu.wf,zzu.zza⟩
structure yz3 where
 kind:Int
 axis:Int
 name:List UInt8
 args:List kz0
 items:List zzu
def yz3.el (x:yz3):V:=.agg [.int .u8 x.kind,.int .u8 x.axis,.str x.name,.sl 9 (x.args.map kz0.el) false,.sl 3 (x.items.map zzu.el) false]
def yz3.size (x:yz3):Nat:=1+1+(x.name.length+1)+((x.args.map kz0.size).sum+1)+((x.items.map zzu.size).sum+1)+1
def yz3.wf (x:yz3):Prop:=(IntKind.u8.min<=x.kind∧x.kind<=IntKind.u8.max)∧(IntKind.u8.min<=x.axis∧x.axis<=IntKind.u8.max)∧True∧(∀y∈x.args,y.wf)∧(∀y∈x.items,y.wf)
theorem yz3.yzd (x:yz3):x.el = .agg [.int .u8 x.kind,.int .u8 x.axis,.str x.name,.sl 9 (x.args.map kz0.el) false,.sl 3 (x.items.map zzu.el) false]:=by rw [yz3.el]
theorem yz3.size_eq (x:yz3):x.size=1+1+(x.name.length+1)+((x.args.map kz0.size).sum+1)+((x.items.map zzu.size).sum+1)+1:=by rw [yz3.size]
theorem yz3.zza (x:yz3):x.el.cells.length=5:=by rw [yz3.yzd];rfl
theorem yz3.kin {D:Nat->Nat->Prop} (x:yz3):V.kin D x.el:=by rw [yz3.yzd];simp only [V.kin,V.z4l,and_true,true_and];exact ⟨z0z λy hy=>kz0.kin y,z0z λy hy=>zzu.kin y⟩
def yz3.ty:Ty yz3:=⟨yz3.el,5,yz3.size,yz3.wf,yz3.zza⟩
structure kz9 where
 weight:Int
 when_:kz0
 do_:List yz3
def kz9.el (x:kz9):V:=.agg [.int .i64 x.weight,.int .u8 x.when_.op,.int .u8 x.when_.value.kind,.int .i64 x.when_.value.num.num,.int .i64 x.when_.value.num.den,.bool x.when_.value.truth,.str x.when_.value.str,.sl 6 (x.when_.value.list.map yz0.el) false,.str x.when_.name,.sl 9 (x.when_.args.map kz0.el) false,.sl 5 (x.do_.map yz3.el) false]
def kz9.size (x:kz9):Nat:=1+x.when_.size+((x.do_.map yz3.size).sum+1)+1
def kz9.wf (x:kz9):Prop:=(IntKind.i64.min<=x.weight∧x.weight<=IntKind.i64.max)∧x.when_.wf∧(∀y∈x.do_,y.wf)
theorem kz9.yzd (x:kz9):x.el = .agg [.int .i64 x.weight,.int .u8 x.when_.op,.int .u8 x.when_.value.kind,.int .i64 x.when_.value.num.num,.int .i64 x.when_.value.num.den,.bool x.when_.value.truth,.str x.when_.value.str,.sl 6 (x.when_.value.list.map yz0.el) false,.str x.when_.name,.sl 9 (x.when_.args.map kz0.el) false,.sl 5 (x.do_.map yz3.el) false]:=by rw [kz9.el]
theorem kz9.size_eq (x:kz9):x.size=1+x.when_.size+((x.do_.map yz3.size).sum+1)+1:=by rw [kz9.size]
theorem kz9.zza (x:kz9):x.el.cells.length=11:=by rw [kz9.yzd];rfl
theorem kz9.kin {D:Nat->Nat->Prop} (x:kz9):V.kin D x.el:=by rw [kz9.yzd];simp only [V.kin,V.z4l,and_true,true_and];exact ⟨z0z λy hy=>yz0.kin y,z0z λy hy=>kz0.kin y,z0z λy hy=>yz3.kin y⟩
def kz9.ty:Ty kz9:=⟨kz9.el,11,kz9.size,kz9.wf,kz9.zza⟩
structure zz1 where
 name:List UInt8
 params:List (List UInt8)
 cases:List kz9
def zz1.el (x:zz1):V:=.agg [.str x.name,.sl 1 (x.params.map V.str) false,.sl 11 (x.cases.map kz9.el) false]
def zz1.size (x:zz1):Nat:=(x.name.length+1)+((x.params.map (λs=>s.length+1)).sum+1)+((x.cases.map kz9.size).sum+1)+1
def zz1.wf (x:zz1):Prop:=True∧(∀y∈x.params,True)∧(∀y∈x.cases,y.wf)
theorem zz1.yzd (x:zz1):x.el = .agg [.str x.name,.sl 1 (x.params.map V.str) false,.sl 11 (x.cases.map kz9.el) false]:=by rw [zz1.el]
theorem zz1.size_eq (x:zz1):x.size=(x.name.length+1)+((x.params.map (λs=>s.length+1)).sum+1)+((x.cases.map kz9.size).sum+1)+1:=by rw [zz1.size]
theorem zz1.zza (x:zz1):x.el.cells.length=3:=by rw [zz1.yzd];rfl
theorem zz1.kin {D:Nat->Nat->Prop} (x:zz1):V.kin D x.el:=by rw [zz1.yzd];simp only [V.kin,V.z4l,and_true,true_and];exact ⟨z0z λ_ _=>by simp [V.kin],z0z λy hy=>kz9.kin y⟩
def zz1.ty:Ty zz1:=⟨zz1.el,3,zz1.size,zz1.wf,zz1.zza⟩
structure yz1 where
 attrs:List kz4
 rules:List zz1
def yz1.el (x:yz1):V:=.agg [.sl 10 (x.attrs.map kz4.el) false,.sl 3 (x.rules.map zz1.el) false]
def yz1.size (x:yz1):Nat:=((x.attrs.map kz4.size).sum+1)+((x.rules.map zz1.size).sum+1)+1
def yz1.wf (x:yz1):Prop:=(∀y∈x.attrs,y.wf)∧(∀y∈x.rules,y.wf)
theorem yz1.yzd (x:yz1):x.el = .agg [.sl 10 (x.attrs.map kz4.el) false,.sl 3 (x.rules.map zz1.el) false]:=by rw [yz1.el]
theorem yz1.size_eq (x:yz1):x.size=((x.attrs.map kz4.size).sum+1)+((x.rules.map zz1.size).sum+1)+1:=by rw [yz1.size]
theorem yz1.zza (x:yz1):x.el.cells.length=2:=by rw [yz1.yzd];rfl
theorem yz1.kin {D:Nat->Nat->Prop} (x:yz1):V.kin D x.el:=by rw [yz1.yzd];simp only [V.kin,V.z4l,and_true,true_and];exact ⟨z0z λy hy=>kz4.kin y,z0z λy hy=>zz1.kin y⟩
def yz1.ty:Ty yz1:=⟨yz1.el,2,yz1.size,yz1.wf,yz1.zza⟩
structure kz3 where
 kind:Int
 name:List UInt8
 to_:List UInt8
 rule_:zz1
 value:kz0
def kz3.el (x:kz3):V:=.agg [.int .u8 x.kind,.str x.name,.str x.to_,.str x.rule_.name,.sl 1 (x.rule_.params.map V.str) false,.sl 11 (x.rule_.cases.map kz9.el) false,.int .u8 x.value.op,.int .u8 x.value.value.kind,.int .i64 x.value.value.num.num,.int .i64 x.value.value.num.den,.bool x.value.value.truth,.str x.value.value.str,.sl 6 (x.value.value.list.map yz0.el) false,.str x.value.name,.sl 9 (x.value.args.map kz0.el) false]
def kz3.size (x:kz3):Nat:=1+(x.name.length+1)+(x.to_.length+1)+x.rule_.size+x.value.size+1
def kz3.wf (x:kz3):Prop:=(IntKind.u8.min<=x.kind∧x.kind<=IntKind.u8.max)∧True∧True∧x.rule_.wf∧x.value.wf
theorem kz3.yzd (x:kz3):x.el = .agg [.int .u8 x.kind,.str x.name,.str x.to_,.str x.rule_.name,.sl 1 (x.rule_.params.map V.str) false,.sl 11 (x.rule_.cases.map kz9.el) false,.int .u8 x.value.op,.int .u8 x.value.value.kind,.int .i64 x.value.value.num.num,.int .i64 x.value.value.num.den,.bool x.value.value.truth,.str x.value.value.str,.sl 6 (x.value.value.list.map yz0.el) false,.str x.value.name,.sl 9 (x.value.args.map kz0.el) false]:=by rw [kz3.el]
theorem kz3.size_eq (x:kz3):x.size=1+(x.name.length+1)+(x.to_.length+1)+x.rule_.size+x.value.size+1:=by rw [kz3.size]
theorem kz3.zza (x:kz3):x.el.cells.length=15:=by rw [kz3.yzd];rfl
theorem kz3.kin {D:Nat->Nat->Prop} (x:kz3):V.kin D x.el:=by rw [kz3.yzd];simp only [V.kin,V.z4l,and_true,true_and];exact ⟨z0z λ_ _=>by simp [V.kin],z0z λy hy=>kz9.kin y,z0z λy hy=>yz0.kin y,z0z λy hy=>kz0.kin y⟩
def kz3.ty:Ty kz3:=⟨kz3.el,15,kz3.size,kz3.wf,kz3.zza⟩
structure zz4 where
 path:List UInt8
 kind:Int
 name:List UInt8
def zz4.el (x:zz4):V:=.agg [.str x.path,.int .u8 x.kind,.str x.name]
def zz4.size (x:zz4):Nat:=(x.path.length+1)+1+(x.name.length+1)+1
def zz4.wf (x:zz4):Prop:=True∧(IntKind.u8.min<=x.kind∧x.kind<=IntKind.u8.max)∧True
theorem zz4.yzd (x:zz4):x.el = .agg [.str x.path,.int .u8 x.kind,.str x.name]:=by rw [zz4.el]
theorem zz4.size_eq (x:zz4):x.size=(x.path.length+1)+1+(x.name.length+1)+1:=by rw [zz4.size]
theorem zz4.zza (x:zz4):x.el.cells.length=3:=by rw [zz4.yzd];rfl
theorem zz4.kin {D:Nat->Nat->Prop} (x:zz4):V.kin D x.el:=by rw [zz4.yzd];simp only [V.kin,V.z4l,and_true,true_and]
def zz4.ty:Ty zz4:=⟨zz4.el,3,zz4.size,zz4.wf,zz4.zza⟩
structure kzk where
 name:List UInt8
 many:Int
def kzk.el (x:kzk):V:=.agg [.str x.name,.int .i64 x.many]
def kzk.size (x:kzk):Nat:=(x.name.length+1)+1+1
def kzk.wf (x:kzk):Prop:=True∧(IntKind.i64.min<=x.many∧x.many<=IntKind.i64.max)
theorem kzk.yzd (x:kzk):x.el = .agg [.str x.name,.int .i64 x.many]:=by rw [kzk.el]
theorem kzk.size_eq (x:kzk):x.size=(x.name.length+1)+1+1:=by rw [kzk.size]
theorem kzk.zza (x:kzk):x.el.cells.length=2:=by rw [kzk.yzd];rfl
theorem kzk.kin {D:Nat->Nat->Prop} (x:kzk):V.kin D x.el:=by rw [kzk.yzd];simp only [V.kin,V.z4l,and_true,true_and]
def kzk.ty:Ty kzk:=⟨kzk.el,2,kzk.size,kzk.wf,kzk.zza⟩
structure z7t where
 x:Int
 y:Int
 z:Int
def z7t.el (x:z7t):V:=.agg [.int .i64 x.x,.int .i64 x.y,.int .i64 x.z]
def z7t.size (x:z7t):Nat:=1+1+1+1
def z7t.wf (x:z7t):Prop:=(IntKind.i64.min<=x.x∧x.x<=IntKind.i64.max)∧(IntKind.i64.min<=x.y∧x.y<=IntKind.i64.max)∧(IntKind.i64.min<=x.z∧x.z<=IntKind.i64.max)
theorem z7t.yzd (x:z7t):x.el = .agg [.int .i64 x.x,.int .i64 x.y,.int .i64 x.z]:=by rw [z7t.el]
theorem z7t.size_eq (x:z7t):x.size=1+1+1+1:=by rw [z7t.size]
theorem z7t.zza (x:z7t):x.el.cells.length=3:=by rw [z7t.yzd];rfl
theorem z7t.kin {D:Nat->Nat->Prop} (x:z7t):V.kin D x.el:=by rw [z7t.yzd];simp only [V.kin,V.z4l,and_true,true_and]
def z7t.ty:Ty z7t:=⟨z7t.el,3,z7t.size,z7t.wf,z7t.zza⟩
structure z0n where
 zee:Int
 at_:z7t
def z0n.el (x:z0n):V:=.agg [.int .u8 x.zee,.int .i64 x.at_.x,.int .i64 x.at_.y,.int .i64 x.at_.z]
def z0n.size (x:z0n):Nat:=1+x.at_.size+1
def z0n.wf (x:z0n):Prop:=(IntKind.u8.min<=x.zee∧x.zee<=IntKind.u8.max)∧x.at_.wf
theorem z0n.yzd (x:z0n):x.el = .agg [.int .u8 x.zee,.int .i64 x.at_.x,.int .i64 x.at_.y,.int .i64 x.at_.z]:=by rw [z0n.el]
theorem z0n.size_eq (x:z0n):x.size=1+x.at_.size+1:=by rw [z0n.size]
theorem z0n.zza (x:z0n):x.el.cells.length=4:=by rw [z0n.yzd];rfl
theorem z0n.kin {D:Nat->Nat->Prop} (x:z0n):V.kin D x.el:=by rw [z0n.yzd];simp only [V.kin,V.z4l,and_true,true_and]
def z0n.ty:Ty z0n:=⟨z0n.el,4,z0n.size,z0n.wf,z0n.zza⟩
structure z0t where
 frame:z0n
 size_:z7t
def z0t.el (x:z0t):V:=.agg [.int .u8 x.frame.zee,.int .i64 x.frame.at_.x,.int .i64 x.frame.at_.y,.int .i64 x.frame.at_.z,.int .i64 x.size_.x,.int .i64 x.size_.y,.int .i64 x.size_.z]
def z0t.size (x:z0t):Nat:=x.frame.size+x.size_.size+1
def z0t.wf (x:z0t):Prop:=x.frame.wf∧x.size_.wf
theorem z0t.yzd (x:z0t):x.el = .agg [.int .u8 x.frame.zee,.int .i64 x.frame.at_.x,.int .i64 x.frame.at_.y,.int .i64 x.frame.at_.z,.int .i64 x.size_.x,.int .i64 x.size_.y,.int .i64 x.size_.z]:=by rw [z0t.el]
theorem z0t.size_eq (x:z0t):x.size=x.frame.size+x.size_.size+1:=by rw [z0t.size]
theorem z0t.zza (x:z0t):x.el.cells.length=7:=by rw [z0t.yzd];rfl
theorem z0t.kin {D:Nat->Nat->Prop} (x:z0t):V.kin D x.el:=by rw [z0t.yzd];simp only [V.kin,V.z4l,and_true,true_and]
def z0t.ty:Ty z0t:=⟨z0t.el,7,z0t.size,z0t.wf,z0t.zza⟩
structure z3v where
 path:List UInt8
 rule_:List UInt8
 args:List yz0
 scope:z0t
 leaf:List UInt8
 fault:Int
 open_:Bool
def z3v.el (x:z3v):V:=.agg [.str x.path,.str x.rule_,.sl 6 (x.args.map yz0.el) false,.int .u8 x.scope.frame.zee,.int .i64 x.scope.frame.at_.x,.int .i64 x.scope.frame.at_.y,.int .i64 x.scope.frame.at_.z,.int .i64 x.scope.size_.x,.int .i64 x.scope.size_.y,.int .i64 x.scope.size_.z,.str x.leaf,.int .i64 x.fault,.bool x.open_]
def z3v.size (x:z3v):Nat:=(x.path.length+1)+(x.rule_.length+1)+((x.args.map yz0.size).sum+1)+x.scope.size+(x.leaf.length+1)+1+1+1
def z3v.wf (x:z3v):Prop:=True∧True∧(∀y∈x.args,y.wf)∧x.scope.wf∧True∧(IntKind.i64.min<=x.fault∧x.fault<=IntKind.i64.max)∧True
theorem z3v.yzd (x:z3v):x.el = .agg [.str x.path,.str x.rule_,.sl 6 (x.args.map yz0.el) false,.int .u8 x.scope.frame.zee,.int .i64 x.scope.frame.at_.x,.int .i64 x.scope.frame.at_.y,.int .i64 x.scope.frame.at_.z,.int .i64 x.scope.size_.x,.int .i64 x.scope.size_.y,.int .i64 x.scope.size_.z,.str x.leaf,.int .i64 x.fault,.bool x.open_]:=by rw [z3v.el]
theorem z3v.size_eq (x:z3v):x.size=(x.path.length+1)+(x.rule_.length+1)+((x.args.map yz0.size).sum+1)+x.scope.size+(x.leaf.length+1)+1+1+1:=by rw [z3v.size]
theorem z3v.zza (x:z3v):x.el.cells.length=13:=by rw [z3v.yzd];rfl
theorem z3v.kin {D:Nat->Nat->Prop} (x:z3v):V.kin D x.el:=by rw [z3v.yzd];simp only [V.kin,V.z4l,and_true,true_and];exact z0z λy hy=>yz0.kin y
def z3v.ty:Ty z3v:=⟨z3v.el,13,z3v.size,z3v.wf,z3v.zza⟩
structure z4k where
 name:List UInt8
 many:Int
def z4k.el (x:z4k):V:=.agg [.str x.name,.int .i64 x.many]
def z4k.size (x:z4k):Nat:=(x.name.length+1)+1+1
def z4k.wf (x:z4k):Prop:=True∧(IntKind.i64.min<=x.many∧x.many<=IntKind.i64.max)
theorem z4k.yzd (x:z4k):x.el = .agg [.str x.name,.int .i64 x.many]:=by rw [z4k.el]
theorem z4k.size_eq (x:z4k):x.size=(x.name.length+1)+1+1:=by rw [z4k.size]
theorem z4k.zza (x:z4k):x.el.cells.length=2:=by rw [z4k.yzd];rfl
theorem z4k.kin {D:Nat->Nat->Prop} (x:z4k):V.kin D x.el:=by rw [z4k.yzd];simp only [V.kin,V.z4l,and_true,true_and]
def z4k.ty:Ty z4k:=⟨z4k.el,2,z4k.size,z4k.wf,z4k.zza⟩
structure zzj where
 name:List UInt8
 index:Int
def zzj.el (x:zzj):V:=.agg [.str x.name,.int .i64 x.index]
def zzj.size (x:zzj):Nat:=(x.name.length+1)+1+1
def zzj.wf (x:zzj):Prop:=True∧(IntKind.i64.min<=x.index∧x.index<=IntKind.i64.max)
theorem zzj.yzd (x:zzj):x.el = .agg [.str x.name,.int .i64 x.index]:=by rw [zzj.el]
theorem zzj.size_eq (x:zzj):x.size=(x.name.length+1)+1+1:=by rw [zzj.size]
theorem zzj.zza (x:zzj):x.el.cells.length=2:=by rw [zzj.yzd];rfl
theorem zzj.kin {D:Nat->Nat->Prop} (x:zzj):V.kin D x.el:=by rw [zzj.yzd];simp only [V.kin,V.z4l,and_true,true_and]
def zzj.ty:Ty zzj:=⟨zzj.el,2,zzj.size,zzj.wf,zzj.zza⟩
def yz0.re (x:yz0):yz0:=⟨x.kind,x.num,x.truth,x.str,x.list⟩
def kz0.re (x:kz0):kz0:=⟨x.op,x.value.re,x.name,x.args⟩
def kz4.re (x:kz4):kz4:=⟨x.name,x.value.re⟩
def kz9.re (x:kz9):kz9:=⟨x.weight,x.when_.re,x.do_⟩
def kz3.re (x:kz3):kz3:=⟨x.kind,x.name,x.to_,x.rule_,x.value.re⟩
def datT:Nat->Type
 |0=>yz2
 |1=>yz0
 |2=>kz0
 |3=>kz4
 |4=>zzu
 |5=>yz3
 |6=>kz9
 |7=>zz1
 |8=>yz1
 |9=>kz3
 |10=>zz4
 |11=>kzk
 |12=>z7t
 |13=>z0n
 |14=>z0t
 |15=>z3v
 |16=>z4k
 |17=>zzj
 |_=>Unit
def zfr:Nat->List DTy
 |0=>[.int .i64,.int .i64]
 |1=>[.int .u8,.int .i64,.int .i64,.bool,.str,.sl (.st 1)]
 |2=>[.int .u8,.int .u8,.int .i64,.int .i64,.bool,.str,.sl (.st 1),.str,.sl (.st 2)]
 |3=>[.str,.int .u8,.int .u8,.int .i64,.int .i64,.bool,.str,.sl (.st 1),.str,.sl (.st 2)]
 |4=>[.int .u8,.str,.sl (.st 2)]
 |5=>[.int .u8,.int .u8,.str,.sl (.st 2),.sl (.st 4)]
 |6=>[.int .i64,.int .u8,.int .u8,.int .i64,.int .i64,.bool,.str,.sl (.st 1),.str,.sl (.st 2),.sl (.st 5)]
 |7=>[.str,.sl .str,.sl (.st 6)]
 |8=>[.sl (.st 3),.sl (.st 7)]
 |9=>[.int .u8,.str,.str,.str,.sl .str,.sl (.st 6),.int .u8,.int .u8,.int .i64,.int .i64,.bool,.str,.sl (.st 1),.str,.sl (.st 2)]
 |10=>[.str,.int .u8,.str]
 |11=>[.str,.int .i64]
 |12=>[.int .i64,.int .i64,.int .i64]
 |13=>[.int .u8,.int .i64,.int .i64,.int .i64]
 |14=>[.int .u8,.int .i64,.int .i64,.int .i64,.int .i64,.int .i64,.int .i64]
 |15=>[.str,.str,.sl (.st 1),.int .u8,.int .i64,.int .i64,.int .i64,.int .i64,.int .i64,.int .i64,.str,.int .i64,.bool]
 |16=>[.str,.int .i64]
 |17=>[.str,.int .i64]
 |_=>[]
def yhl:List (Nat×DTy):=[(2,.int .i64),(3,.int .i64),(4,.bool),(5,.int .u8),(6,.int .u8),(9,.str),(10,.str),(11,.str),(12,.int .u64),(21,.int .i32),(22,.sl (.st 3)),(23,.sl (.st 7)),(25,.st 8),(27,.int .i64),(30,.sl (.st 9)),(31,.sl .str),(32,.sl (.st 6)),(34,.st 7),(36,.st 0),(37,.sl (.st 1)),(39,.st 1),(40,.sl (.st 2)),(42,.st 2),(44,.st 9),(47,.sl (.st 10)),(51,.st 10),(62,.sl (.st 5)),(64,.st 6),(69,.sl (.st 4)),(71,.st 5),(72,.sl .bool),(83,.st 3),(93,.sl (.st 11)),(96,.st 11),(106,.st 4),(114,.sl (.st 15)),(117,.st 12),(119,.st 13),(121,.st 14),(123,.st 15),(126,.sl (.int .u8)),(136,.sl (.st 16)),(139,.st 16),(184,.sl (.sl (.st 3))),(186,.sl (.sl (.st 7))),(194,.int .u64),(197,.st 17),(217,.int .i64),(225,.int .u32),(227,.int .u64),(239,.int .u64),(262,.int .u8),(263,.int .u8),(265,.int .i32),(266,.int .i32)]
def datOw:Nat->Nat->Option Nat
 |7,2=>some 64
 |6,10=>some 71
 |5,4=>some 106
 |_,_=>none
def dat:Dat where
 T:=datT
 fl:=zfr
 get:=λi=>match i with
  |0=>λ(x:yz2)=>(x.num,x.den,())
  |1=>λ(x:yz0)=>(x.kind,x.num.num,x.num.den,x.truth,x.str,x.list,())
  |2=>λ(x:kz0)=>(x.op,x.value.kind,x.value.num.num,x.value.num.den,x.value.truth,x.value.str,x.value.list,x.name,x.args,())
  |3=>λ(x:kz4)=>(x.name,x.value.op,x.value.value.kind,x.value.value.num.num,x.value.value.num.den,x.value.value.truth,x.value.value.str,x.value.value.list,x.value.name,x.value.args,())
  |4=>λ(x:zzu)=>(x.kind,x.name,x.args,())
  |5=>λ(x:yz3)=>(x.kind,x.axis,x.name,x.args,x.items,())
  |6=>λ(x:kz9)=>(x.weight,x.when_.op,x.when_.value.kind,x.when_.value.num.num,x.when_.value.num.den,x.when_.value.truth,x.when_.value.str,x.when_.value.list,x.when_.name,x.when_.args,x.do_,())
  |7=>λ(x:zz1)=>(x.name,x.params,x.cases,())
  |8=>λ(x:yz1)=>(x.attrs,x.rules,())
  |9=>λ(x:kz3)=>(x.kind,x.name,x.to_,x.rule_.name,x.rule_.params,x.rule_.cases,x.value.op,x.value.value.kind,x.value.value.num.num,x.value.value.num.den,x.value.value.truth,x.value.value.str,x.value.value.list,x.value.name,x.value.args,())
  |10=>λ(x:zz4)=>(x.path,x.kind,x.name,())
  |11=>λ(x:kzk)=>(x.name,x.many,())
  |12=>λ(x:z7t)=>(x.x,x.y,x.z,())
  |13=>λ(x:z0n)=>(x.zee,x.at_.x,x.at_.y,x.at_.z,())
  |14=>λ(x:z0t)=>(x.frame.zee,x.frame.at_.x,x.frame.at_.y,x.frame.at_.z,x.size_.x,x.size_.y,x.size_.z,())
  |15=>λ(x:z3v)=>(x.path,x.rule_,x.args,x.scope.frame.zee,x.scope.frame.at_.x,x.scope.frame.at_.y,x.scope.frame.at_.z,x.scope.size_.x,x.scope.size_.y,x.scope.size_.z,x.leaf,x.fault,x.open_,())
  |16=>λ(x:z4k)=>(x.name,x.many,())
  |17=>λ(x:zzj)=>(x.name,x.index,())
  |_+18=>λ_=>()
 make:=λi=>match i with
  |0=>λx=>yz2.mk x.1 x.2.1
  |1=>λx=>yz0.mk x.1 (yz2.mk x.2.1 x.2.2.1) x.2.2.2.1 x.2.2.2.2.1 x.2.2.2.2.2.1
  |2=>λx=>kz0.mk x.1 (yz0.mk x.2.1 (yz2.mk x.2.2.1 x.2.2.2.1) x.2.2.2.2.1 x.2.2.2.2.2.1 x.2.2.2.2.2.2.1) x.2.2.2.2.2.2.2.1 x.2.2.2.2.2.2.2.2.1
  |3=>λx=>kz4.mk x.1 (kz0.mk x.2.1 (yz0.mk x.2.2.1 (yz2.mk x.2.2.2.1 x.2.2.2.2.1) x.2.2.2.2.2.1 x.2.2.2.2.2.2.1 x.2.2.2.2.2.2.2.1) x.2.2.2.2.2.2.2.2.1 x.2.2.2.2.2.2.2.2.2.1)
  |4=>λx=>zzu.mk x.1 x.2.1 x.2.2.1
  |5=>λx=>yz3.mk x.1 x.2.1 x.2.2.1 x.2.2.2.1 x.2.2.2.2.1
  |6=>λx=>kz9.mk x.1 (kz0.mk x.2.1 (yz0.mk x.2.2.1 (yz2.mk x.2.2.2.1 x.2.2.2.2.1) x.2.2.2.2.2.1 x.2.2.2.2.2.2.1 x.2.2.2.2.2.2.2.1) x.2.2.2.2.2.2.2.2.1 x.2.2.2.2.2.2.2.2.2.1) x.2.2.2.2.2.2.2.2.2.2.1
  |7=>λx=>zz1.mk x.1 x.2.1 x.2.2.1
  |8=>λx=>yz1.mk x.1 x.2.1
  |9=>λx=>kz3.mk x.1 x.2.1 x.2.2.1 (zz1.mk x.2.2.2.1 x.2.2.2.2.1 x.2.2.2.2.2.1) (kz0.mk x.2.2.2.2.2.2.1 (yz0.mk x.2.2.2.2.2.2.2.1 (yz2.mk x.2.2.2.2.2.2.2.2.1 x.2.2.2.2.2.2.2.2.2.1) x.2.2.2.2.2.2.2.2.2.2.1 x.2.2.2.2.2.2.2.2.2.2.2.1 x.2.2.2.2.2.2.2.2.2.2.2.2.1) x.2.2.2.2.2.2.2.2.2.2.2.2.2.1 x.2.2.2.2.2.2.2.2.2.2.2.2.2.2.1)
  |10=>λx=>zz4.mk x.1 x.2.1 x.2.2.1
  |11=>λx=>kzk.mk x.1 x.2.1
  |12=>λx=>z7t.mk x.1 x.2.1 x.2.2.1
  |13=>λx=>z0n.mk x.1 (z7t.mk x.2.1 x.2.2.1 x.2.2.2.1)
  |14=>λx=>z0t.mk (z0n.mk x.1 (z7t.mk x.2.1 x.2.2.1 x.2.2.2.1)) (z7t.mk x.2.2.2.2.1 x.2.2.2.2.2.1 x.2.2.2.2.2.2.1)
  |15=>λx=>z3v.mk x.1 x.2.1 x.2.2.1 (z0t.mk (z0n.mk x.2.2.2.1 (z7t.mk x.2.2.2.2.1 x.2.2.2.2.2.1 x.2.2.2.2.2.2.1)) (z7t.mk x.2.2.2.2.2.2.2.1 x.2.2.2.2.2.2.2.2.1 x.2.2.2.2.2.2.2.2.2.1)) x.2.2.2.2.2.2.2.2.2.2.1 x.2.2.2.2.2.2.2.2.2.2.2.1 x.2.2.2.2.2.2.2.2.2.2.2.2.1
  |16=>λx=>z4k.mk x.1 x.2.1
  |17=>λx=>zzj.mk x.1 x.2.1
  |_+18=>λ_=>()
 enc:=λi=>match i with
  |0=>yz2.el
  |1=>yz0.el
  |2=>kz0.el
  |3=>kz4.el
  |4=>zzu.el
  |5=>yz3.el
  |6=>kz9.el
  |7=>zz1.el
  |8=>yz1.el
  |9=>kz3.el
  |10=>zz4.el
  |11=>kzk.el
  |12=>z7t.el
  |13=>z0n.el
  |14=>z0t.el
  |15=>z3v.el
  |16=>z4k.el
  |17=>zzj.el
  |_+18=>λ_=>.agg []
 ty:=fnd yhl
 ow:=datOw
theorem zz0 (P:Program):dat.Ok P where
 enc:=λi=>match i with
  |0=>λx=>yz2.yzd x
  |1=>λx=>yz0.yzd x
  |2=>λx=>kz0.yzd x
  |3=>λx=>kz4.yzd x
  |4=>λx=>zzu.yzd x
  |5=>λx=>yz3.yzd x
  |6=>λx=>kz9.yzd x
  |7=>λx=>zz1.yzd x
  |8=>λx=>yz1.yzd x
  |9=>λx=>kz3.yzd x
  |10=>λx=>zz4.yzd x
  |11=>λx=>kzk.yzd x
  |12=>λx=>z7t.yzd x
  |13=>λx=>z0n.yzd x
  |14=>λx=>z0t.yzd x
  |15=>λx=>z3v.yzd x
  |16=>λx=>z4k.yzd x
  |17=>λx=>zzj.yzd x
  |_+18=>λ_=>rfl
 getMake:=λi=>match i with
  |0=>λx=>rfl
  |1=>λx=>rfl
  |2=>λx=>rfl
  |3=>λx=>rfl
  |4=>λx=>rfl
  |5=>λx=>rfl
  |6=>λx=>rfl
  |7=>λx=>rfl
  |8=>λx=>rfl
  |9=>λx=>rfl
  |10=>λx=>rfl
  |11=>λx=>rfl
  |12=>λx=>rfl
  |13=>λx=>rfl
  |14=>λx=>rfl
  |15=>λx=>rfl
  |16=>λx=>rfl
  |17=>λx=>rfl
  |_+18=>λ_=>rfl
 flat:=λi=>match i with
  |0=>λt h=>by simp only [dat,zfr,Qbg,List.not_mem_nil,or_false] at h;rcases h with rfl|rfl <;> trivial
  |1=>λt h=>by simp only [dat,zfr,Qbg,List.not_mem_nil,or_false] at h;rcases h with rfl|rfl|rfl|rfl|rfl|rfl <;> trivial
  |2=>λt h=>by simp only [dat,zfr,Qbg,List.not_mem_nil,or_false] at h;rcases h with rfl|rfl|rfl|rfl|rfl|rfl|rfl|rfl|rfl <;> trivial
  |3=>λt h=>by simp only [dat,zfr,Qbg,List.not_mem_nil,or_false] at h;rcases h with rfl|rfl|rfl|rfl|rfl|rfl|rfl|rfl|rfl|rfl <;> trivial
  |4=>λt h=>by simp only [dat,zfr,Qbg,List.not_mem_nil,or_false] at h;rcases h with rfl|rfl|rfl <;> trivial
  |5=>λt h=>by simp only [dat,zfr,Qbg,List.not_mem_nil,or_false] at h;rcases h with rfl|rfl|rfl|rfl|rfl <;> trivial
  |6=>λt h=>by simp only [dat,zfr,Qbg,List.not_mem_nil,or_false] at h;rcases h with rfl|rfl|rfl|rfl|rfl|rfl|rfl|rfl|rfl|rfl|rfl <;> trivial
  |7=>λt h=>by simp only [dat,zfr,Qbg,List.not_mem_nil,or_false] at h;rcases h with rfl|rfl|rfl <;> trivial
  |8=>λt h=>by simp only [dat,zfr,Qbg,List.not_mem_nil,or_false] at h;rcases h with rfl|rfl <;> trivial
  |9=>λt h=>by simp only [dat,zfr,Qbg,List.not_mem_nil,or_false] at h;rcases h with rfl|rfl|rfl|rfl|rfl|rfl|rfl|rfl|rfl|rfl|rfl|rfl|rfl|rfl|rfl <;> trivial
  |10=>λt h=>by simp only [dat,zfr,Qbg,List.not_mem_nil,or_false] at h;rcases h with rfl|rfl|rfl <;> trivial
  |11=>λt h=>by simp only [dat,zfr,Qbg,List.not_mem_nil,or_false] at h;rcases h with rfl|rfl <;> trivial
  |12=>λt h=>by simp only [dat,zfr,Qbg,List.not_mem_nil,or_false] at h;rcases h with rfl|rfl|rfl <;> trivial
  |13=>λt h=>by simp only [dat,zfr,Qbg,List.not_mem_nil,or_false] at h;rcases h with rfl|rfl|rfl|rfl <;> trivial
  |14=>λt h=>by simp only [dat,zfr,Qbg,List.not_mem_nil,or_false] at h;rcases h with rfl|rfl|rfl|rfl|rfl|rfl|rfl <;> trivial
  |15=>λt h=>by simp only [dat,zfr,Qbg,List.not_mem_nil,or_false] at h;rcases h with rfl|rfl|rfl|rfl|rfl|rfl|rfl|rfl|rfl|rfl|rfl|rfl|rfl <;> trivial
  |16=>λt h=>by simp only [dat,zfr,Qbg,List.not_mem_nil,or_false] at h;rcases h with rfl|rfl <;> trivial
  |17=>λt h=>by simp only [dat,zfr,Qbg,List.not_mem_nil,or_false] at h;rcases h with rfl|rfl <;> trivial
  |_+18=>λt h=>by cases h
 ty:=λe t h=>by
  have:=z4b h;simp only [yhl,Qbg,Qbr,List.not_mem_nil,or_false] at this
  rcases this with ⟨_,rfl⟩|⟨_,rfl⟩|⟨_,rfl⟩|⟨_,rfl⟩|⟨_,rfl⟩|⟨_,rfl⟩|⟨_,rfl⟩|⟨_,rfl⟩|⟨_,rfl⟩|⟨_,rfl⟩|⟨_,rfl⟩|⟨_,rfl⟩|⟨_,rfl⟩|⟨_,rfl⟩|⟨_,rfl⟩|⟨_,rfl⟩|⟨_,rfl⟩|⟨_,rfl⟩|⟨_,rfl⟩|⟨_,rfl⟩|⟨_,rfl⟩|⟨_,rfl⟩|⟨_,rfl⟩|⟨_,rfl⟩|⟨_,rfl⟩|⟨_,rfl⟩|⟨_,rfl⟩|⟨_,rfl⟩|⟨_,rfl⟩|⟨_,rfl⟩|⟨_,rfl⟩|⟨_,rfl⟩|⟨_,rfl⟩|⟨_,rfl⟩|⟨_,rfl⟩|⟨_,rfl⟩|⟨_,rfl⟩|⟨_,rfl⟩|⟨_,rfl⟩|⟨_,rfl⟩|⟨_,rfl⟩|⟨_,rfl⟩|⟨_,rfl⟩|⟨_,rfl⟩|⟨_,rfl⟩|⟨_,rfl⟩|⟨_,rfl⟩|⟨_,rfl⟩|⟨_,rfl⟩|⟨_,rfl⟩|⟨_,rfl⟩|⟨_,rfl⟩|⟨_,rfl⟩|⟨_,rfl⟩|⟨_,rfl⟩ <;> simp
 kin:=λi=>match i with
  |0=>λx _=>yz2.kin x
  |1=>λx _=>yz0.kin x
  |2=>λx _=>kz0.kin x
  |3=>λx _=>kz4.kin x
  |4=>λx _=>zzu.kin x
  |5=>λx _=>yz3.kin x
  |6=>λx _=>kz9.kin x
  |7=>λx _=>zz1.kin x
  |8=>λx _=>yz1.kin x
  |9=>λx _=>kz3.kin x
  |10=>λx _=>zz4.kin x
  |11=>λx _=>kzk.kin x
  |12=>λx _=>z7t.kin x
  |13=>λx _=>z0n.kin x
  |14=>λx _=>z0t.kin x
  |15=>λx _=>z3v.kin x
  |16=>λx _=>z4k.kin x
  |17=>λx _=>zzj.kin x
  |_+18=>λ_ _=>by simp only [dat,V.kin,V.z4l]
end Go.Ab
namespace Go.Proofs
open Go.Shelf
def Tryz.yai:Go.Shelf.Ren:=⟨λ|190=>94|125=>147|258=>146|128=>184|129=>185|302=>175|303=>176|304=>177|305=>178|306=>179|307=>180|308=>181|309=>182|310=>183|333=>204|329=>205|330=>206|334=>207|335=>208|336=>209|344=>214|n=>n,λ|31=>31|9=>9|3=>3|46=>194|0=>0|51=>225|53=>227|4=>4|183=>218|182=>217|131=>89|5=>5|218=>239|222=>243|228=>250|229=>180|n=>n,λ|n=>n⟩
theorem Tryz.zw2:Go.Proofs.Lays.n190 Tryz.prog Tryz.yai:={
 mixed:=by kernel_rfl
 f125:=Tryz.func147.trans (congrArg some (by kernel_rfl))
 f128:=Tryz.func184.trans (congrArg some (by kernel_rfl))
 f129:=Tryz.func185.trans (congrArg some (by kernel_rfl))
 f190:=Tryz.func94.trans (congrArg some (by kernel_rfl))
 f258:=Tryz.func146.trans (congrArg some (by kernel_rfl))
 f302:=Tryz.func175.trans (congrArg some (by kernel_rfl))
 f303:=Tryz.func176.trans (congrArg some (by kernel_rfl))
 f304:=Tryz.func177.trans (congrArg some (by kernel_rfl))
 f305:=Tryz.func178.trans (congrArg some (by kernel_rfl))
 f306:=Tryz.func179.trans (congrArg some (by kernel_rfl))
 f307:=Tryz.func180.trans (congrArg some (by kernel_rfl))
 f308:=Tryz.func181.trans (congrArg some (by kernel_rfl))
 f309:=Tryz.func182.trans (congrArg some (by kernel_rfl))
 f310:=Tryz.func183.trans (congrArg some (by kernel_rfl))
 f329:=Tryz.func205.trans (congrArg some (by kernel_rfl))
 f330:=Tryz.func206.trans (congrArg some (by kernel_rfl))
 f333:=Tryz.func204.trans (congrArg some (by kernel_rfl))
 f334:=Tryz.func207.trans (congrArg some (by kernel_rfl))
 f335:=Tryz.func208.trans (congrArg some (by kernel_rfl))
 f336:=Tryz.func209.trans (congrArg some (by kernel_rfl))
 f344:=Tryz.func214.trans (congrArg some (by kernel_rfl))
 t0:=Tryz.underlying0
 a0:=Tryz.isAgg0
 z0:=Tryz.sizeOf0
 v0:=Tryz.zeroValue0
 t3:=Tryz.underlying3
 a3:=Tryz.isAgg3
 z3:=Tryz.sizeOf3
 v3:=Tryz.zeroValue3
 t4:=Tryz.underlying4
 a4:=Tryz.isAgg4
 z4:=Tryz.sizeOf4
 v4:=Tryz.zeroValue4
 t5:=Tryz.underlying5
 a5:=Tryz.isAgg5
 z5:=Tryz.sizeOf5
 v5:=Tryz.zeroValue5
 t9:=Tryz.underlying9
 a9:=Tryz.isAgg9
 z9:=Tryz.sizeOf9
 v9:=Tryz.zeroValue9
 t31:=Tryz.underlying31
 a31:=Tryz.isAgg31
 z31:=Tryz.sizeOf31
 v31:=Tryz.zeroValue31
 t46:=Tryz.underlying194
 a46:=Tryz.isAgg194
 z46:=Tryz.sizeOf194
 v46:=Tryz.zeroValue194
 t51:=Tryz.underlying225
 a51:=Tryz.isAgg225
 z51:=Tryz.sizeOf225
 v51:=Tryz.zeroValue225
 t53:=Tryz.underlying227
 a53:=Tryz.isAgg227
 z53:=Tryz.sizeOf227
 v53:=Tryz.zeroValue227
 t131:=Tryz.underlying89
 a131:=Tryz.isAgg89
 z131:=Tryz.sizeOf89
 v131:=Tryz.zeroValue89
 t182:=Tryz.underlying217
 a182:=Tryz.isAgg217
 z182:=Tryz.sizeOf217
 v182:=Tryz.zeroValue217
 t183:=Tryz.underlying218
 a183:=Tryz.isAgg218
 z183:=Tryz.sizeOf218
 v183:=Tryz.zeroValue218
 t218:=Tryz.underlying239
 a218:=Tryz.isAgg239
 z218:=Tryz.sizeOf239
 v218:=Tryz.zeroValue239
 t222:=Tryz.underlying243
 a222:=Tryz.isAgg243
 z222:=Tryz.sizeOf243
 v222:=Tryz.zeroValue243
 t228:=Tryz.underlying250
 a228:=Tryz.isAgg250
 z228:=Tryz.sizeOf250
 v228:=Tryz.zeroValue250
 t229:=Tryz.underlying180
 a229:=Tryz.isAgg180
 z229:=Tryz.sizeOf180
 v229:=Tryz.zeroValue180}
def Tryz.y3p:Go.Shelf.Ren:=⟨λ|7=>86|10=>132|n=>n,λ|23=>86|26=>9|3=>4|28=>150|0=>0|27=>149|33=>75|4=>4|n=>n,λ|n=>n⟩
theorem Tryz.yjd:Go.Proofs.SlLaysZ.n7 Tryz.prog Tryz.y3p:={
 mixed:=by kernel_rfl
 f7:=⟨Tryz.f86.name,by decide,Tryz.func86.trans (congrArg some (by kernel_rfl))⟩
 f10:=⟨Tryz.f132.name,by decide,Tryz.func132.trans (congrArg some (by kernel_rfl))⟩
 t0:=Tryz.underlying0
 a0:=Tryz.isAgg0
 z0:=Tryz.sizeOf0
 v0:=Tryz.zeroValue0
 t4:=Tryz.underlying4
 a4:=Tryz.isAgg4
 z4:=Tryz.sizeOf4
 v4:=Tryz.zeroValue4
 t23:=Tryz.underlying86
 a23:=Tryz.isAgg86
 z23:=Tryz.sizeOf86
 v23:=Tryz.zeroValue86
 t26:=Tryz.underlying9
 a26:=Tryz.isAgg9
 z26:=Tryz.sizeOf9
 v26:=Tryz.zeroValue9
 t27:=Tryz.underlying149
 a27:=Tryz.isAgg149
 z27:=Tryz.sizeOf149
 v27:=Tryz.zeroValue149
 t28:=Tryz.underlying150
 a28:=Tryz.isAgg150
 z28:=Tryz.sizeOf150
 v28:=Tryz.zeroValue150
 t33:=Tryz.underlying75
 a33:=Tryz.isAgg75
 z33:=Tryz.sizeOf75
 v33:=Tryz.zeroValue75}
def Tryz.zu0:Go.Shelf.Ren:=⟨λ|6=>85|8=>131|9=>94|11=>172|13=>147|12=>146|23=>184|24=>185|14=>175|15=>176|16=>177|17=>178|18=>179|19=>180|20=>181|21=>182|22=>183|25=>204|26=>205|27=>206|28=>207|29=>208|30=>209|31=>214|n=>n,λ|26=>9|28=>150|24=>31|0=>0|3=>3|37=>194|48=>225|50=>227|4=>4|40=>218|39=>217|45=>89|5=>5|9=>9|51=>239|55=>243|57=>250|58=>180|33=>75|n=>n,λ|n=>n⟩
theorem Tryz.yif:Go.Proofs.SlLaysZ.n6 Tryz.prog Tryz.zu0:={
 mixed:=by kernel_rfl
 f6:=⟨Tryz.f85.name,by decide,Tryz.func85.trans (congrArg some (by kernel_rfl))⟩
 f8:=⟨Tryz.f131.name,by decide,Tryz.func131.trans (congrArg some (by kernel_rfl))⟩
 f11:=⟨Tryz.f172.name,by decide,Tryz.func172.trans (congrArg some (by kernel_rfl))⟩
 t0:=Tryz.underlying0
 a0:=Tryz.isAgg0
 z0:=Tryz.sizeOf0
 v0:=Tryz.zeroValue0
 t24:=Tryz.underlying31
 a24:=Tryz.isAgg31
 z24:=Tryz.sizeOf31
 v24:=Tryz.zeroValue31
 t26:=Tryz.underlying9
 a26:=Tryz.isAgg9
 z26:=Tryz.sizeOf9
 v26:=Tryz.zeroValue9
 t28:=Tryz.underlying150
 a28:=Tryz.isAgg150
 z28:=Tryz.sizeOf150
 v28:=Tryz.zeroValue150
 i26:=by kernel_rfl}
def Tryz.ye1:Go.Shelf.Ren:=⟨λ|4=>133|n=>n,λ|22=>22|25=>83|3=>3|4=>4|9=>9|20=>20|0=>0|n=>n,λ|n=>n⟩
theorem Tryz.growA:Go.Proofs.Lays8.n4 Tryz.prog Tryz.ye1:={
 mixed:=by kernel_rfl
 f4:=⟨Tryz.f133.name,by decide,Tryz.func133.trans (congrArg some (by kernel_rfl))⟩
 t0:=Tryz.underlying0
 a0:=Tryz.isAgg0
 z0:=Tryz.sizeOf0
 v0:=Tryz.zeroValue0
 t3:=Tryz.underlying3
 a3:=Tryz.isAgg3
 z3:=Tryz.sizeOf3
 v3:=Tryz.zeroValue3
 t4:=Tryz.underlying4
 a4:=Tryz.isAgg4
 z4:=Tryz.sizeOf4
 v4:=Tryz.zeroValue4
 t9:=Tryz.underlying9
 a9:=Tryz.isAgg9
 z9:=Tryz.sizeOf9
 v9:=Tryz.zeroValue9
 t20:=Tryz.underlying20
 a20:=Tryz.isAgg20
 z20:=Tryz.sizeOf20
 v20:=Tryz.zeroValue20
 t22:=Tryz.underlying22
 a22:=Tryz.isAgg22
 z22:=Tryz.sizeOf22
 v22:=Tryz.zeroValue22}
def Tryz.yf6:Go.Shelf.Ren:=⟨λ|4=>135|n=>n,λ|22=>23|25=>34|3=>3|4=>4|9=>9|20=>20|0=>0|n=>n,λ|n=>n⟩
theorem Tryz.growR:Go.Proofs.Lays8.n4 Tryz.prog Tryz.yf6:={
 mixed:=by kernel_rfl
 f4:=⟨Tryz.f135.name,by decide,Tryz.func135.trans (congrArg some (by kernel_rfl))⟩
 t0:=Tryz.underlying0
 a0:=Tryz.isAgg0
 z0:=Tryz.sizeOf0
 v0:=Tryz.zeroValue0
 t3:=Tryz.underlying3
 a3:=Tryz.isAgg3
 z3:=Tryz.sizeOf3
 v3:=Tryz.zeroValue3
 t4:=Tryz.underlying4
 a4:=Tryz.isAgg4
 z4:=Tryz.sizeOf4
 v4:=Tryz.zeroValue4
 t9:=Tryz.underlying9
 a9:=Tryz.isAgg9
 z9:=Tryz.sizeOf9
 v9:=Tryz.zeroValue9
 t20:=Tryz.underlying20
 a20:=Tryz.isAgg20
 z20:=Tryz.sizeOf20
 v20:=Tryz.zeroValue20
 t22:=Tryz.underlying23
 a22:=Tryz.isAgg23
 z22:=Tryz.sizeOf23
 v22:=Tryz.zeroValue23}
def Tryz.zui:Go.Shelf.Ren:=⟨λ|146=>26|221=>61|268=>108|138=>109|143=>110|195=>152|197=>153|218=>154|219=>111|260=>188|217=>155|225=>156|224=>157|267=>158|266=>189|314=>190|n=>n,λ|9=>9|31=>31|3=>3|4=>4|0=>0|105=>202|21=>21|5=>5|46=>194|119=>245|139=>248|138=>247|146=>230|51=>225|n=>n,λ|1=>0|3=>1|4=>2|n=>n⟩
theorem Tryz.zrl:Go.Proofs.Lays.n146 Tryz.prog Tryz.zui:={
 mixed:=by kernel_rfl
 f138:=Tryz.func109.trans (congrArg some (by kernel_rfl))
 f143:=Tryz.func110.trans (congrArg some (by kernel_rfl))
 f146:=Tryz.func26.trans (congrArg some (by kernel_rfl))
 f195:=Tryz.func152.trans (congrArg some (by kernel_rfl))
 f197:=Tryz.func153.trans (congrArg some (by kernel_rfl))
 f217:=Tryz.func155.trans (congrArg some (by kernel_rfl))
 f218:=Tryz.func154.trans (congrArg some (by kernel_rfl))
 f219:=Tryz.func111.trans (congrArg some (by kernel_rfl))
 f221:=Tryz.func61.trans (congrArg some (by kernel_rfl))
 f224:=Tryz.func157.trans (congrArg some (by kernel_rfl))
 f225:=Tryz.func156.trans (congrArg some (by kernel_rfl))
 f260:=Tryz.func188.trans (congrArg some (by kernel_rfl))
 f266:=Tryz.func189.trans (congrArg some (by kernel_rfl))
 f267:=Tryz.func158.trans (congrArg some (by kernel_rfl))
 f268:=Tryz.func108.trans (congrArg some (by kernel_rfl))
 f314:=Tryz.func190.trans (congrArg some (by kernel_rfl))
 t0:=Tryz.underlying0
 a0:=Tryz.isAgg0
 z0:=Tryz.sizeOf0
 v0:=Tryz.zeroValue0
 t3:=Tryz.underlying3
 a3:=Tryz.isAgg3
 z3:=Tryz.sizeOf3
 v3:=Tryz.zeroValue3
 t4:=Tryz.underlying4
 a4:=Tryz.isAgg4
 z4:=Tryz.sizeOf4
 v4:=Tryz.zeroValue4
 t5:=Tryz.underlying5
 a5:=Tryz.isAgg5
 z5:=Tryz.sizeOf5
 v5:=Tryz.zeroValue5
 t9:=Tryz.underlying9
 a9:=Tryz.isAgg9
 z9:=Tryz.sizeOf9
 v9:=Tryz.zeroValue9
 t21:=Tryz.underlying21
 a21:=Tryz.isAgg21
 z21:=Tryz.sizeOf21
 v21:=Tryz.zeroValue21
 t31:=Tryz.underlying31
 a31:=Tryz.isAgg31
 z31:=Tryz.sizeOf31
 v31:=Tryz.zeroValue31
 t46:=Tryz.underlying194
 a46:=Tryz.isAgg194
 z46:=Tryz.sizeOf194
 v46:=Tryz.zeroValue194
 t51:=Tryz.underlying225
 a51:=Tryz.isAgg225
 z51:=Tryz.sizeOf225
 v51:=Tryz.zeroValue225
 t105:=Tryz.underlying202
 a105:=Tryz.isAgg202
 z105:=Tryz.sizeOf202
 v105:=Tryz.zeroValue202
 t119:=Tryz.underlying245
 a119:=Tryz.isAgg245
 z119:=Tryz.sizeOf245
 t138:=Tryz.underlying247
 a138:=Tryz.isAgg247
 z138:=Tryz.sizeOf247
 v138:=Tryz.zeroValue247
 t139:=Tryz.underlying248
 a139:=Tryz.isAgg248
 z139:=Tryz.sizeOf248
 v139:=Tryz.zeroValue248
 t146:=Tryz.underlying230
 a146:=Tryz.isAgg230
 z146:=Tryz.sizeOf230
 v146:=Tryz.zeroValue230
 g1:=by kernel_rfl
 g3:=by kernel_rfl
 g4:=by kernel_rfl}
def Tryz.ztx:Go.Shelf.Ren:=⟨λ|156=>28|165=>63|166=>64|169=>65|240=>112|241=>113|276=>159|277=>160|n=>n,λ|31=>31|9=>9|3=>3|4=>4|0=>0|20=>20|72=>128|76=>132|70=>125|37=>126|75=>131|127=>172|164=>206|5=>5|80=>134|n=>n,λ|n=>n⟩
theorem Tryz.y5v:Go.Proofs.Lays.n156 Tryz.prog Tryz.ztx:={
 mixed:=by kernel_rfl
 f156:=Tryz.func28.trans (congrArg some (by kernel_rfl))
 f165:=Tryz.func63.trans (congrArg some (by kernel_rfl))
 f166:=Tryz.func64.trans (congrArg some (by kernel_rfl))
 f169:=Tryz.func65.trans (congrArg some (by kernel_rfl))
 f240:=Tryz.func112.trans (congrArg some (by kernel_rfl))
 f241:=Tryz.func113.trans (congrArg some (by kernel_rfl))
 f276:=Tryz.func159.trans (congrArg some (by kernel_rfl))
 f277:=Tryz.func160.trans (congrArg some (by kernel_rfl))
 t0:=Tryz.underlying0
 a0:=Tryz.isAgg0
 z0:=Tryz.sizeOf0
 v0:=Tryz.zeroValue0
 t3:=Tryz.underlying3
 a3:=Tryz.isAgg3
 z3:=Tryz.sizeOf3
 v3:=Tryz.zeroValue3
 t4:=Tryz.underlying4
 a4:=Tryz.isAgg4
 z4:=Tryz.sizeOf4
 v4:=Tryz.zeroValue4
 t9:=Tryz.underlying9
 a9:=Tryz.isAgg9
 z9:=Tryz.sizeOf9
 v9:=Tryz.zeroValue9
 t20:=Tryz.underlying20
 a20:=Tryz.isAgg20
 z20:=Tryz.sizeOf20
 v20:=Tryz.zeroValue20
 t31:=Tryz.underlying31
 a31:=Tryz.isAgg31
 z31:=Tryz.sizeOf31
 v31:=Tryz.zeroValue31
 t37:=Tryz.underlying126
 a37:=Tryz.isAgg126
 z37:=Tryz.sizeOf126
 v37:=Tryz.zeroValue126
 t70:=Tryz.underlying125
 a70:=Tryz.isAgg125
 z70:=Tryz.sizeOf125
 v70:=Tryz.zeroValue125
 t72:=Tryz.underlying128
 a72:=Tryz.isAgg128
 z72:=Tryz.sizeOf128
 v72:=Tryz.zeroValue128
 t75:=Tryz.underlying131
 a75:=Tryz.isAgg131
 z75:=Tryz.sizeOf131
 v75:=Tryz.zeroValue131
 t76:=Tryz.underlying132
 a76:=Tryz.isAgg132
 z76:=Tryz.sizeOf132
 v76:=Tryz.zeroValue132
 t127:=Tryz.underlying172
 a127:=Tryz.isAgg172
 z127:=Tryz.sizeOf172
 v127:=Tryz.zeroValue172
 t164:=Tryz.underlying206
 a164:=Tryz.isAgg206
 z164:=Tryz.sizeOf206
 v164:=Tryz.zeroValue206}
theorem Tryz.zf3:Builder.Extra Tryz.prog Tryz.ztx:={
 sizeBuilder:=by kernel_rfl
 liesBuilder:=by kernel_rfl
 t5:=Tryz.underlying5
 a5:=Tryz.isAgg5
 z5:=Tryz.sizeOf5
 v5:=Tryz.zeroValue5
 infoByte:=by kernel_rfl
 cellsByte:=by kernel_rfl
 sizeByte:=by kernel_rfl
 neB5:=by decide}
end Go.Proofs
namespace Go.Proofs
open Go Go.RowKit Go.Maps Go.Sort Go.Shelf Go.Lib
open Go.Ab (Qbi Qbl Qbm Qbn Qbo Qbr)
set_option linter.unusedVariables false
set_option linter.unusedSimpArgs false
theorem Tryz.yjo (m:Nat):AnyZ.SortsIn Tryz.prog Tryz.zu0 Fence.wide m :=
 ⟨λblk off cap ss W hH hblk hsz=>callsIn_wide.2 (Any.slices_Sort_string Tryz.zw2 blk off cap ss W hH hblk hsz),
  λp cap W=>callsIn_wide.2 (Any.slices_Sort_string_none Tryz.zw2 p cap W)⟩
set_option maxHeartbeats 1000000 in
theorem Tryz.yis:Ab.y4c Tryz.prog 43 9:=λb es clock w hb ft hsz=>by
 refine (callsIn_wide (n:=6)).1 ?_;have hbl:b<w.heap.size:=(Qbi.1 hb).1;have hown:w.ownsMap Tryz.prog 9 (Ab.zlp (H:=Unit)) b es.size (DataW.map ((es.toList.map (WideElems.rg Tryz.prog 9 (Ab.zlp (H:=Unit)))).foldr DataW.insert [])):=⟨es,clock,hb,ft,Qbo _,rfl⟩
 have hlen:Maps.size (DataW.map ((es.toList.map (WideElems.rg Tryz.prog 9 (Ab.zlp (H:=Unit)))).foldr DataW.insert []))=es.size:=by
  rw [Maps.size_eq,(Ab.zlo _).length_eq];simp
 generalize DataW.map ((es.toList.map (WideElems.rg Tryz.prog 9 (Ab.zlp (H:=Unit)))).foldr DataW.insert [])=D0 at hown hlen ⊢;have hmax:Maps.size D0<=maxLen:=by rw [hlen];simp only [maxLen];omega
 have hbytes:Maps.size D0 * 16<=140737488355328:=by rw [hlen];omega
 have hseq:SeqGives Fence.wide 2 Tryz.prog 132 #[.pointer (some ⟨w.heap.size,0,none⟩)] encStr (λss=>ss.Perm (strKeys D0)) (Maps.size D0) (w.alloc (.cells #[.map (some b)] 86)) :=
  AnyZ.keys_gives (ρ:=Tryz.y3p) {Tryz.yjd with} Fence.wide _ trivial rfl (by omega) w.heap.size b es.size D0 _ (by simp) (by simp) (by
   obtain ⟨es',clock',hb',Ft,hs,hD⟩:=hown
   exact ⟨es',clock',(Below.heap_alloc _ _ b hbl).trans hb',Ft,hs,hD⟩)
 have cK:∀mb W,CallsIn Fence.wide 5 Tryz.prog 86 #[.map mb] W λe w'=>e = .returned (.func (.func 132) #[] #[.pointer (some ⟨W.heap.size,0,none⟩)])∧w'=W.alloc (.cells #[.map mb] 86):=λmb W=>AnyZ.keys_in Tryz.yjd Fence.wide 5 trivial rfl mb W
 have cS:=AnyZ.sorted_in Tryz.yif Fence.wide 5 trivial trivial trivial trivial rfl (by omega) (Tryz.yjo _) (enters_of Tryz.func94 (by kernel_rfl) rfl) 132 #[.pointer (some ⟨w.heap.size,0,none⟩)] trivial (enters_of Tryz.func132 (by kernel_rfl) rfl) _ _ hmax hbytes _ hseq;change CallsIn _ _ Tryz.prog 85 _ _ _ at cS;have hfK:Fence.wide.fn 86:=trivial;have hfS:Fence.wide.fn 85:=trivial
 refine callsIn_of_wp Tryz.func43 rfl trivial ?_ rfl;simp only [Tryz.ntmps43,List.size_toArray,List.length_cons,List.length_nil,Nat.reduceAdd,Nat.reduceSub,Array.replicate_succ,Array.replicate_zero,List.push_toArray,List.append_toArray,List.nil_append,List.cons_append]
 gi_wp2_with (first
  |(gi_at_call 86;refine (cK _ _).mono ?_;rintro e w' ⟨rfl,rfl⟩)
  |(gi_at_call 85;refine cS.mono ?_;rintro e w' ⟨v,ss,rfl,hS,hrow,hnil,hb⟩))
 go_ret
 exact ⟨v,ss,rfl,hS,ownsRow_base_a hrow (by simp),((Below.refl _ w).alloc (Qbo _) _).trans (hb.mono (by simp))⟩
theorem y5s {P:Program} {e n b:Nat} (h:(P.info? e).map (λi=>(i.zero.map (·.cells.size),i.size,i.bytes))=some (some n,n,b)):∃i z,P.info? e=some i∧i.zero=some z∧i.size=n∧i.bytes=b∧z.cells.size=n:=by
 cases hi:P.info? e with
 |none=>rw [hi] at h;cases h
 |some i=>
  rw [hi] at h;simp only [Qbl,Qbm,Qbr] at h;obtain ⟨h1,h2,h3⟩:=h
  cases hz:i.zero with
  |none=>rw [hz] at h1;cases h1
  |some z=>
   rw [hz] at h1;simp only [Qbl,Qbm] at h1;exact ⟨i,z,rfl,hz,h2,h3,h1⟩
set_option maxHeartbeats 2000000 in
set_option maxRecDepth 100000 in
theorem Tryz.yer (ad:Addr) (n c:Nat) (cells:List Value) (w:World) (hl:cells.length=n * 9) (hc:∀j u,cells[j]? = some u->w.cell? (ad.add j)=some u) (h1:∀u∈cells,u.oneCell'=true) (hn:n<=maxLen) (hb:n * 120<=140737488355328) :
  Calls Tryz.prog 143 #[.slice (some ad) n c] w λe w'=>∃v',e = .returned v'∧w'.ownsRow w.heap.size 42 9 v' n cells∧Below w.heap.size w w':=by
 have t40:Tryz.prog.underlying 40=some (.slice 42):=by kernel_rfl
 obtain ⟨i0,z,hi,hz0,hz1,hz2,hz3⟩:=y5s (P:=Tryz.prog) (e:=42) (n:=9) (b:=120) (by kernel_rfl);have q40:∀(w:World) (a:Option Addr) (n c n' c':Nat),(binOp .eql 40 (.slice a n c) (.slice none n' c')).run Tryz.prog w = .ok (.bool a.isNone) w:=λw a n c n' c'=>Lib.run_eql_slice_nil w _ _ a n c n' c' t40
 have A:Aside (∀j u,cells[j]? = some u->w.cell? (ad.add j)=some u):=hc;have B:Aside (∀u∈cells,u.oneCell'=true):=h1;clear hc h1
 go_enter Tryz.func143,Tryz.ntmps143
 go_wp2_with (at_builtin;refine wpList_append_own _ rfl _ _ 40 rfl w.heap.size 42 i0 z 9 120 t40 hi hz0 hz1 hz2 hz3 (by decide) _ _ _ rfl (World.ownsRow_made w #[] 0 (Qbo _) (Qbn _) rfl) ad n c cells rfl ?qc1 ?qc2 ?qc3 ?qc4 ?qc5 ?qc6 ?_)
 case qc1=>exact hl
 case qc2=>
  intro j u hj;exact Lib.cell?_alloc_some _ (A.out j u hj)
 case qc3=>exact B.out
 case qc4=>omega
 case qc5=>omega
 case qc6=>simp
 intro v' w1 hown hgrow hnil
 go_wp2
 go_ret
 refine ⟨v',rfl,by simpa using hown,?_⟩;exact ((Below.refl _ w).alloc (Qbo _) _).grown hgrow (by simp) (by intro k hk;simp [Value.ownBlock] at hk;omega)
set_option maxHeartbeats 1000000 in
theorem Tryz.ybb (w:World):Calls Tryz.prog 143 #[.slice none 0 0] w λe w'=>e = .returned (.slice none 0 0)∧w'=w:=by
 have t40:Tryz.prog.underlying 40=some (.slice 42):=by kernel_rfl
 have q40:∀(w:World) (a:Option Addr) (n c n' c':Nat),(binOp .eql 40 (.slice a n c) (.slice none n' c')).run Tryz.prog w = .ok (.bool a.isNone) w:=λw a n c n' c'=>Lib.run_eql_slice_nil w _ _ a n c n' c' t40
 go_enter Tryz.func143,Tryz.ntmps143
 go_wp2
 go_ret
 exact ⟨rfl,rfl⟩
set_option maxHeartbeats 2000000 in
set_option maxRecDepth 100000 in
theorem Tryz.ygd (ad:Addr) (n c:Nat) (cells:List Value) (w:World) (hl:cells.length=n * 1) (hc:∀j u,cells[j]? = some u->w.cell? (ad.add j)=some u) (h1:∀u∈cells,u.oneCell'=true) (hn:n<=maxLen) (hb:n * 16<=140737488355328) :
  Calls Tryz.prog 50 #[.slice (some ad) n c] w λe w'=>∃v',e = .returned v'∧w'.ownsRow w.heap.size 9 1 v' n cells∧Below w.heap.size w w':=by
 have t31:Tryz.prog.underlying 31=some (.slice 9):=by kernel_rfl
 obtain ⟨i0,z,hi,hz0,hz1,hz2,hz3⟩:=y5s (P:=Tryz.prog) (e:=9) (n:=1) (b:=16) (by kernel_rfl);have q31:∀(w:World) (a:Option Addr) (n c n' c':Nat),(binOp .eql 31 (.slice a n c) (.slice none n' c')).run Tryz.prog w = .ok (.bool a.isNone) w:=λw a n c n' c'=>Lib.run_eql_slice_nil w _ _ a n c n' c' t31
 have A:Aside (∀j u,cells[j]? = some u->w.cell? (ad.add j)=some u):=hc;have B:Aside (∀u∈cells,u.oneCell'=true):=h1;clear hc h1
 go_enter Tryz.func50,Tryz.ntmps50
 go_wp2_with (at_builtin;refine wpList_append_own _ rfl _ _ 31 rfl w.heap.size 9 i0 z 1 16 t31 hi hz0 hz1 hz2 hz3 (by decide) _ _ _ rfl (World.ownsRow_made w #[] 0 (Qbo _) (Qbn _) rfl) ad n c cells rfl ?qc1 ?qc2 ?qc3 ?qc4 ?qc5 ?qc6 ?_)
 case qc1=>exact hl
 case qc2=>
  intro j u hj;exact Lib.cell?_alloc_some _ (A.out j u hj)
 case qc3=>exact B.out
 case qc4=>omega
 case qc5=>omega
 case qc6=>simp
 intro v' w1 hown hgrow hnil
 go_wp2
 go_ret
 refine ⟨v',rfl,by simpa using hown,?_⟩;exact ((Below.refl _ w).alloc (Qbo _) _).grown hgrow (by simp) (by intro k hk;simp [Value.ownBlock] at hk;omega)
set_option maxHeartbeats 1000000 in
theorem Tryz.ydl (w:World):Calls Tryz.prog 50 #[.slice none 0 0] w λe w'=>e = .returned (.slice none 0 0)∧w'=w:=by
 have t31:Tryz.prog.underlying 31=some (.slice 9):=by kernel_rfl
 have q31:∀(w:World) (a:Option Addr) (n c n' c':Nat),(binOp .eql 31 (.slice a n c) (.slice none n' c')).run Tryz.prog w = .ok (.bool a.isNone) w:=λw a n c n' c'=>Lib.run_eql_slice_nil w _ _ a n c n' c' t31
 go_enter Tryz.func50,Tryz.ntmps50
 go_wp2
 go_ret
 exact ⟨rfl,rfl⟩
theorem ya2 {P:Program} {ρ:Ren} (L:Lays8.n4 P ρ) {sz by':Nat} (hinf:(P.info? (ρ.t 25)).map (λi=>(i.zero.map (·.cells.size),i.size,i.bytes))=some (some sz,sz,by')) (hs0:0<sz) (hby:by'<=4096) (n:Nat) (w:World) (hn:n<=8388608) :
  Calls P (ρ.f 4) #[.slice none 0 0,.int .i64 n] w λe w'=>∃v',e = .returned v'∧w'.ownsRow w.heap.size (ρ.t 25) sz v' 0 []∧Below w.heap.size w w':=by
 obtain ⟨i0,z,hi,hz0,hz1,hz2,hz3⟩:=y5s hinf
 rcases Nat.eq_zero_or_pos n with h0|h0
 ·subst h0;refine (Any8.slices_Grow_room L none 0 0 0 w (Qbo _) (by omega) (by omega) (by omega)).mono ?_
  rintro e w' ⟨rfl,rfl⟩
  exact ⟨_,rfl,⟨by simp,.inl ⟨rfl,rfl⟩⟩,.refl _ _⟩
 ·have hbig:(0+n) * i0.bytes<=140737488355328:=by
   rw [hz2];exact Nat.le_trans (Nat.mul_le_mul (show 0+n<=8388608 by omega) hby) (by decide)
  refine (Any8.slices_Grow_grow L i0 z hi hz0 (by omega) none 0 0 n [] w (Qbo _) (by omega) hbig (by omega) (by simp) (λ_=>rfl) (λa h=>by cases h)).mono ?_
  rintro e w' ⟨rfl,rfl⟩
  have h1:=grownCap_ge w (0+n) 0 (ρ.t 25);have h2:=grownCap_le_maxLen w (0+n) 0 (ρ.t 25) (by simp only [maxLen];omega);refine ⟨_,rfl,⟨by simp,.inr ⟨w.heap.size,_,_,rfl,Qbo _,heap_alloc_new w.drew _,Qbn _,h2,?_,by simp⟩⟩,((Below.refl _ w).drew).alloc (Qbo _) _⟩
  simp only [Array.size_append,List.size_toArray,List.length_nil,size_zeroCells,hz3,Nat.zero_add,Nat.sub_zero,<-Nat.add_mul];rw [Nat.zero_add] at h1
  congr 1
  omega
theorem Tryz.yhp (n:Nat) (w:World) (hn:n<=8388608):Calls Tryz.prog 133 #[.slice none 0 0,.int .i64 n] w λe w'=>∃v',e = .returned v'∧w'.ownsRow w.heap.size 83 10 v' 0 []∧Below w.heap.size w w' :=
 ya2 Tryz.growA (sz:=10) (by':=136) (by kernel_rfl) (by decide) (by decide) n w hn
theorem Tryz.yht (n:Nat) (w:World) (hn:n<=8388608):Calls Tryz.prog 135 #[.slice none 0 0,.int .i64 n] w λe w'=>∃v',e = .returned v'∧w'.ownsRow w.heap.size 34 3 v' 0 []∧Below w.heap.size w w' :=
 ya2 Tryz.growR (sz:=3) (by':=64) (by kernel_rfl) (by decide) (by decide) n w hn
end Go.Proofs
namespace Go.Proofs
open Go.RowKit Go.Shelf Go.Lib
open Go.Ab (Qaa Qad Qaq Qas Qau Qbb Qbd Qbk Qbl Qbm Qbp Qbq Qbr)
set_option linter.unusedVariables false
set_option linter.unusedSimpArgs false
theorem zux {P:Program} (w:World) (t e ty:TypeId) (z:Value) (ht:P.underlying t=some (.slice e)) (hv:∀w,(zeroValue e).run P w = .ok z w) (b o n c:Nat) (hn:0<n)
  (h1:∀u∈(Builtin.zeroCells z.cells n).toList,u.oneCell'=true) (hc:∀j,j<(Builtin.zeroCells z.cells n).toList.length->(w.cell? ⟨b,o+j,none⟩).isSome=true) (hf:∀j,j<(Builtin.zeroCells z.cells n).toList.length->w.frozen? ⟨b,o+j,none⟩=false) :
  (Builtin.clear_ #[t] ty #[.slice (some ⟨b,o,none⟩) n c]).run P w = .ok (.tuple #[]) (w.setCells b o (Builtin.zeroCells z.cells n).toList):=by
 have hst:=run_storeCells_cells (P:=P) b o (Builtin.zeroCells z.cells n).toList 0 w (by simpa using hc) (by simpa using hf) h1;simp only [Nat.add_zero] at hst;obtain ⟨m,rfl⟩:∃m,n=m+1:=⟨n-1,by omega⟩;simp [Builtin.clear_,run_underlying ht,hv,hst]
theorem ziw (b:Nat) (ty:TypeId):∀(vs:List Value) (o:Nat) (w:World) (cur:Array Value),w.heap[b]? = some (.cells cur ty (0,0)) ->
  ∃cur',(w.setCells b o vs).heap[b]? = some (.cells cur' ty (0,0))∧cur'.size=cur.size∧(∀t,t<o∨o+vs.length<=t->cur'[t]? = cur[t]?)∧(∀t,t<vs.length->o+t<cur.size->cur'[o+t]? = vs[t]?)
 |[],o,w,cur,h=>⟨cur,h,rfl,λ_ _=>rfl,λt ht=>by simp at ht⟩
 |v::r,o,w,cur,h=>by
  have h1:(w.setCell ⟨b,o,none⟩ v).heap[b]? = some (.cells (cur.setIfInBounds o v) ty (0,0)):=by
   simp [World.setCell,Array.getElem?_modify,h]
  obtain ⟨cur',k1,k2,k3,k4⟩:=ziw b ty r (o+1) _ _ h1;refine ⟨cur',k1,by simpa using k2,λt ht => ?_,λt ht hs => ?_⟩
  · simp only [List.length_cons] at ht;rw [k3 t (by omega),Array.getElem?_setIfInBounds,Qbq (by omega)]
  · cases t with
    |zero=>
     rw [Nat.add_zero,k3 o (by omega),Array.getElem?_setIfInBounds,Qbp rfl]
     simp;omega
    |succ t=>
     have:=k4 t (by simpa using ht) (by simp;omega);rw [show o+(t+1)=o+1+t by omega,this];simp
theorem zjh (b:Nat):∀(vs:List Value) (o:Nat) (w:World),
  (w.setCells b o vs).os=w.os∧(w.setCells b o vs).tape=w.tape∧(w.setCells b o vs).output=w.output∧(w.setCells b o vs).heap.size=w.heap.size∧∀k,k≠b->(w.setCells b o vs).heap[k]? = w.heap[k]?
 |[],o,w=>⟨rfl,rfl,rfl,rfl,λ_ _=>rfl⟩
 |v::r,o,w=>by
  obtain ⟨h1,h2,h3,h4,h5⟩:=zjh b r (o+1) (w.setCell ⟨b,o,none⟩ v);refine ⟨h1,h2,h3,h4.trans (by simp [World.setCell]),λk hk=>(h5 k hk).trans ?_⟩;have hne:¬b=k:=λe=>hk e.symm
  simp only [World.setCell];rw [Array.getElem?_modify];simp [hne]
set_option maxHeartbeats 4000000 in
set_option maxRecDepth 1000000 in
theorem Tryz.yjf:Ab.y4z Tryz.prog 58 3:=λblk cap i j n cur ty w hb hn hcs hcm hij hj h1=>by
 have mixed:Tryz.prog.follows .mixedOrders=true:=by kernel_rfl
 have t23:Tryz.prog.underlying 23=some (.slice 34):=by kernel_rfl
 have hinf:(Tryz.prog.info? 34).map (λi=>(i.zero.map (·.cells.size),i.size))=some (some 3,3):=by kernel_rfl
 obtain ⟨i0,hi0,hz1⟩:∃i0,Tryz.prog.info? 34=some i0∧i0.size=3:=by
  cases hi:Tryz.prog.info? 34 with
  |none=>rw [hi] at hinf;cases hinf
  |some i0=>rw [hi] at hinf;simp at hinf;exact ⟨i0,rfl,hinf.2⟩
 obtain ⟨news,hnews⟩:∃news,news=(cur.toList.drop (j * 3)).take ((n-j) * 3):=⟨_,rfl⟩;have hns:n * 3<=cur.size:=Nat.le_trans (Qas 3 hn) hcs;have hlen:news.length=(n-j) * 3:=by rw [hnews];simp;omega
 have hcell:∀t,t<cur.size->w.drew.cell? ⟨blk,t,none⟩=cur[t]? := λt ht=>by
  show w.cell? _=_;simp [World.cell?,hb]
 have hget:∀t,t<(n-j) * 3->news[t]? = cur[j * 3+t]? := λt ht=>by
  rw [hnews,Qau,Qbp ht,Qbb,Qbd]
 obtain ⟨A,hA,hsrc⟩:∃A:Addr,(if cap=j then some (⟨blk,0,none⟩:Addr) else some ⟨blk,j * 3,none⟩)=some A∧Aside (∀t u,news[t]? = some u->w.drew.cell? (A.add t)=some u):=by
  by_cases h:cap=j
  ·refine ⟨⟨blk,0,none⟩,by simp [h],λt u hu => ?_⟩;have h0:news.length=0:=by rw [hlen];omega
   rw [List.length_eq_zero_iff.1 h0] at hu;simp at hu
  ·refine ⟨⟨blk,j * 3,none⟩,by simp [h],λt u hu => ?_⟩
   have ht:t<(n-j) * 3:=by
    have:=(Qaa.1 hu).1;rwa [hlen] at this
   rw [hget t ht] at hu;rw [Addr.add_lit,hcell _ (by omega)];exact hu
 have s1:Aside (news.length=(n-j) * 3):=hlen
 have s2:Aside (∀u∈news,u.oneCell'=true):=by
  intro u hu;obtain ⟨t,ht⟩:=Qbk hu;have hlt:t<(n-j) * 3:=by have:=(Qaa.1 ht).1;rwa [hlen] at this
  rw [hget t hlt] at ht;have:=h1 (j * 3+t) (by omega);rw [Qad,ht] at this;exact this
 have s3:Aside (∀t,t<news.length->(w.drew.cell? ⟨blk,0+i * 3+t,none⟩).isSome=true∧w.drew.frozen? ⟨blk,0+i * 3+t,none⟩=false):=by
  intro t ht;rw [hlen] at ht;have hlt:i * 3+t<cur.size:=by omega
  rw [Nat.zero_add,hcell _ hlt,Qaq hlt];exact ⟨rfl,by show w.frozen? _=false;simp [World.frozen?,hb]⟩
 have hic:i<=cap:=by omega
 have hjc:j<=cap:=by omega
 have hlt:i<j:=hij
 obtain ⟨z,hz,hzc,hzo⟩:∃z,(∀w,(zeroValue 34).run Tryz.prog w = .ok z w)∧z.cells.size=3∧z.cells.all (·.oneCell')=true:=by
  have hinf2:(Tryz.prog.info? 34).map (λi=>i.zero.map (λz=>(z.cells.size,z.cells.all (·.oneCell'))))=some (some (3,true)):=by kernel_rfl
  rw [hi0] at hinf2;simp only [Qbl,Qbm] at hinf2
  cases hz:i0.zero with
  |none=>rw [hz] at hinf2;cases hinf2
  |some z=>
   rw [hz] at hinf2;simp only [Qbl,Qbm,Qbr] at hinf2;exact ⟨z,λw=>by simp [zeroValue,typeInfo,hi0,hz],hinf2.1,hinf2.2⟩
 obtain ⟨zs,hzs⟩:∃zs,zs=(Builtin.zeroCells z.cells (n-(i+(n-j)))).toList:=⟨_,rfl⟩;have hzl:zs.length=(n-(i+(n-j))) * 3:=by rw [hzs];simp [Builtin.zeroCells,hzc]
 obtain ⟨cur1,c1,c2,c3,c4⟩:=ziw blk ty news (i * 3) w.drew cur hb;obtain ⟨W2,hW2⟩:∃W2,W2=(w.drew.setCells blk (i * 3) news).setCells blk ((i+(n-j)) * 3) zs:=⟨_,rfl⟩;obtain ⟨cur2,e1,e2,e3,e4⟩:=ziw blk ty zs ((i+(n-j)) * 3) _ cur1 c1
 have hcl:∀t,(Builtin.clear_ #[23] t #[.slice (some ⟨blk,(i+(n-j)) * 3,none⟩) (n-(i+(n-j))) (cap-(i+(n-j)))]).run Tryz.prog (w.drew.setCells blk (i * 3) news) = .ok (.tuple #[]) W2:=by
  intro t;rw [hW2,hzs];refine zux _ 23 34 t z t23 hz blk _ _ _ (by omega) ?_ ?_ ?_
  ·intro u hu;obtain ⟨q,hq⟩:=Qbk hu;simp only [Builtin.zeroCells,Qbd,Array.getElem?_map] at hq;have hlt:q % z.cells.size<z.cells.size:=Nat.mod_lt _ (by omega)
   cases hr:(Array.range ((n-(i+(n-j))) * z.cells.size))[q]? with
   |none=>rw [hr] at hq;cases hq
   |some q'=>
    rw [hr] at hq;have hlt:q' % z.cells.size<z.cells.size:=Nat.mod_lt _ (by omega);simp only [Qbl,Qbm] at hq;subst hq;rw [getElem!_pos z.cells _ hlt];exact (Array.all_eq_true.1 hzo) _ hlt
  ·intro q hq;rw [<-hzs,hzl] at hq;simp only [World.cell?,c1];have:(i+(n-j)) * 3+q<cur1.size:=by rw [c2];omega
   simp [Qaq this]
  ·intro q hq;simp [World.frozen?,c1]
 have hfin:Aside (W2.os=w.os∧W2.tape=w.tape∧W2.output=w.output∧W2.heap.size=w.heap.size∧(∀b,b≠blk->W2.heap[b]? = w.heap[b]?) ∧
  ∃cur',W2.heap[blk]? = some (.cells cur' ty (0,0))∧cur'.size=cur.size∧(∀t,t<i * 3->cur'[t]? = cur[t]?)∧∀t,t<(n-j) * 3->cur'[i * 3+t]? = cur[j * 3+t]?):=by
  obtain ⟨f1,f2,f3,f4,f5⟩:=zjh blk news (i * 3) w.drew;obtain ⟨g1,g2,g3,g4,g5⟩:=zjh blk zs ((i+(n-j)) * 3) (w.drew.setCells blk (i * 3) news);rw [hW2];refine ⟨g1.trans f1,g2.trans f2,g3.trans f3,g4.trans f4,λb hb'=>(g5 b hb').trans (f5 b hb'),cur2,e1,e2.trans c2,λt ht => ?_,λt ht => ?_⟩
  ·rw [e3 t (by omega),c3 t (by omega)]
  ·rw [e3 _ (by omega),c4 t (by omega) (by omega),hget t ht]
 have hA2:=hA;clear hnews hcell hget h1 hzs hzl c1 c2 c3 c4 e1 e2 e3 e4 hW2
 go_enter Tryz.func58,Tryz.ntmps58
 go_wp2_with fail
 go_region_law_o (refine step_append_room rfl (.tmp 22) (.tmp 25) 23 rfl 34 i0 3 t23 hi0 hz1 blk 0 i cap (by simp [Act.eval,Act.put]) A (n-j) (cap-j) news (by simp [Act.eval,Act.put]) s1.out hsrc.out s2.out (by omega) s3.out ?_)
 go_wp2_with fail
 all_goals (go_ret;rw [show n-(j-i)=i+(n-j) by omega];exact ⟨rfl,hfin.out⟩)
end Go.Proofs
namespace Go.Proofs.YthlmhmebajjkbaaGreatDoor
open Go Go.Ab Go.Proofs
set_option linter.unusedVariables false
def z2d:Nat->List UInt8->List UInt8->Option Int:=λ_ s t=>match t with
 |[c]=>some (Lib.indexByte s c)
 |_=>none
def zhn:LSh:=⟨[(4,(.d (.int .i64)))],[],0,143,[]⟩
noncomputable def z2y:FI dat:=FI.of dat 111 143 0 [(.d .str),(.d .str)] [] [(.d (.int .i64))] [] true zhn (R:=Int) (λx=>x.1) (λr=>(r,())) (λn x=>z2d n x.1 x.2.1)
 (λn=>[]) .skip
theorem yjq (s:List UInt8) (c:UInt8):zly Tryz.prog 111 [.str s,.str [c]] (.int .i64 (Lib.indexByte s c)):=λH W g cargs hG hA=>by
 obtain ⟨x,y,rfl,h0,h1⟩:=yfe hA;cases h0;cases h1;have c:=Any.stringslite_Index_one {Tryz.zrl with} ⟨s.toArray⟩ c W;refine .inl ⟨Tryz.call111 _ _,c.mono λe W' ⟨h1,h2⟩ => ?_⟩;subst h1;subst h2;exact ⟨_,g,rfl,.refl _ _ _,hG,.int _ _⟩
theorem zhc:FOk Tryz.prog z2y:=λn R x k kp r h=>by
 obtain ⟨s,t,u⟩:=x;obtain ⟨y,hy,h⟩:=Qbv.1 (show (z2d n s t).bind (λr=>k (r,()))=some r from h)
 match t,hy with
 |[c],hy=>
  have hy:some (Lib.indexByte s c)=some y:=hy;injection hy with hy;subst hy;refine ⟨(_,()),h,rfl,rfl,rfl,λlv vargs ha=>⟨[.int .i64 (Lib.indexByte s c)],λρ lv' => ?_,?_⟩⟩
  · show VRL dat ρ lv' [TV.int .i64 (Lib.indexByte s c)] _;simp only [VRL,VR];exact ⟨_,_,rfl,rfl,rfl⟩
  · have ha:VRL dat [] lv [TV.str s,TV.str [c]] vargs:=ha;simp only [VRL,VR] at ha;obtain ⟨v,r1,rfl,rfl,v2,r2,rfl,rfl,rfl⟩:=ha;exact yjq _ _
end Go.Proofs.YthlmhmebajjkbaaGreatDoor
namespace Go.Proofs.YthlmhmebajjkbaaGreatDoor
open Go Go.Ab
set_option linter.unusedVariables false
set_option maxRecDepth 100000
set_option maxHeartbeats 4000000
def z13:Nat->(List UInt8)->(List UInt8)->Option ((List UInt8)×(List UInt8)×Bool)
 |0,_,_=>none
 |n+1,a0,a1=>
  (z2d n a0 a1).bind λy0=>
  pIf (decide (y0>=0))
   ((sub a0 0 y0).bind λx1=>
   (sub a0 (IntKind.i64.wrap (y0+(a1.length:Int))) (a0.length:Int)).bind λx2=>
   some (x1,x2,true))
   (some (a0,[],false))
def ziv:LSh:=⟨[(4,(.d .str)),(5,(.d .str)),(6,(.d .bool))],[],0,23,[]⟩
noncomputable def z07:FI dat:=FI.of dat 62 23 0 [(.d .str),(.d .str)] [] [(.d .str),(.d .str),(.d .bool)] [] true ziv (R:=(List UInt8)×(List UInt8)×Bool) (λx=>(x.1,x.2.1,x.2.2.1)) (λr=>(r.1,r.2.1,r.2.2,())) (λn x=>z13 n x.1 x.2.1)
 (λn=>[]) (ann [] (Tryz.f62.body.getD .skip) 0).1
noncomputable def zj5:List (FI dat):=[z2y]
theorem zj1:(z07).Good Tryz.prog dat (tb zj5):=FI.zz2 (hD:=zz0 _) Tryz.func62 Tryz.ntmps62 Tryz.call62 (by kernel_rfl) (Qac (by kernel_rfl)) (by kernel_rfl) (λn=>by kernel_rfl) (λx=>by kernel_rfl) (λ_=>rfl) trivial
 (λn=>λx=>(z13.eq_2 _ _ n).trans (by kernel_rfl))
 (λn=>trivial)
 (λx=>.inl rfl)
theorem zjn:OkL Tryz.prog [z07]:=zz3 (zz0 _) (bs:=[z2y]) ⟨zhc,trivial⟩ zj1
theorem zig:FOk Tryz.prog z07:=zjn.1
def z2f:Nat->(List UInt8)->(List UInt8)->Option ((List UInt8)×(List UInt8)×Bool)
 |0,_,_=>none
 |n+1,a0,a1=>
  (z13 n a0 a1).bind λy0=>
  some (y0.1,y0.2.1,y0.2.2)
def y2d:LSh:=⟨[(4,(.d .str)),(5,(.d .str)),(6,(.d .bool))],[],0,13,[]⟩
noncomputable def z5b:FI dat:=FI.of dat 27 13 0 [(.d .str),(.d .str)] [] [(.d .str),(.d .str),(.d .bool)] [] true y2d (R:=(List UInt8)×(List UInt8)×Bool) (λx=>(x.1,x.2.1,x.2.2.1)) (λr=>(r.1,r.2.1,r.2.2,())) (λn x=>z2f n x.1 x.2.1)
 (λn=>[]) (ann [] (Tryz.f27.body.getD .skip) 0).1
noncomputable def y1a:List (FI dat):=[z07]
theorem y0f:(z5b).Good Tryz.prog dat (tb y1a):=FI.zz2 (hD:=zz0 _) Tryz.func27 Tryz.ntmps27 Tryz.call27 (by kernel_rfl) (Qac (by kernel_rfl)) (by kernel_rfl) (λn=>by kernel_rfl) (λx=>by kernel_rfl) (λ_=>rfl) trivial
 (λn=>λx=>(z2f.eq_2 _ _ n).trans (by kernel_rfl))
 (λn=>trivial)
 (λx=>.inl rfl)
theorem y2f:OkL Tryz.prog [z5b]:=zz3 (zz0 _) (bs:=[z07]) ⟨zig,trivial⟩ y0f
theorem zj3:FOk Tryz.prog z5b:=y2f.1
mutual
def z1y:Nat->(List UInt8)->Option Bool
 |0,_=>none
 |n+1,a0=>
  pIf ((a0.length:Int)==0)
   (zbu n a0 true)
   (zbu n a0 (decide ((a0.length:Int)>40)))
def zbu:Nat->(List UInt8)->Bool->Option Bool
 |0,_,_=>none
 |n+1,a0,a1=>
  pIf a1
   (some false)
   (zb2 n a0 0)
def zb2:Nat->(List UInt8)->Nat->Option Bool
 |0,_,_=>none
 |n+1,a0,a1=>
  pIf (decide (a1<a0.length))
   (pIf (decide (((zhr a0 a1).1:Int)>=97))
     (zba n ((zhr a0 a1).1:Int) (a1:Int) (decide (((zhr a0 a1).1:Int)<=122)) a0 (a1+(zhr a0 a1).2))
     (zba n ((zhr a0 a1).1:Int) (a1:Int) false a0 (a1+(zhr a0 a1).2)))
   (some true)
def zba:Nat->Int->Int->Bool->(List UInt8)->Nat->Option Bool
 |0,_,_,_,_,_=>none
 |n+1,a0,a1,a2,a3,a4=>
  pIf (!a2)
   (pIf (a1==0)
     (z1s n true a3 a4)
     (pIf (a0 != 45)
       (pIf (decide (a0<48))
         (z1s n true a3 a4)
         (z1s n (decide (a0>57)) a3 a4))
       (z1s n false a3 a4)))
   (z1s n false a3 a4)
def z1s:Nat->Bool->(List UInt8)->Nat->Option Bool
 |0,_,_,_=>none
 |n+1,a0,a1,a2=>
  pIf a0
   (some false)
   (zb2 n a1 a2)
end
def y7n:LSh:=⟨[(2,(.d .bool))],[],0,44,[]⟩
noncomputable def z0g:FI dat:=FI.of dat 25 44 0 [(.d .str)] [] [(.d .bool)] [] true y7n (R:=Bool) (λx=>x.1) (λr=>(r,())) (λn x=>z1y n x.1)
 (λn=>[(0,⟨⟨[(0,(.d .str)),(13,(.d .bool))],[],0,44,[]⟩,λx=>zbu n x.1 x.2.1⟩),(1,⟨⟨[(15,(.ptr 0 0))],[.siter],0,44,[]⟩,λx=>zb2 n x.1 x.2.1⟩),(2,⟨⟨[(15,(.ptr 0 0)),(4,(.d (.int .i32))),(3,(.d (.int .i64))),(5,(.d .bool))],[.siter],0,44,[]⟩,λx=>zba n x.1 x.2.1 x.2.2.1 x.2.2.2.1 x.2.2.2.2.1⟩),(3,⟨⟨[(15,(.ptr 0 0)),(43,(.d .bool))],[.siter],0,44,[]⟩,λx=>z1s n x.1 x.2.1 x.2.2.1⟩)]) (ann [(5,0),(14,1),(26,2),(28,3)] (Tryz.f25.body.getD .skip) 0).1
noncomputable def y7t:List (FI dat):=[]
theorem y72:(z0g).Good Tryz.prog dat (tb y7t):=FI.zz2 (hD:=zz0 _) Tryz.func25 Tryz.ntmps25 Tryz.call25 (by kernel_rfl) (Qac (by kernel_rfl)) (by kernel_rfl) (λn=>by kernel_rfl) (λx=>by kernel_rfl) (λ_=>rfl) ⟨λ_=>rfl,λ_=>rfl,λ_=>rfl,λ_=>rfl,trivial⟩
 (λn=>λx=>(z1y.eq_2 _ n).trans (by kernel_rfl))
 (λn=>⟨λx=>(zbu.eq_2 _ _ n).trans (by kernel_rfl),
  λx=>(zb2.eq_2 _ _ n).trans (by kernel_rfl),
  λx=>(zba.eq_2 _ _ _ _ _ n).trans (by kernel_rfl),
  λx=>(z1s.eq_2 _ _ _ n).trans (by kernel_rfl),
  trivial⟩)
 (λx=>.inl rfl)
theorem y48:OkL Tryz.prog [z0g]:=zz3 (zz0 _) (bs:=[]) trivial y72
theorem zcy:FOk Tryz.prog z0g:=y48.1
def z14:Nat->(List UInt8)->(List UInt8)->Option Bool
 |0,_,_=>none
 |n+1,a0,a1=>
  pIf (decide ((a0.length:Int)>=(a1.length:Int)))
   ((sub a0 (IntKind.i64.wrap ((a0.length:Int)-(a1.length:Int))) (a0.length:Int)).bind λx0=>
   some (x0==a1))
   (some false)
def zfy:LSh:=⟨[(4,(.d .bool))],[],0,21,[]⟩
noncomputable def zzp:FI dat:=FI.of dat 215 21 0 [(.d .str),(.d .str)] [] [(.d .bool)] [] true zfy (R:=Bool) (λx=>x.1) (λr=>(r,())) (λn x=>z14 n x.1 x.2.1)
 (λn=>[]) (ann [] (Tryz.f215.body.getD .skip) 0).1
noncomputable def zf8:List (FI dat):=[]
theorem zfp:(zzp).Good Tryz.prog dat (tb zf8):=FI.zz2 (hD:=zz0 _) Tryz.func215 Tryz.ntmps215 Tryz.call215 (by kernel_rfl) (Qac (by kernel_rfl)) (by kernel_rfl) (λn=>by kernel_rfl) (λx=>by kernel_rfl) (λ_=>rfl) trivial
 (λn=>λx=>(z14.eq_2 _ _ n).trans (by kernel_rfl))
 (λn=>trivial)
 (λx=>.inl rfl)
theorem zg1:OkL Tryz.prog [zzp]:=zz3 (zz0 _) (bs:=[]) trivial zfp
theorem zew:FOk Tryz.prog zzp:=zg1.1
def z17:Nat->(List UInt8)->(List UInt8)->Option ((List UInt8)×Bool)
 |0,_,_=>none
 |n+1,a0,a1=>
  (z14 n a0 a1).bind λy0=>
  pIf (!y0)
   (some (a0,false))
   ((sub a0 0 (IntKind.i64.wrap ((a0.length:Int)-(a1.length:Int)))).bind λx1=>
   some (x1,true))
def zfx:LSh:=⟨[(4,(.d .str)),(5,(.d .bool))],[],0,18,[]⟩
noncomputable def yzp:FI dat:=FI.of dat 210 18 0 [(.d .str),(.d .str)] [] [(.d .str),(.d .bool)] [] true zfx (R:=(List UInt8)×Bool) (λx=>(x.1,x.2.1)) (λr=>(r.1,r.2,())) (λn x=>z17 n x.1 x.2.1)
 (λn=>[]) (ann [] (Tryz.f210.body.getD .skip) 0).1
noncomputable def zg7:List (FI dat):=[zzp]
theorem zfi:(yzp).Good Tryz.prog dat (tb zg7):=FI.zz2 (hD:=zz0 _) Tryz.func210 Tryz.ntmps210 Tryz.call210 (by kernel_rfl) (Qac (by kernel_rfl)) (by kernel_rfl) (λn=>by kernel_rfl) (λx=>by kernel_rfl) (λ_=>rfl) trivial
 (λn=>λx=>(z17.eq_2 _ _ n).trans (by kernel_rfl))
 (λn=>trivial)
 (λx=>.inl rfl)
theorem zg5:OkL Tryz.prog [yzp]:=zz3 (zz0 _) (bs:=[zzp]) ⟨zew,trivial⟩ zfi
theorem zey:FOk Tryz.prog yzp:=zg5.1
def za9:Nat->(List UInt8)->(List UInt8)->Option ((List UInt8)×Bool)
 |0,_,_=>none
 |n+1,a0,a1=>
  (z17 n a0 a1).bind λy0=>
  some (y0.1,y0.2)
def zon:LSh:=⟨[(4,(.d .str)),(5,(.d .bool))],[],0,11,[]⟩
noncomputable def z3m:FI dat:=FI.of dat 187 11 0 [(.d .str),(.d .str)] [] [(.d .str),(.d .bool)] [] true zon (R:=(List UInt8)×Bool) (λx=>(x.1,x.2.1)) (λr=>(r.1,r.2,())) (λn x=>za9 n x.1 x.2.1)
 (λn=>[]) (ann [] (Tryz.f187.body.getD .skip) 0).1
noncomputable def zor:List (FI dat):=[yzp]
theorem zo5:(z3m).Good Tryz.prog dat (tb zor):=FI.zz2 (hD:=zz0 _) Tryz.func187 Tryz.ntmps187 Tryz.call187 (by kernel_rfl) (Qac (by kernel_rfl)) (by kernel_rfl) (λn=>by kernel_rfl) (λx=>by kernel_rfl) (λ_=>rfl) trivial
 (λn=>λx=>(za9.eq_2 _ _ n).trans (by kernel_rfl))
 (λn=>trivial)
 (λx=>.inl rfl)
theorem zoe:OkL Tryz.prog [z3m]:=zz3 (zz0 _) (bs:=[yzp]) ⟨zey,trivial⟩ zo5
theorem znh:FOk Tryz.prog z3m:=zoe.1
mutual
def z0r:Nat->(List UInt8)->Option (Bool×zzj)
 |0,_=>none
 |n+1,a0=>
  (z2f n a0 [91]).bind λy0=>
  (z1y n y0.1).bind λy1=>
  pIf (!y1)
   (zbm n y0.1 y0.2.2 y0.2.1 true (zzj.mk [] 0))
   (zbm n y0.1 y0.2.2 y0.2.1 (!y0.2.2) (zzj.mk [] 0))
def zbm:Nat->(List UInt8)->Bool->(List UInt8)->Bool->zzj->Option (Bool×zzj)
 |0,_,_,_,_,_=>none
 |n+1,a0,a1,a2,a3,a4=>
  pIf a3
   (pIf (!a1)
     ((z1y n a0).bind λy2=>
     some (y2,(zzj.mk a0 (-1))))
     (some (false,(zzj.mk a0 (-1)))))
   ((za9 n a2 [93]).bind λy3=>
   pIf (!y3.2)
    (z1u n a0 y3.1 true a4)
    (pIf ((y3.1.length:Int)==0)
      (z1u n a0 y3.1 true a4)
      (pIf (decide ((y3.1.length:Int)>4))
        (z1u n a0 y3.1 true a4)
        ((ix y3.1 0).bind λx4=>
        pIf ((x4.toNat:Int)==48)
         (z1u n a0 y3.1 (decide ((y3.1.length:Int)>1)) a4)
         (z1u n a0 y3.1 false a4)))))
def z1u:Nat->(List UInt8)->(List UInt8)->Bool->zzj->Option (Bool×zzj)
 |0,_,_,_,_=>none
 |n+1,a0,a1,a2,a3=>
  pIf a2
   (some (false,(zzj.mk [] 0)))
   (zay n 0 a0 a3 a1 0)
def zay:Nat->Int->(List UInt8)->zzj->(List UInt8)->Nat->Option (Bool×zzj)
 |0,_,_,_,_,_=>none
 |n+1,a0,a1,a2,a3,a4=>
  pIf (decide (a4<a3.length))
   (pIf (decide (((zhr a3 a4).1:Int)<48))
     (zbr n a1 ((zhr a3 a4).1:Int) a0 true a2 a3 (a4+(zhr a3 a4).2))
     (zbr n a1 ((zhr a3 a4).1:Int) a0 (decide (((zhr a3 a4).1:Int)>57)) a2 a3 (a4+(zhr a3 a4).2)))
   (some (true,(zzj.mk a1 a0)))
def zbr:Nat->(List UInt8)->Int->Int->Bool->zzj->(List UInt8)->Nat->Option (Bool×zzj)
 |0,_,_,_,_,_,_,_=>none
 |n+1,a0,a1,a2,a3,a4,a5,a6=>
  pIf a3
   (some (false,(zzj.mk [] 0)))
   (zay n (IntKind.i64.wrap ((IntKind.i64.wrap (10 * a2))+(IntKind.i64.wrap (IntKind.i32.wrap (a1-48))))) a0 a4 a5 a6)
end
def y5a:LSh:=⟨[(2,(.ptr 0 0)),(3,(.d .bool))],[(.st 17)],0,82,[]⟩
noncomputable def zli:FI dat:=FI.of dat 150 82 0 [(.d .str)] [] [(.d (.st 17)),(.d .bool)] [] true y5a (R:=Bool×zzj) (λx=>(x.1,x.2.1)) (λr=>(r.2,r.1,())) (λn x=>z0r n x.1)
 (λn=>[(0,⟨⟨[(2,(.ptr 0 0)),(4,(.d .str)),(6,(.d .bool)),(5,(.d .str)),(24,(.d .bool))],[(.st 17)],0,82,[]⟩,λx=>zbm n x.1 x.2.1 x.2.2.1 x.2.2.2.1 x.2.2.2.2.1⟩),(1,⟨⟨[(2,(.ptr 0 0)),(4,(.d .str)),(7,(.d .str)),(59,(.d .bool))],[(.st 17)],0,82,[]⟩,λx=>z1u n x.1 x.2.1 x.2.2.1 x.2.2.2.1⟩),(2,⟨⟨[(2,(.ptr 0 0)),(9,(.d (.int .i64))),(4,(.d .str)),(62,(.ptr 1 0))],[(.st 17),.siter],0,82,[]⟩,λx=>zay n x.1 x.2.1 x.2.2.1 x.2.2.2.1 x.2.2.2.2.1⟩),(3,⟨⟨[(2,(.ptr 0 0)),(4,(.d .str)),(62,(.ptr 1 0)),(11,(.d (.int .i32))),(9,(.d (.int .i64))),(71,(.d .bool))],[(.st 17),.siter],0,82,[]⟩,λx=>zbr n x.1 x.2.1 x.2.2.1 x.2.2.2.1 x.2.2.2.2.1 x.2.2.2.2.2.1 x.2.2.2.2.2.2.1⟩)]) (ann [(7,0),(17,1),(28,2),(41,3)] (Tryz.f150.body.getD .skip) 0).1
noncomputable def y74:List (FI dat):=[z5b,z0g,z3m]
theorem y5f:(zli).Good Tryz.prog dat (tb y74):=FI.zz2 (hD:=zz0 _) Tryz.func150 Tryz.ntmps150 Tryz.call150 (by kernel_rfl) (Qac (by kernel_rfl)) (by kernel_rfl) (λn=>by kernel_rfl) (λx=>by kernel_rfl) (λ_=>rfl) ⟨λ_=>rfl,λ_=>rfl,λ_=>rfl,λ_=>rfl,trivial⟩
 (λn=>λx=>(z0r.eq_2 _ n).trans (by kernel_rfl))
 (λn=>⟨λx=>(zbm.eq_2 _ _ _ _ _ n).trans (by kernel_rfl),
  λx=>(z1u.eq_2 _ _ _ _ n).trans (by kernel_rfl),
  λx=>(zay.eq_2 _ _ _ _ _ n).trans (by kernel_rfl),
  λx=>(zbr.eq_2 _ _ _ _ _ _ _ n).trans (by kernel_rfl),
  trivial⟩)
 (λx=>.inl rfl)
theorem y4i:OkL Tryz.prog [zli]:=zz3 (zz0 _) (bs:=[z5b,z0g,z3m]) ⟨zj3,zcy,znh,trivial⟩ y5f
theorem y0c:FOk Tryz.prog zli:=y4i.1
end Go.Proofs.YthlmhmebajjkbaaGreatDoor
namespace Go.Proofs.YthlmhmebajjkbaaGreatDoor
open Go Go.Ab Go.Proofs
open Go.RowKit
set_option linter.unusedVariables false
set_option linter.unusedSimpArgs false
attribute [local go_sem] Oper.semAt_some
namespace OHand
open Go.Ab (Qbo)
theorem yay {c:UInt8} {s:List UInt8} (hb:s.length<=1048576):Ev (λn=>z2f n s [c]) (cutAt c s):=by
 refine .succ (λn=>by rw [z2f]) ?_;refine .bind (y:=cutAt c s) ?_ (.pure rfl);refine .succ (λn=>by rw [z13]) ?_;refine .bind (y:=Lib.indexByte s c) (.pure rfl) ?_;rw [zwe];cases h:s.any (· == c)
 ·rw [ybc h];exact .pf rfl (.pure rfl)
 ·obtain ⟨h1,h2,h3⟩:=y6l h;simp only [if_true];refine .pt (by simp) ?_;refine .opt (y:=s.takeWhile (· != c)) (by rw [yea (by omega),h2]) ?_
  refine .opt (y:=(s.dropWhile (· != c)).tail) (by
   have e:IntKind.i64.wrap ((s.takeWhile (· != c)).length+([c].length:Int))=(((s.takeWhile (· != c)).length+1:Nat):Int):=by rw [show ([c].length:Int)=1 from rfl];exact wrk (by omega)
   rw [e,yie (by omega) (Qbo _),List.take_length,h3]) ?_
  exact .pure (by simp only [cutAt,h])
theorem yjr (n:Nat) (s t:List UInt8) (r:List UInt8×List UInt8×Bool) (h:z2f n s t=some r):zly Tryz.prog 27 [.str s,.str t] (.tup [.str r.1,.str r.2.1,.bool r.2.2]):=by
 obtain ⟨y,h1,_,_,_,h2⟩:=zj3 n _ (s,t,()) (λy=>some (y.1,y.2.1,y.2.2.1)) (λ_=>none) r (by show (z2f n s t).bind (λr=>some (r.1,r.2.1,r.2.2))=some r;rw [h];rfl);obtain ⟨vs,k1,k2⟩:=h2 0 [.str s,.str t] (by show VRL dat [] 0 [TV.str s,TV.str t] _;simp only [VRL,VR];exact ⟨_,_,rfl,rfl,_,_,rfl,rfl,rfl⟩);injection h1 with h1;subst h1;have:=k1 [] 0
 replace this:VRL dat [] 0 [TV.str y.1,TV.str y.2.1,TV.bool y.2.2.1] vs:=this;simp only [VRL,VR] at this;obtain ⟨_,_,rfl,rfl,_,_,rfl,rfl,_,_,rfl,rfl,rfl⟩:=this;exact k2
theorem yiq (n:Nat) (s:List UInt8) (r:Bool×zzj) (h:z0r n s=some r):zly Tryz.prog 150 [.str s] (.tup [.agg [.str r.2.name,.int .i64 r.2.index],.bool r.1]):=by
 obtain ⟨y,h1,_,_,_,h2⟩:=y0c n _ (s,()) (λy=>some (y.2.1,y.1)) (λ_=>none) r (by show (z0r n s).bind (λr=>some (r.1,r.2))=some r;rw [h];rfl);obtain ⟨vs,k1,k2⟩:=h2 0 [.str s] (by show VRL dat [] 0 [TV.str s] _;simp only [VRL,VR];exact ⟨_,_,rfl,rfl,rfl⟩);injection h1 with h1;subst h1;have:=k1 [] 0;replace this:VRL dat [] 0 [TV.agg [TV.str y.1.name,TV.int .i64 y.1.index],TV.bool y.2.1] vs:=this
 simp only [VRL,VR] at this;obtain ⟨_,_,rfl,⟨_,rfl,_,_,rfl,rfl,_,_,rfl,rfl,rfl⟩,_,_,rfl,rfl,rfl⟩:=this;exact k2
theorem pc {f n:Nat} {vargs:List V} {r:V} {cargs:Array Value} {W:World} (h:zly Tryz.prog f vargs r) (hent:∀args w,(callFunc f args).run Tryz.prog w = .ok (.enter f args) w) (ha:zgl W g0 H0 vargs cargs) :
  CallsIn Fence.wide n Tryz.prog f cargs W λe W'=>∃c,e = .returned c∧RowKit.Below W.heap.size W W'∧∃g',Rel W' g' H0 r c:=by
 refine callsIn_wide.2 ?_
 rcases h H0 W g0 cargs (yjc W ⟨λk cs h=>(by cases h),λk h=>(by cases h)⟩) ha with ⟨_,hc⟩|⟨c,W',g',hc,_⟩
 ·exact hc.mono λe W' ⟨c,g',he,hs,_,hr⟩=>⟨c,he,zoy hs,g',hr⟩
 ·rw [hent] at hc;cases hc
def fx (x:List UInt8):List UInt8:=if (z0r 60 x).isSome then x else []
def rd (x:List UInt8):Bool×zzj:=(z0r 60 (fx x)).getD (false,⟨[],0⟩)
theorem rd_some (x:List UInt8):z0r 60 (fx x)=some (rd x):=by
 have h:(z0r 60 (fx x)).isSome=true:=by
  unfold fx;split
  ·assumption
  ·exact rfl
 unfold rd
 cases hx:z0r 60 (fx x) with
 |none=>rw [hx] at h;cases h
 |some y=>rfl
theorem relA1 {W:World} {s:List UInt8}:zgl W g0 H0 [.str s] #[.string ⟨s.toArray⟩]:=yd0 (cs:=[.string ⟨s.toArray⟩]) rfl λj v hj=>by
 cases j with
 |zero=>simp at hj;subst hj;exact ⟨_,rfl,.str _⟩
 |succ j=>simp at hj
theorem relA2 {W:World} {s t:List UInt8}:zgl W g0 H0 [.str s,.str t] #[.string ⟨s.toArray⟩,.string ⟨t.toArray⟩]:=yd0 (cs:=[.string ⟨s.toArray⟩,.string ⟨t.toArray⟩]) rfl λj v hj=>by
 match j with
 |0=>simp at hj;subst hj;exact ⟨_,rfl,.str _⟩
 |1=>simp at hj;subst hj;exact ⟨_,rfl,.str _⟩
 |j+2=>simp at hj
theorem grown {W W':World} (h:RowKit.Below W.heap.size W W'):W.grownBy W' none:=⟨h.os,h.tape,h.output,h.size,λk hk _=>h.block k hk⟩
abbrev S (s:List UInt8):Value:=.string ⟨s.toArray⟩
theorem yjj (n:Nat) (s:List UInt8) (hb:s.length<=1048576) (W:World):CallsIn Fence.wide n Tryz.prog 27 #[S s,S [47]] W λe W'=>
  e = .returned (.tuple #[S (cutAt 47 s).1,S (cutAt 47 s).2.1,.bool (cutAt 47 s).2.2])∧W.grownBy W' none:=by
 obtain ⟨k,hk⟩:=(yay (c:=47) hb).get;refine (pc (yjr k s [47] _ hk) (λ_ _=>Tryz.call27 _ _) relA2).mono ?_
 rintro e W' ⟨c,rfl,hB,g',hr⟩
 refine ⟨?_,grown hB⟩
 cases hr with
 |tup vs cs hn h=>
  have e0:=h 0 _ rfl;have e1:=h 1 _ rfl;have e2:=h 2 _ rfl
  have hs:cs = #[cs.getD 0 undef,cs.getD 1 undef,cs.getD 2 undef]:=by
   obtain ⟨l⟩:=cs
   match l,hn with
   |[a,b,c],_=>rfl
  cases hz0:cs.getD 0 undef <;> rw [hz0] at e0 <;> cases e0
  cases hz1:cs.getD 1 undef <;> rw [hz1] at e1 <;> cases e1
  cases hz2:cs.getD 2 undef <;> rw [hz2] at e2 <;> cases e2
  rw [hs,hz0,hz1,hz2]
theorem yj2 (n:Nat) (s:List UInt8) {y:Bool×zzj} (hy:z0r 60 s=some y) (W:World):CallsIn Fence.wide n Tryz.prog 150 #[S s] W λe W'=>
  ∃nm ix,e = .returned (.tuple #[.agg #[S nm,.int .i64 ix],.bool y.1])∧RowKit.Below W.heap.size W W':=by
 refine (pc (yiq 60 s _ hy) (λ_ _=>Tryz.call150 _ _) relA1).mono ?_
 rintro e W' ⟨c,rfl,hB,g',hr⟩
 refine ⟨y.2.name,y.2.index,?_,hB⟩
 cases hr with
 |tup vs cs hn h=>
  have e0:=h 0 _ rfl;have e1:=h 1 _ rfl
  have hs:cs = #[cs.getD 0 undef,cs.getD 1 undef]:=by
   obtain ⟨l⟩:=cs
   match l,hn with
   |[a,b],_=>rfl
  cases hz1:cs.getD 1 undef <;> rw [hz1] at e1 <;> cases e1
  cases hz0:cs.getD 0 undef <;> rw [hz0] at e0 <;> try (cases e0;done)
  rename_i ds
  cases e0 with
  |agg _ _ hn' h1' hr'=>
   have f0:=hr' 0 _ rfl;have f1:=hr' 1 _ rfl
   have hs':ds = #[ds.getD 0 undef,ds.getD 1 undef]:=by
    obtain ⟨l⟩:=ds
    match l,hn' with
    |[a,b],_=>rfl
   cases hy0:ds.getD 0 undef <;> rw [hy0] at f0 <;> cases f0
   cases hy1:ds.getD 1 undef <;> rw [hy1] at f1 <;> cases f1
   rw [hs,hz0,hz1,hs',hy0,hy1]
theorem yi9 (n:Nat) (s:List UInt8) (W:World):CallsIn Fence.wide n Tryz.prog 109 #[S s,S [47]] W λe W'=>
  e = .returned (.int .i64 (s.countP (· == 47):Int))∧RowKit.Below W.heap.size W W':=by
 refine callsIn_wide.2 ?_;refine (Any.strings_Count_one {Tryz.zrl with} ⟨s.toArray⟩ 47 W).mono λe w' ⟨a1,a2⟩=>⟨?_,by rw [a2];exact RowKit.Below.refl _ _⟩
 rw [a1];rfl
theorem ycp {s:List UInt8} {k:Nat} {rest:List UInt8} (h:(steps s).drop k=parts 47 rest) :
  (steps s).take (k+1)=(steps s).take k++[(cutAt 47 rest).1]∧(steps s).drop (k+1)=if (cutAt 47 rest).2.2 then parts 47 (cutAt 47 rest).2.1 else []:=by
 rw [parts_eq] at h
 have hk:(steps s)[k]? = some (cutAt 47 rest).1:=by
  have:=congrArg List.head? h;rw [List.head?_drop] at this;simpa using this
 refine ⟨?_,?_⟩
 ·rw [List.take_add_one,hk];rfl
 ·have:=congrArg List.tail h;rw [List.tail_drop] at this;simpa using this
def strSize:Value->Nat
 | .string b=>b.size
 |_=>0
def y40:Value->Nat
 | .bool true=>1
 |_=>0
end OHand
open OHand
def zla (s:List UInt8):Int :=
 if 4000<s.length then 4 else if 40<(steps s).length then 4 else if (steps s).all (λx=>(rd x).1) then 0 else 12
def za5:Nat->List UInt8->Option Int:=λ_ s=>if (steps s).all (λx=>(z0r 60 x).isSome) then some (zla s) else none
set_option maxRecDepth 100000 in
set_option maxHeartbeats 2000000 in
theorem ye2 (n:Nat) (hn:1<=n) (l Bs:Nat) (s:List UInt8) (hb:s.length<=1048576) (J Jx:List (List UInt8)->World->Prop)
  (hY:∀pre x W,J pre W->pre.length<s.length+1->YieldAt Fence.wide (n-1) Tryz.prog l #[S (fx x)] W λe W'=>
   (e = .returned (.bool true)∧J (pre++[x]) W'∧True)∨(e = .returned (.bool false)∧Jx (pre++[x]) W'))
  (h4:s.length<=4000) (hfx:∀x∈steps s,fx x=x) (W:World) (hJ:AbidesFrom W.heap.size J) (hBs:W.cell? ⟨Bs,0,none⟩=some (S s)) (h0:J [] W) :
  CallsIn Fence.wide n Tryz.prog 186 #[.func (.yield l) #[] #[],.pointer (some ⟨Bs,0,none⟩)] W λe W'=>(∃v,e = .returned v) ∧
   ((∃ys,ys=steps s∧J ys W')∨(∃pre,(∃k,pre=(steps s).take k)∧Jx pre W')):=by
 refine callsIn_of_wp Tryz.func186 rfl trivial ?_ rfl;simp only [Tryz.ntmps186,List.size_toArray,List.length_cons,List.length_nil,Nat.reduceAdd,Nat.reduceSub,Array.replicate_succ,Array.replicate_zero,List.push_toArray,List.append_toArray,List.nil_append,List.cons_append];have hmx:Tryz.prog.follows .mixedOrders=true:=by kernel_rfl
 gi_wp2
 gi_region_o
 all_goals gi_wp2
 gi_loopw [3,4] (λr m wr=>∃(k:Nat) (rest:List UInt8),r=S rest∧k+rest.length<=s.length+1 ∧
   ((m = .bool true∧k+rest.length<=s.length∧(steps s).drop k=parts 47 rest)∨(m = .bool false∧(steps s).drop k=[]))∧J ((steps s).take k) wr)
  (λr m _=>strSize r+y40 m)
 case atStart=>
  refine ⟨0,s,rfl,by omega,?_,hJ _ _ _ none h0 ⟨rfl,rfl,rfl,Qbo _,λ_ _ _=>rfl⟩ (λr e=>by cases e)⟩
  cases s with
  |nil=>exact .inr ⟨rfl,rfl⟩
  |cons c t=>exact .inl ⟨rfl,by omega,rfl⟩
 case round=>
  obtain ⟨k,rest,rfl,hkr,hm,hJs⟩:=hrel
  rcases hm with ⟨rfl,hkr,hd⟩|⟨rfl,hd⟩
  ·obtain ⟨hs1,hs2⟩:=ycp hd;have hx4:fx (cutAt 47 rest).1=(cutAt 47 rest).1:=hfx _ (List.mem_of_mem_take (i:=k+1) (by rw [hs1];simp))
   gi_wp2_with (refine ⟨trivial,?_⟩;gi_at_call 27;refine (yjj _ rest (by omega) _).mono ?_;rintro e w2 ⟨rfl,hg⟩;have hJ2:=hJ _ _ _ none hJs hg (λr e=>by cases e);obtain ⟨fn,tmps,assign,body,hy,hR⟩:=hY _ (cutAt 47 rest).1 w2 hJ2 (by rw [Qaw];omega);rw [hx4] at hy)
   refine hR.mono ?_
   rintro e W3 (⟨rfl,hJ3,_⟩|⟨rfl,hJx3⟩)
   ·gi_wp2
    go_roundw
    case rel=>
     refine ⟨k+1,(cutAt 47 rest).2.1,rfl,?_,?_,by rw [hs1];exact hJ3⟩
     ·have:=zx1 47 rest;omega
     ·cases hc:(cutAt 47 rest).2.2
      ·exact .inr ⟨rfl,by rw [hs2,hc];rfl⟩
      ·exact .inl ⟨rfl,by have:=zpv hc;omega,by rw [hs2,hc];rfl⟩
    case measure=>
     have h1:=zx1 47 rest;cases hc:(cutAt 47 rest).2.2
     ·simp [strSize,y40,ByteArray.size];omega
     ·have:=zpv hc;simp [strSize,y40,ByteArray.size];omega
   ·gi_wp2
    refine bodyPost_ret (results_none rfl _ _ _) rfl ?_;exact ⟨⟨_,rfl⟩,.inr ⟨_,⟨k+1,hs1.symm⟩,hJx3⟩⟩
  ·gi_wp2
   go_end0
   refine ⟨⟨_,rfl⟩,.inl ⟨_,rfl,?_⟩⟩
   have:(steps s).take k=steps s:=by
    have:=List.take_append_drop k (steps s);rw [hd,List.append_nil] at this;exact this
   rw [<-this];exact hJs
theorem yfb (n:Nat) (s:List UInt8) (w:World) :
  CallsIn Fence.wide n Tryz.prog 149 #[S s] w λe w'=>e = .returned (.func (.func 186) #[] #[.pointer (some ⟨w.heap.size,0,none⟩)])∧w'=w.alloc (.cells #[S s] 9):=by
 refine callsIn_of_wp Tryz.func149 rfl trivial ?_ rfl;simp only [Tryz.ntmps149,List.size_toArray,List.length_cons,List.length_nil,Nat.reduceAdd,Nat.reduceSub,Array.replicate_succ,Array.replicate_zero,List.push_toArray,List.append_toArray,List.nil_append,List.cons_append]
 gi_wp2
 go_ret
 exact ⟨rfl,rfl⟩
theorem y9c (n:Nat) (hn:1<=n) (Bs:Nat) (s:List UInt8) (h4:s.length<=4000) (hfx:∀x∈steps s,fx x=x) (w:World) (hBs:Bs<w.heap.size) (hc:w.cell? ⟨Bs,0,none⟩=some (S s)) :
  SeqStopsK Fence.wide n Tryz.prog 186 #[.pointer (some ⟨Bs,0,none⟩)] (λx:List UInt8 => #[S (fx x)]) (λ_ _=>True) (λys=>ys=steps s) (λpre=>∃k,pre=(steps s).take k) (s.length+1) w:=λl J Jx W hW hJ _ hY h0=>
 ye2 n hn l Bs s (by omega) J Jx hY h4 hfx W hJ ((hW.cell (p:=⟨Bs,0,none⟩) hBs).trans hc) h0
theorem yd6 {tmps:Array Value} {w:World} {B:Nat} {v:Value} (hp:tmps.getD 2 undef = .pointer (some ⟨B,0,none⟩)) (hc:w.cell? ⟨B,0,none⟩=some v):(results Tryz.f105 tmps).run Tryz.prog w = .ok v w:=by
 have hp':tmps[2]?.getD undef = .pointer (some ⟨B,0,none⟩):=by simpa using hp
 simp [results,Tryz.f105,hp',asAddr,go_sem,hc]
set_option maxRecDepth 100000 in
set_option maxHeartbeats 2000000 in
theorem yfn (s:List UInt8) (hfx:∀x∈steps s,fx x=x) (w:World):CallsIn Fence.wide 3 Tryz.prog 105 #[S s] w λe w'=>e = .returned (.int .i64 (zla s))∧RowKit.Below w.heap.size w w':=by
 refine callsIn_of_wp_marks Tryz.func105 rfl trivial ?_ rfl;simp only [Tryz.ntmps105,List.size_toArray,List.length_cons,List.length_nil,Nat.reduceAdd,Nat.reduceSub,Array.replicate_succ,Array.replicate_zero,List.push_toArray,List.append_toArray,List.nil_append,List.cons_append];have hB0:RowKit.Below w.heap.size w (w.alloc (.cells #[.int .i64 0] 27)):=(RowKit.Below.refl _ w).alloc (Qbo _) _
 by_cases h4:(4000:Int)<(s.length:Int)
 ·gi_wp2
  refine ⟨trivial,?_⟩
  gi_wp2
  refine ⟨.int .i64 4,yd6 (B:=w.heap.size) rfl (by simp),?_,(RowKit.Below.refl _ w).alloc (Qbo _) _⟩;have h4':4000<s.length:=by omega
  simp [zla,h4']
 ·have hB2:∀w2,RowKit.Below (w.alloc (.cells #[.int .i64 0] 27)).heap.size (w.alloc (.cells #[.int .i64 0] 27)) w2->RowKit.Below w.heap.size w w2:=λw2 h=>hB0.trans (h.mono (by simp))
  gi_wp2_with (first|(refine ⟨trivial,?_⟩;gi_at_call 109;refine (yi9 _ s _).mono ?_;rintro e w2 ⟨rfl,hg⟩;have hc2:w2.cell? ⟨w.heap.size,0,none⟩=some (.int .i64 0):=(hg.cell (p:=⟨w.heap.size,0,none⟩) (by simp)).trans (by simp);have hf2:w2.frozen? ⟨w.heap.size,0,none⟩=false:=(hg.frozen (p:=⟨w.heap.size,0,none⟩) (by simp)).trans (by simp);have hsz:=hg.size;rw [World.size_alloc] at hsz)|(refine ⟨trivial,?_⟩;gi_at_call 149;refine (yfb _ s _).mono ?_;rintro e w3 ⟨rfl,rfl⟩))
  ·rename_i h39;refine ⟨.int .i64 4,yd6 (B:=w.heap.size) rfl (World.cell?_setCell_same' _ _ _ (by rw [hc2];rfl)),?_,(hB2 _ hg).setCell (Qbo _) _⟩;have h4':¬4000<s.length:=by omega
   have hs:40<(steps s).length:=by
    cases s with
    |nil=>simp at h39
    |cons c t=>rw [show steps (c::t)=parts 47 (c::t) from rfl,zem];omega
   simp only [zla,h4',hs,if_false,if_true]
  ·rename_i h39 _ _ _
   have hs40:¬40<(steps s).length:=by
    cases s with
    |nil=>simp [steps]
    |cons c t=>rw [show steps (c::t)=parts 47 (c::t) from rfl,zem];omega
   have hBA:RowKit.Below w2.heap.size w2 (w2.alloc (.cells #[S s] 9)):=(RowKit.Below.refl _ w2).alloc (Qbo _) _
   refine wpIn_rangeFunc_ownF rfl (by omega) (gf:=186) (lb := #[.pointer (some ⟨w2.heap.size,0,none⟩)]) rfl trivial (enters_of Tryz.func186 (by kernel_rfl) rfl)
    (y9c _ (by omega) w2.heap.size s (by omega) hfx _ (by simp) (by simp)) (λ_ _=>trivial) (λ_ _ _ _ _ _ _ _=>trivial) (RowKit.Below.refl _ _) (λ_=>rfl)
    (λpre W=>(pre.all λx=>(rd x).1)=true∧W.cell? ⟨w.heap.size,0,none⟩=some (.int .i64 0)∧W.frozen? ⟨w.heap.size,0,none⟩=false∧RowKit.Below w.heap.size w W)
    (λc pre W=>c = .ret∧(pre.all λx=>(rd x).1)=false∧W.cell? ⟨w.heap.size,0,none⟩=some (.int .i64 12)∧RowKit.Below w.heap.size w W)
    (λs A B row hs hg hr => ?_) (λc s A B row hs hg hr => ?_)
    ⟨rfl,(hBA.cell (p:=⟨w.heap.size,0,none⟩) (by show w.heap.size<_;omega)).trans hc2,(hBA.frozen (p:=⟨w.heap.size,0,none⟩) (by show w.heap.size<_;omega)).trans hf2,(hB2 _ hg).alloc (by omega) _⟩
    (λx=>{tmps := #[S s,undef,.pointer (some ⟨w.heap.size,0,none⟩),S (fx x),undef,undef,S s,.int .i64 s.length,.bool false,.bool false,S s,.int .i64 (s.countP (· == 47):Int),.bool (decide (39<(s.countP (· == 47):Int))),.bool (decide (39<(s.countP (· == 47):Int))),S s,.func (.func 186) #[] #[.pointer (some ⟨w2.heap.size,0,none⟩)],S (fx x),undef,undef,undef,undef,undef,undef,undef],defers:=[]}) ?assign ?body ?done ?stop
   ·exact ⟨hs.1,cell_kept hs.2.1 hg (λr e=>(hr r e).2),(frozen_kept hs.2.1 hg (λr e=>(hr r e).2)).trans hs.2.2.1,hs.2.2.2.grown hg hs.2.2.2.size (λk e=>by have:=(hr k e).1;simp at this;omega)⟩
   ·exact ⟨hs.1,hs.2.1,cell_kept hs.2.2.1 hg (λr e=>(hr r e).2),hs.2.2.2.grown hg hs.2.2.2.size (λk e=>by have:=(hr k e).1;simp at this;omega)⟩
   case assign=>
    intro l x W K hK
    gi_wp2
    exact hK
   case body=>
    rintro l pre x W ⟨hp,hc,hf,hB⟩ _
    have hlt:w.heap.size<W.heap.size:=by
     obtain ⟨o,ho,_⟩:=cells_of_cell hc;exact (Qbi.1 ho).1
    gi_wp2_with (refine ⟨trivial,?_⟩;gi_at_call 150;refine (CallsIn.inRound l (yj2 _ (fx x) (rd_some x) _)).mono ?_;rintro e w4 ⟨nm,ix,rfl,hg4⟩;have hc4:w4.cell? ⟨w.heap.size,0,none⟩=some (.int .i64 0):=(hg4.cell (p:=⟨w.heap.size,0,none⟩) hlt).trans hc;have hf4:w4.frozen? ⟨w.heap.size,0,none⟩=false:=(hg4.frozen (p:=⟨w.heap.size,0,none⟩) hlt).trans hf;have hlt4:=Qbf hlt hg4.size;have hc5:∀o,(w4.alloc o).cell? ⟨w.heap.size,0,none⟩=some (.int .i64 0):=λo=>((((RowKit.Below.refl w4.heap.size w4).alloc (Qbo _) o).cell (p:=⟨w.heap.size,0,none⟩) hlt4).trans hc4);have hf5:∀o,(w4.alloc o).frozen? ⟨w.heap.size,0,none⟩=false:=λo=>((((RowKit.Below.refl w4.heap.size w4).alloc (Qbo _) o).frozen (p:=⟨w.heap.size,0,none⟩) hlt4).trans hf4))
    ·rename_i hx;have hB5:RowKit.Below w.heap.size w (w4.setCell ⟨w.heap.size,0,none⟩ (.int .i64 12)):=(hB.trans (hg4.mono (Nat.le_of_lt hlt))).setCell (Qbo _) _;have hlt5:w.heap.size<(w4.setCell ⟨w.heap.size,0,none⟩ (.int .i64 12)).heap.size:=by rw [World.size_setCell];exact hlt4
     refine ⟨(KeepsOthers.of_grownBy (grown hg4) (λj o e=>by cases e)).trans ((KeepsOthers.setCell _ _ _).trans (KeepsOthers.alloc _ _)),rfl,?_,?_,hB5.alloc (Nat.le_of_lt hlt5) _⟩
     ·simp [hp];simpa using hx
     ·exact ((((RowKit.Below.refl _ _).alloc (Qbo _) _).cell (p:=⟨w.heap.size,0,none⟩) hlt5).trans (World.cell?_setCell_same' _ _ _ (by rw [hc4];rfl)))
    ·rename_i hx;refine ⟨(KeepsOthers.of_grownBy (grown hg4) (λj o e=>by cases e)).trans (KeepsOthers.alloc _ _),trivial,?_,hc5 _,hf5 _,(hB.trans (hg4.mono (Nat.le_of_lt hlt))).alloc (Nat.le_of_lt hlt4) _⟩;simp [hp];simpa using hx
   case done=>
    rintro D xs W hD rfl ⟨hp,hc,hf,hB⟩ hK
    gi_wp2
    have hDw:w.heap.size<D:=by simp at hD;omega
    refine ⟨by simp,.inl ⟨_,_,rfl,run_takeDeferred (w:=W.setCell ⟨w.heap.size,0,none⟩ (.int .i64 0)) ((Below.heap_setCell _ _ _ _ (by show D≠w.heap.size;omega)).trans hK),?_⟩⟩
    refine ⟨.int .i64 0,yd6 (B:=w.heap.size) rfl ((World.cell?_of_block (World.putObj_heap_other (by show w.heap.size≠D;omega))).trans (World.cell?_setCell_same' _ _ _ (by rw [hc];rfl))),?_,(hB.setCell (Qbo _) _).grown (grownBy_putObj' _ _ _) (hB.setCell (p:=⟨w.heap.size,0,none⟩) (Qbo _) _).size (λk e=>by cases e;omega)⟩;have h4':¬4000<s.length:=by omega
    have hs:¬40<(steps s).length:=hs40;simp only [zla,h4',hs,hp,if_false,if_true]
   case stop=>
    rintro D c pre W hD ⟨k,rfl⟩ ⟨rfl,hp,hc,hB⟩ hK
    gi_wp2
    have hDw:w.heap.size<D:=by simp at hD;omega
    refine ⟨by simp,.inl ⟨_,_,rfl,run_takeDeferred hK,?_⟩⟩;refine ⟨.int .i64 12,yd6 (B:=w.heap.size) rfl ((World.cell?_of_block (World.putObj_heap_other (by show w.heap.size≠D;omega))).trans hc),?_,hB.grown (grownBy_putObj' _ _ _) hB.size (λk e=>by cases e;omega)⟩;have h4':¬4000<s.length:=by omega
    have hs:¬40<(steps s).length:=hs40
    have hall:((steps s).all λx=>(rd x).1)=false:=by
     cases ha:(steps s).all λx=>(rd x).1 with
     |false=>rfl
     |true=>
      rw [Qar] at ha;rw [Qar.2 λx hx=>ha x (List.mem_of_mem_take hx)] at hp;cases hp
    simp only [zla,h4',hs,hall,if_false,Bool.false_eq_true]
theorem zqx (n:Nat) (a0:List UInt8) (r:Int) (h:za5 n a0=some r):zly Tryz.prog 105 [.str a0] (.int .i64 r):=by
 rw [za5] at h;split at h
 case isFalse=>cases h
 rename_i hall
 have hfx:∀x∈steps a0,fx x=x:=λx hx=>by
  have:=Qar.1 hall x hx;unfold fx;rw [Qbp this]
 injection h with h;subst h;intro H W g cargs hG hA;refine .inl ⟨Tryz.call105 _ _,?_⟩;obtain ⟨hn,hr⟩:=hA;have e0:=hr 0 _ rfl
 have hs:cargs = #[cargs.getD 0 undef]:=by
  obtain ⟨l⟩:=cargs
  match l,hn with
  |[a],_=>rfl
 cases hz:cargs.getD 0 undef <;> rw [hz] at e0 <;> cases e0
 rw [hs,hz];refine (callsIn_wide.1 (yfn a0 hfx W)).mono ?_
 rintro e W' ⟨rfl,hB⟩
 have hg:Grow W W':=⟨hB.os,hB.tape,hB.output,hB.size,hB.block⟩;exact ⟨_,g,rfl,hg.step,hG.grow hg,.int _ _⟩
end Go.Proofs.YthlmhmebajjkbaaGreatDoor
namespace Go.Proofs.YthlmhmebajjkbaaGreatDoor
open Go Go.Ab Go.Proofs Go.RowKit
set_option linter.unusedVariables false
set_option linter.unusedSimpArgs false
def zzy:Nat->List (List UInt8)->Option (List (List UInt8)):=λ_ xs=>if xs.length<4611686018427387904 then some (y3f xs) else none
noncomputable def kzq:FI dat:=ybz dat 94 9 zzy
theorem z7a:FOk Tryz.prog kzq:=by
 have e:zzy=λ_ xs=>if xs.length<4611686018427387904 then some (zzw xs) else none:=by funext n xs;simp only [zzy,y9y]
 unfold kzq;rw [e];exact yig (λ_ _=>Tryz.call94 _ _) (λblk cap ss w h1 h2 h3=>Any.slices_Sort_string Tryz.zw2 blk 0 cap ss w h1 h2 h3) (λp cap w=>Any.slices_Sort_string_none Tryz.zw2 p cap w)
def zaf:Nat->List (List UInt8)->List Bool->Option (List (List UInt8)×List (List UInt8)×List Bool):=λ_ ks vs=>if ks.Nodup∧ks.length=vs.length∧ks.length<=8388608∧(∀s∈ks,s.length<=8388608) then some (y3f ks,ks,vs) else none
noncomputable def z7p:FI dat:=ycg dat 43 86 zaf
theorem zmo:FOk Tryz.prog z7p:=by
 have e:zaf=λ_ ks vs=>if ks.Nodup∧ks.length=vs.length∧ks.length<=8388608∧(∀s∈ks,s.length<=8388608) then some (zzw ks,ks,vs) else none:=by funext n ks vs;simp only [zaf,y9y]
 unfold z7p;rw [e];exact yii (by kernel_rfl) (λ_ _=>Tryz.call43 _ _) Tryz.yis
def z4j:Nat->List kz0->Option (List kz0):=λ_ xs=>if xs.length<=8388608 then some xs else none
noncomputable def z1c:FI dat:=y5u dat 143 42 (.st 2) z4j
theorem zeo:FOk Tryz.prog z1c :=
 yhq (zz0 _) (bytes:=120) (by decide) (by decide) (λ_ _=>Tryz.call143 _ _) (λa n c cells w h1 h2 h3 h4 h5=>Tryz.yer a n c cells w h1 h2 h3 h4 h5) Tryz.ybb
def z55:Nat->List kz4->Int->Option (List kz4):=λ_ _ n=>if 0<=n∧n<=8388608 then some [] else none
noncomputable def z1m:FI dat:=y45 dat 133 83 (.st 3) (λn m=>z55 n [] m)
theorem zfs:FOk Tryz.prog z1m:=ydf (by decide) (λ_ _=>Tryz.call133 _ _) (λn w h=>Tryz.yhp n w h)
def z4s:Nat->List zz1->Int->Option (List zz1):=λ_ _ n=>if 0<=n∧n<=8388608 then some [] else none
noncomputable def z1n:FI dat:=y45 dat 135 34 (.st 7) (λn m=>z4s n [] m)
theorem zf9:FOk Tryz.prog z1n:=ydf (by decide) (λ_ _=>Tryz.call135 _ _) (λn w h=>Tryz.yht n w h)
def z67:Nat->List (List UInt8)->Option (List (List UInt8)):=λ_ xs=>if xs.length<=8388608 then some xs else none
noncomputable def z3d:FI dat:=yah dat 50 .str z67
theorem zhe:FOk Tryz.prog z3d :=
 yei (zz0 _) (ty:=9) (bytes:=16) (by decide) (by decide) (λ_ _=>Tryz.call50 _ _) (λa n c cells w h1 h2 h3 h4 h5=>Tryz.ygd a n c cells w h1 h2 h3 h4 h5) Tryz.ydl
def z4a:Nat->Int->Int->List zz1->Option (List zz1):=λ_ i j xs=>ydj xs i j
noncomputable def z18:FI dat:=ygc dat 58 34 7 (λn xs i j=>z4a n i j xs)
theorem zea:FOk Tryz.prog z18:=yjk (by decide) (λ_ _=>Tryz.call58 _ _) Tryz.yjf
noncomputable def zkt:FI dat :=
 {R:=Int,ent:=λn=>{f:=105,p:=0,args:=[.d .str],aos:=[],outs:=[.d (.int .i64)],ros:=[],pan:=.nilp,pos:=[],pure:=true,go:=λx k _=>(za5 n x.1).bind λr=>k (r,())},
   c:=.skip,K:=⟨λ_=>none,[],λ_=>none,λ_ _=>none⟩,p:=0,args:=[],aos:=[],nt:=0,z5h:=λ_=>[],go:=λ_ _=>none}
theorem zyv:FOk Tryz.prog zkt:=λn R x k kp r h=>by
 obtain ⟨y,hy,h⟩:=Qbv.1 (show (za5 n x.1).bind (λr=>k (r,()))=some r from h);refine ⟨(y,()),h,rfl,rfl,rfl,λlv vargs ha=>⟨[.int .i64 y],λρ lv' => ?_,?_⟩⟩
 ·show VRL dat ρ lv' [TV.int .i64 y] _;simp only [VRL,VR];exact ⟨_,_,rfl,rfl,rfl⟩
 ·have ha:VRL dat [] lv [TV.str x.1] vargs:=ha;simp only [VRL,VR] at ha;obtain ⟨v,r1,rfl,rfl,rfl⟩:=ha;exact zqx n x.1 y hy
def zbh:Nat->List UInt8->List UInt8->Option (List (List UInt8)):=λ_ s t=>if t=[47]∧s.length<=1048576 then some (parts 47 s) else none
noncomputable def zhq:FI dat :=
 {R:=List (List UInt8),ent:=λn=>{f:=26,p:=0,args:=[.d .str,.d .str],aos:=[],outs:=[.own 0],ros:=[.acc 9 .str true],pan:=.nilp,pos:=[],pure:=false,go:=λx k _=>(zbh n x.1 x.2.1).bind λr=>k (r,())},
   c:=.skip,K:=⟨λ_=>none,[],λ_=>none,λ_ _=>none⟩,p:=0,args:=[],aos:=[],nt:=0,z5h:=λ_=>[],go:=λ_ _=>none}
theorem zqp (b:UInt8):∀(k:Nat) (s:List UInt8),s.countP (· == b)=k->Lib.splitK [b] 0 k s=parts b s
 |0,s,h=>by
  have ha:s.any (· == b)=false:=by
   rw [List.any_eq_false];intro x hx;have:=List.countP_eq_zero.1 h x hx;simpa using this
  rw [parts_eq,ybc ha];rfl
 |k+1,s,h=>by
  have ha:s.any (· == b)=true:=by
   rw [List.any_eq_true];obtain ⟨x,hx,hp⟩:=List.countP_pos_iff.1 (show 0<s.countP (· == b) by omega);exact ⟨x,hx,hp⟩
  obtain ⟨c1,c2,c3⟩:=y6l ha;have hi:Lib.index s [b]=((s.takeWhile (· != b)).length:Int):=by rw [Lib.index_one,zwe,Qbp ha]
  have hn:¬(Lib.index s [b] == -1)=true:=λe=>by have:=Qbh.1 e;omega
  have hc:(cutAt b s).2.2=true:=ha;have hlen:=congrArg List.length (parts_eq b s);rw [Qbp hc,zem,List.length_cons,zem] at hlen;rw [Lib.splitK,Qbq hn,hi,Int.toNat_natCast,parts_eq,Qbp hc]
  congr 1
  · rw [List.length_singleton,c3];exact zqp b k _ (by show (cutAt b s).2.1.countP _=_;omega)
theorem y8c (s:ByteArray) (w:World) (hs:s.size<4294967281):Calls Tryz.prog 26 #[.string s,.string ⟨#[47]⟩] w λe w'=>
  ∃l:List ByteArray,l.map (·.data.toList)=parts 47 s.data.toList∧e = .returned (.slice (some ⟨w.heap.size,0,none⟩) l.length l.length)∧w'=w.alloc (.cells (l.map Value.string).toArray 9):=by
 have h1:1<=(⟨#[47]⟩:ByteArray).size:=by decide
 have hlen:=Lib.splitB_all ⟨#[47]⟩ h1 0 _ s rfl
 have c:=Any.strings_genSplit_core (ρ:=Tryz.zui) {Tryz.zrl with} (by kernel_rfl) s ⟨#[47]⟩ 0 (-1) (Lib.countB s ⟨#[47]⟩+1) w hs h1 (Qbn _)
  (λx c hx=>(Any.strings_Index_one {Tryz.zrl with} x 47 _).mono λe w' ⟨a1,a2⟩=>⟨by rw [a1];exact congrArg (λz=>Ending.returned (Value.int .i64 z)) (Lib.index_one _ _).symm,a2⟩)
  ((Any.strings_Count_one {Tryz.zrl with} s 47 w).mono λe w' ⟨a1,a2⟩=>⟨by
    rw [a1];show _=Ending.returned (Value.int .i64 ((Lib.count s.data.toList [47]:Nat):Int))
    rw [Lib.count_one];rfl,a2⟩) (by decide) (by decide) (by rw [Qbp (by decide)];have:=Lib.countB_le ⟨#[47]⟩ h1 s.size s (Qbo _);omega)
 rw [Nat.add_sub_cancel,hlen] at c;have e2:Lib.cellsOf (Lib.splitB ⟨#[47]⟩ 0 (Lib.countB s ⟨#[47]⟩) s) (Lib.countB s ⟨#[47]⟩+1)=((Lib.splitB ⟨#[47]⟩ 0 (Lib.countB s ⟨#[47]⟩) s).map Value.string).toArray:=by rw [<-hlen];exact Lib.cellsOf_full _
 rw [e2] at c
 have hp:(Lib.splitB ⟨#[47]⟩ 0 (Lib.countB s ⟨#[47]⟩) s).map (·.data.toList)=parts 47 s.data.toList:=by
  rw [Lib.splitB_data];refine zqp 47 _ _ ?_;show _=Lib.count s.data.toList [47];rw [Lib.count_one];rfl
 go_enter Tryz.func26,Tryz.ntmps26
 go_wp2_with (go_at_call 61;refine c.mono ?_;rintro e w' ⟨rfl,hw⟩;rw [hw])
 go_ret
 refine ⟨_,hp,?_,rfl⟩;rw [hlen];rfl
theorem yjn (xs:List (List UInt8)) (j:Nat) (y:List UInt8) (u:V) (hj:xs[j]? = some y) (hu:(xs.map V.str)[j]? = some u):DR dat .str y u:=by
 rw [Qal,hj] at hu;injection hu with hu;subst hu;exact .str _
theorem mk_data (s:List UInt8):(⟨s.toArray⟩:ByteArray).data.toList=s:=rfl
theorem zts:FOk Tryz.prog zhq:=λn R x k kp r h=>by
 obtain ⟨s,t,u⟩:=x;change List UInt8 at s;change List UInt8 at t;obtain ⟨y,hy,h⟩:=Qbv.1 (show (zbh n s t).bind (λr=>k (r,()))=some r from h);unfold zbh at hy;split at hy
 case isFalse=>cases hy
 rename_i hb;obtain ⟨rfl,hb⟩:=hb;injection hy with hy;subst hy;refine .inl ⟨(parts 47 s,()),h,λlv L E ρ0 vargs k1 k2 k3 k4 => ?_⟩;obtain rfl:ρ0=[]:=Qam k1;have k2:VRL dat [] lv [TV.str s,TV.str [47]] vargs:=k2;simp only [VRL,VR] at k2;obtain ⟨v,r1,rfl,rfl,v2,r2,rfl,rfl,rfl⟩:=k2
 have hlen:(parts 47 s).length<=1048577:=by
  rw [zem];have:=List.countP_le_length (p:=λx=>x==47) (l:=s);omega
 have hh:=zyp (P:=Tryz.prog) (f:=26) (vargs:=[V.str s,V.str [47]]) (lv:=lv) (L:=L) (E:=E) (ty:=9) (sz:=1) (ws:=(parts 47 s).map V.str) (by decide) (λj u hj=>by
   rw [Qal,Qae] at hj;obtain ⟨z,_,rfl⟩:=hj
   rfl) (λ_ _=>Tryz.call26 _ _) λW g cargs hG hA=>by
  obtain ⟨a,b,rfl,h0,h1⟩:=yfe hA;cases h0;cases h1;refine ⟨(parts 47 s).map λz=>Value.string ⟨z.toArray⟩,⟨by simp,λj x t v hj ht => ?_⟩,(y8c _ W (by simp only [ByteArray.size];simp;omega)).mono ?_⟩
  ·rw [Qal,Qae] at hj;obtain ⟨z,hz,rfl⟩:=hj
   cases t with
   |succ t=>simp [V.cells] at ht
   |zero=>
    simp [V.cells] at ht;subst ht;exact ⟨.string ⟨z.toArray⟩,by simp [hz],rfl,.str _⟩
  ·rintro e W' ⟨l,hl,rfl,rfl⟩
   rw [mk_data] at hl
   have hlm:l.map Value.string=(parts 47 s).map λz=>Value.string ⟨z.toArray⟩:=by
    rw [<-hl,List.map_map];exact List.map_congr_left λb _=>by simp
   have hll:l.length=(parts 47 s).length:=by rw [<-hl,Qaz]
   refine ⟨_,rfl,⟨by simp,.inr ⟨W.heap.size,l.length,_,by rw [Qaz,hll],Qbo _,z0c W _,by rw [Qaz,hll];exact Qbo _,by simp only [maxLen];omega,by simp,?_⟩⟩,(Below.refl _ W).alloc (Qbo _) _⟩;rw [<-hlm];simp [hll];rw [List.take_of_length_le (by simp [hll])]
 refine hh.mono λout H' ho => ?_
 obtain ⟨L',ρ',e1,e2,e3⟩:=zt5 (D:=dat) (τ:=.str) (xs:=parts 47 s) (ws:=(parts 47 s).map V.str) (Qaz _) (yjn (parts 47 s)) ho;exact ⟨L',ρ',e1,e2,(λq hq=>by cases hq),e3⟩
theorem yb5 (l:List ByteArray) (bk o c:Nat) (w:World) (hcells:∀(j:Nat) x,l[j]? = some x->w.cell? ⟨bk,o+j,none⟩=some (.string x)) (hN:l.length<=1048576) (hcap:l.length<=c)
  (hlen:(Lib.join (l.map (·.data.toList)) [47]).length<=16777216) (h0:l=[]∨bk<w.heap.size) :
  Calls Tryz.prog 28 #[.slice (some ⟨bk,o,none⟩) l.length c,.string ⟨#[47]⟩] w λe w'=>e = .returned (.string ⟨(Lib.join (l.map (·.data.toList)) [47]).toArray⟩)∧RowKit.Below w.heap.size w w':=by
 rcases h0 with rfl|hbk
 ·exact (Any.strings_Join_none Tryz.y5v Tryz.zf3 _ c ⟨#[47]⟩ w).mono λe w' ⟨he,hw⟩=>⟨he,hw▸RowKit.Below.refl _ _⟩
 ·exact Any.strings_Join Tryz.y5v Tryz.zf3 bk o c l ⟨#[47]⟩ w hcells hbk (by omega) hcap (by show (Lib.join (l.map (·.data.toList)) [47]).length<=_;omega)
theorem join_none (a:Option Addr) (c:Nat) (w:World):Calls Tryz.prog 28 #[.slice a 0 c,.string ⟨#[47]⟩] w λe w'=>e = .returned (.string ⟨([]:List UInt8).toArray⟩)∧w'=w :=
 (Any.strings_Join_none Tryz.y5v Tryz.zf3 a c ⟨#[47]⟩ w).mono λe w' ⟨he,hw⟩=>⟨he,hw⟩
def zdt:Nat->List (List UInt8)->List UInt8->Option (List UInt8):=λ_ xs t=>if t=[47]∧xs.length<=1048576∧(Lib.join xs [47]).length<=16777216 then some (Lib.join xs [47]) else none
noncomputable def ziz:FI dat :=
 {R:=List UInt8,ent:=λn=>{f:=28,p:=0,args:=[.d (.sl .str),.d .str],aos:=[],outs:=[.d .str],ros:=[],pan:=.nilp,pos:=[],pure:=true,go:=λx k _=>(zdt n x.1 x.2.1).bind λr=>k (r,())},
   c:=.skip,K:=⟨λ_=>none,[],λ_=>none,λ_ _=>none⟩,p:=0,args:=[],aos:=[],nt:=0,z5h:=λ_=>[],go:=λ_ _=>none}
theorem yiv (xs:List (List UInt8)) (hb1:xs.length<=1048576) (hb2:(Lib.join xs [47]).length<=16777216) {v:V} (hv:DR dat (.sl .str) xs v):zly Tryz.prog 28 [v,.str [47]] (.str (Lib.join xs [47])):=λH W g cargs hG hR=>by
 obtain ⟨x,y,rfl,h0,h1⟩:=yfe hR;cases h1;refine .inl ⟨Tryz.call28 _ _,?_⟩
 have nil:∀a c,xs=[]->Calls Tryz.prog 28 #[.slice a 0 c,.string ⟨#[47]⟩] W λe W'=>∃c g',e = .returned c∧Step W g H W' g' H∧Go.Ab.Good W' g' H∧Rel W' g' H (.str (Lib.join xs [47])) c:=λa c he=>(join_none a c W).mono λe w' ⟨he',hw⟩=>by
  subst he;subst hw;exact ⟨_,g,he',.refl _ _ _,hG,.str _⟩
 cases hv with
 |nil=>cases h0;exact nil none 0 rfl
 |sl _ _ ws full hl hd=>
  have hws:ws=xs.map V.str:=by
   refine List.ext_getElem? λj => ?_
   rw [Qal]
   cases hj:xs[j]? with
   |none=>have:=List.getElem?_eq_none_iff.1 hj;simp only [Option.map_none];exact Qbw (by rw [hl];exact this)
   |some z=>
    have hlt:=(Qaa.1 hj).1;obtain ⟨w,hw⟩:∃w,ws[j]? = some w:=⟨_,Qab (by rw [hl];exact hlt)⟩;have:=hd j z w hj hw;rw [hw];cases this;rfl
  subst hws;generalize hxs:xs.map V.str=ys at h0
  cases h0 with
  |slnil=>exact nil none 0 (by simpa using hxs)
  |sle _ _ a cap hf=>exact nil _ _ (by simpa using hxs)
  |sl _ _ _ b o cap c hb' hz hcap hf hs hc ho1 hr=>
   subst hxs
   have hcell:∀(j:Nat) (s:List UInt8),xs[j]? = some s->W.cell? ⟨b,o+j,none⟩=some (.string ⟨s.toArray⟩):=λj s hj=>by
    have e1:(xs.map V.str)[j]? = some (.str s):=by rw [Qal,hj];rfl
    have e2:=hc j (.str s) 0 (.str s) e1 rfl;have e3:=hr j (.str s) 0 (.str s) e1 rfl;have e2:W.cell? ⟨b,o+j * 1+0,none⟩=some (c j 0):=e2;rw [Nat.mul_one,Nat.add_zero] at e2;rw [e2];cases hz:c j 0 <;> rw [hz] at e3 <;> cases e3
    rfl
   have hlm:(xs.map λs=>(⟨s.toArray⟩:ByteArray)).map (·.data.toList)=xs:=by rw [List.map_map];exact (List.map_congr_left λs _=>mk_data s).trans (List.map_id _)
   have:=yb5 (xs.map λs=>⟨s.toArray⟩) b o cap W (λj x hj=>by
    rw [Qal,Qae] at hj;obtain ⟨s,hs,rfl⟩:=hj
    exact hcell j s hs) (by simpa using hb1) (by simpa using hcap) (by rw [hlm];exact hb2) (by
    cases xs with
    |nil=>exact .inl rfl
    |cons s t=>exact .inr (y4v (hcell 0 s rfl)))
   rw [hlm,Qaz] at this;rw [Qaz];refine this.mono ?_
   rintro e W' ⟨rfl,hB⟩
   have hg:Grow W W':=⟨hB.os,hB.tape,hB.output,hB.size,hB.block⟩;exact ⟨_,g,rfl,hg.step,hG.grow hg,.str _⟩
theorem zvh:FOk Tryz.prog ziz:=λn R x k kp r h=>by
 obtain ⟨xs,t,u⟩:=x;change List (List UInt8) at xs;change List UInt8 at t;obtain ⟨y,hy,h⟩:=Qbv.1 (show (zdt n xs t).bind (λr=>k (r,()))=some r from h);unfold zdt at hy;split at hy
 case isFalse=>cases hy
 rename_i hb;obtain ⟨rfl,hb1,hb2⟩:=hb;injection hy with hy;subst hy;refine ⟨(_,()),h,rfl,rfl,rfl,λlv vargs ha=>⟨[.str (Lib.join xs [47])],λρ lv' => ?_,?_⟩⟩
 ·show VRL dat ρ lv' [TV.str (Lib.join xs [47])] _;simp only [VRL,VR];exact ⟨_,_,rfl,rfl,rfl⟩
 ·have ha:VRL dat [] lv [TV.sl .str xs 0,TV.str [47]] vargs:=ha;simp only [VRL,VR] at ha;obtain ⟨v,r1,rfl,⟨hv,_,_⟩,v2,r2,rfl,rfl,rfl⟩:=ha;exact yiv xs hb1 hb2 hv
end Go.Proofs.YthlmhmebajjkbaaGreatDoor
namespace Go.Proofs.YthlmhmebajjkbaaGreatDoor
open Go Go.Ab
set_option linter.unusedVariables false
set_option maxRecDepth 100000
set_option maxHeartbeats 4000000
def z1h:Nat->Option kz0
 |0=>none
 |n+1=>
  some (kz0.mk 1 (yz0.mk 2 (yz2.mk 0 0) true [] []) [] [])
def zm3:LSh:=⟨[(0,(.ptr 0 0))],[(.st 2)],0,3,[]⟩
noncomputable def kzm:FI dat:=FI.of dat 9 3 0 [] [] [(.d (.st 2))] [] true zm3 (R:=kz0) (λx=>x.1) (λr=>(r,())) (λn x=>z1h n)
 (λn=>[]) (ann [] (Tryz.f9.body.getD .skip) 0).1
noncomputable def zm4:List (FI dat):=[]
theorem zm5:(kzm).Good Tryz.prog dat (tb zm4):=FI.zz2 (hD:=zz0 _) Tryz.func9 Tryz.ntmps9 Tryz.call9 (by kernel_rfl) (Qac (by kernel_rfl)) (by kernel_rfl) (λn=>by kernel_rfl) (λx=>by kernel_rfl) (λ_=>rfl) trivial
 (λn=>λx=>(z1h.eq_2 n).trans (by kernel_rfl))
 (λn=>trivial)
 (λx=>.inl rfl)
theorem zm7:OkL Tryz.prog [kzm]:=zz3 (zz0 _) (bs:=[]) trivial zm5
theorem z6q:FOk Tryz.prog kzm:=zm7.1
mutual
def zzt:Nat->(List UInt8)->(List (List UInt8))->Option zz1
 |0,_,_=>none
 |n+1,a0,a1=>
  (z1h n).bind λy0=>
  z2b n 0 a1 a0 1 y0.op y0.value.kind y0.value.num.num y0.value.num.den y0.value.truth y0.value.str y0.value.list y0.name y0.args (zz1.mk [] [] []) []
def z2b:Nat->Int->(List (List UInt8))->(List UInt8)->Int->Int->Int->Int->Int->Bool->(List UInt8)->(List yz0)->(List UInt8)->(List kz0)->zz1->(List yz3)->Option zz1
 |0,_,_,_,_,_,_,_,_,_,_,_,_,_,_,_=>none
 |n+1,a0,a1,a2,a3,a4,a5,a6,a7,a8,a9,a10,a11,a12,a13,a14=>
  pIf (decide (a0<(a1.length:Int)))
   ((ix a1 a0).bind λx1=>
   (ext a14 [(yz3.mk 1 0 x1 [] [])]).bind λx2=>
   z2b n (IntKind.i64.wrap (a0+1)) a1 a2 a3 a4 a5 a6 a7 a8 a9 a10 a11 a12 a13 x2)
   (some (zz1.mk a2 [] [(kz9.mk a3 (kz0.mk a4 (yz0.mk a5 (yz2.mk a6 a7) a8 a9 a10) a11 a12) a14)]))
end
def znf:LSh:=⟨[(4,(.ptr 0 0))],[(.st 7)],0,29,[]⟩
noncomputable def z0a:FI dat:=FI.of dat 8 29 0 [(.d .str),(.d (.sl .str))] [] [(.d (.st 7))] [] true znf (R:=zz1) (λx=>x.1) (λr=>(r,())) (λn x=>zzt n x.1 x.2.1)
 (λn=>[(0,⟨⟨[(6,(.d (.int .i64))),(5,(.ptr 0 0)),(1,(.d (.sl .str))),(4,(.ptr 1 0)),(0,(.d .str))],[(.cells [(.d (.int .i64)),(.d (.int .u8)),(.d (.int .u8)),(.d (.int .i64)),(.d (.int .i64)),(.d .bool),(.d .str),(.d (.sl (.st 1))),(.d .str),(.d (.sl (.st 2))),(.own 2)]),(.st 7),(.acc 71 (.st 5) true)],0,29,[]⟩,λx=>z2b n x.1 x.2.1 x.2.2.1 x.2.2.2.1 x.2.2.2.2.1 x.2.2.2.2.2.1 x.2.2.2.2.2.2.1 x.2.2.2.2.2.2.2.1 x.2.2.2.2.2.2.2.2.1 x.2.2.2.2.2.2.2.2.2.1 x.2.2.2.2.2.2.2.2.2.2.1 x.2.2.2.2.2.2.2.2.2.2.2.1 x.2.2.2.2.2.2.2.2.2.2.2.2.1 x.2.2.2.2.2.2.2.2.2.2.2.2.2.1 x.2.2.2.2.2.2.2.2.2.2.2.2.2.2.1⟩)]) (ann [(8,0)] (Tryz.f8.body.getD .skip) 0).1
noncomputable def zna:List (FI dat):=[kzm]
theorem zmr:(z0a).Good Tryz.prog dat (tb zna):=FI.zz2 (hD:=zz0 _) Tryz.func8 Tryz.ntmps8 Tryz.call8 (by kernel_rfl) (Qac (by kernel_rfl)) (by kernel_rfl) (λn=>by kernel_rfl) (λx=>by kernel_rfl) (λ_=>rfl) ⟨λ_=>rfl,trivial⟩
 (λn=>λx=>(zzt.eq_2 _ _ n).trans (by kernel_rfl))
 (λn=>⟨λx=>(z2b.eq_2 _ _ _ _ _ _ _ _ _ _ _ _ _ _ _ n).trans (by kernel_rfl),
  trivial⟩)
 (λx=>.inl rfl)
theorem zne:OkL Tryz.prog [z0a]:=zz3 (zz0 _) (bs:=[kzm]) ⟨z6q,trivial⟩ zmr
theorem zgh:FOk Tryz.prog z0a:=zne.1
mutual
def zzg:Nat->Int->Option yz1
 |0,_=>none
 |n+1,a0=>
  z29 n 0 a0 [99] [] (yz1.mk [] []) []
def z29:Nat->Int->Int->(List UInt8)->(List (List UInt8))->yz1->(List kz9)->Option yz1
 |0,_,_,_,_,_,_=>none
 |n+1,a0,a1,a2,a3,a4,a5=>
  pIf (decide (a0<a1))
   ((z1h n).bind λy0=>
   (ext a5 [(kz9.mk 1 y0.re [])]).bind λx1=>
   z29 n (IntKind.i64.wrap (a0+1)) a1 a2 a3 a4 x1)
   ((zzt n [97] [[98]]).bind λy2=>
   (zzt n [98] [[99]]).bind λy3=>
   (zzt n [100] []).bind λy4=>
   some (yz1.mk [] [y2,y3,(zz1.mk a2 a3 a5),y4]))
end
def zn0:LSh:=⟨[(2,(.ptr 0 0))],[(.st 8)],0,26,[]⟩
noncomputable def z08:FI dat:=FI.of dat 6 26 0 [(.d (.int .i64))] [] [(.d (.st 8))] [] true zn0 (R:=yz1) (λx=>x.1) (λr=>(r,())) (λn x=>zzg n x.1)
 (λn=>[(0,⟨⟨[(4,(.d (.int .i64))),(3,(.ptr 0 0)),(2,(.ptr 1 0)),(0,(.d (.int .i64)))],[(.cells [(.d .str),(.d (.sl .str)),(.own 2)]),(.st 8),(.acc 64 (.st 6) true)],0,26,[]⟩,λx=>z29 n x.1 x.2.1 x.2.2.1 x.2.2.2.1 x.2.2.2.2.1 x.2.2.2.2.2.1⟩)]) (ann [(8,0)] (Tryz.f6.body.getD .skip) 0).1
noncomputable def znd:List (FI dat):=[kzm,z0a]
theorem zmu:(z08).Good Tryz.prog dat (tb znd):=FI.zz2 (hD:=zz0 _) Tryz.func6 Tryz.ntmps6 Tryz.call6 (by kernel_rfl) (Qac (by kernel_rfl)) (by kernel_rfl) (λn=>by kernel_rfl) (λx=>by kernel_rfl) (λ_=>rfl) ⟨λ_=>rfl,trivial⟩
 (λn=>λx=>(zzg.eq_2 _ n).trans (by kernel_rfl))
 (λn=>⟨λx=>(z29.eq_2 _ _ _ _ _ _ n).trans (by kernel_rfl),
  trivial⟩)
 (λx=>.inl rfl)
theorem zmp:OkL Tryz.prog [z08]:=zz3 (zz0 _) (bs:=[kzm,z0a]) ⟨z6q,zgh,trivial⟩ zmu
theorem zgg:FOk Tryz.prog z08:=zmp.1
def zht:Nat->yz3->Option Bool
 |0,_=>none
 |n+1,a0=>
  some (decide ((a0.items.length:Int)>10))
def zy0:LSh:=⟨[(2,(.d .bool))],[],0,7,[]⟩
noncomputable def za4:FI dat:=FI.of dat 76 7 0 [(.d (.st 5))] [] [(.d .bool)] [] true zy0 (R:=Bool) (λx=>x.1) (λr=>(r,())) (λn x=>zht n x.1)
 (λn=>[]) (ann [] (Tryz.f76.body.getD .skip) 0).1
noncomputable def zwk:List (FI dat):=[]
theorem zx6:(za4).Good Tryz.prog dat (tb zwk):=FI.zz2 (hD:=zz0 _) Tryz.func76 Tryz.ntmps76 Tryz.call76 (by kernel_rfl) (Qac (by kernel_rfl)) (by kernel_rfl) (λn=>by kernel_rfl) (λx=>by kernel_rfl) (λ_=>rfl) trivial
 (λn=>λx=>(zht.eq_2 _ n).trans (by kernel_rfl))
 (λn=>trivial)
 (λx=>.inl rfl)
theorem zy2:OkL Tryz.prog [za4]:=zz3 (zz0 _) (bs:=[]) trivial zx6
theorem zva:FOk Tryz.prog za4:=zy2.1
mutual
def yzx:Nat->(List yz3)->Option Int
 |0,_=>none
 |n+1,a0=>
  kzf n 0 a0 (a0.length:Int)
def kzf:Nat->Int->(List yz3)->Int->Option Int
 |0,_,_,_=>none
 |n+1,a0,a1,a2=>
  pIf (decide (a0<a2))
   ((ix a1 a0).bind λx0=>
   (zht n x0).bind λy1=>
   pIf y1
    (some a0)
    (kzf n (IntKind.i64.wrap (a0+1)) a1 a2))
   (some (-1))
end
def z7u:LSh:=⟨[(4,(.d (.int .i64)))],[],0,19,[]⟩
noncomputable def yzb:FI dat:=FI.of dat 126 19 0 [(.d (.sl (.st 5))),(.fn 76 [] [])] [] [(.d (.int .i64))] [] true z7u (R:=Int) (λx=>x.1) (λr=>(r,())) (λn x=>yzx n x.1)
 (λn=>[(0,⟨⟨[(8,(.d (.int .i64))),(0,(.d (.sl (.st 5)))),(1,(.fn 76 [] [])),(7,(.d (.int .i64)))],[],0,19,[]⟩,λx=>kzf n x.1 x.2.1 x.2.2.1⟩)]) (ann [(6,0)] (Tryz.f126.body.getD .skip) 0).1
noncomputable def z7w:List (FI dat):=[za4]
theorem z7q:(yzb).Good Tryz.prog dat (tb z7w):=FI.zz2 (hD:=zz0 _) Tryz.func126 Tryz.ntmps126 Tryz.call126 (by kernel_rfl) (Qac (by kernel_rfl)) (by kernel_rfl) (λn=>by kernel_rfl) (λx=>by kernel_rfl) (λ_=>rfl) ⟨λ_=>rfl,trivial⟩
 (λn=>λx=>(yzx.eq_2 _ n).trans (by kernel_rfl))
 (λn=>⟨λx=>(kzf.eq_2 _ _ _ n).trans (by kernel_rfl),
  trivial⟩)
 (λx=>.inl rfl)
theorem z7y:OkL Tryz.prog [yzb]:=zz3 (zz0 _) (bs:=[za4]) ⟨zva,trivial⟩ z7q
theorem z7k:FOk Tryz.prog yzb:=z7y.1
def kzu:Nat->(List yz3)->Option Bool
 |0,_=>none
 |n+1,a0=>
  (yzx n a0).bind λy0=>
  some (decide (y0>=0))
def z62:LSh:=⟨[(4,(.d .bool))],[],0,9,[]⟩
noncomputable def yza:FI dat:=FI.of dat 75 9 0 [(.d (.sl (.st 5))),(.fn 76 [] [])] [] [(.d .bool)] [] true z62 (R:=Bool) (λx=>x.1) (λr=>(r,())) (λn x=>kzu n x.1)
 (λn=>[]) (ann [] (Tryz.f75.body.getD .skip) 0).1
noncomputable def z63:List (FI dat):=[yzb]
theorem z65:(yza).Good Tryz.prog dat (tb z63):=FI.zz2 (hD:=zz0 _) Tryz.func75 Tryz.ntmps75 Tryz.call75 (by kernel_rfl) (Qac (by kernel_rfl)) (by kernel_rfl) (λn=>by kernel_rfl) (λx=>by kernel_rfl) (λ_=>rfl) trivial
 (λn=>λx=>(kzu.eq_2 _ n).trans (by kernel_rfl))
 (λn=>trivial)
 (λx=>.inl rfl)
theorem z64:OkL Tryz.prog [yza]:=zz3 (zz0 _) (bs:=[yzb]) ⟨z7k,trivial⟩ z65
theorem z5w:FOk Tryz.prog yza:=z64.1
mutual
def zka:Nat->yz1->Option Bool
 |0,_=>none
 |n+1,a0=>
  pIf (decide ((a0.attrs.length:Int)>20))
   (zby n true a0)
   (zby n (decide ((a0.rules.length:Int)>40)) a0)
def zby:Nat->Bool->yz1->Option Bool
 |0,_,_=>none
 |n+1,a0,a1=>
  pIf a0
   (some true)
   (zaq n 0 a1.rules (a1.rules.length:Int))
def zaq:Nat->Int->(List zz1)->Int->Option Bool
 |0,_,_,_=>none
 |n+1,a0,a1,a2=>
  pIf (decide (a0<a2))
   ((ix a1 a0).bind λx0=>
   pIf (decide ((x0.params.length:Int)>4))
    (zbf n a1 a2 a0 true x0)
    (zbf n a1 a2 a0 (decide ((x0.cases.length:Int)>6)) x0))
   (some false)
def zbf:Nat->(List zz1)->Int->Int->Bool->zz1->Option Bool
 |0,_,_,_,_,_=>none
 |n+1,a0,a1,a2,a3,a4=>
  pIf a3
   (some true)
   (zbi n 0 a4.cases a0 a1 a2 (a4.cases.length:Int))
def zbi:Nat->Int->(List kz9)->(List zz1)->Int->Int->Int->Option Bool
 |0,_,_,_,_,_,_=>none
 |n+1,a0,a1,a2,a3,a4,a5=>
  pIf (decide (a0<a5))
   ((ix a1 a0).bind λx1=>
   pIf (decide ((x1.do_.length:Int)>10))
    (zau n a1 a2 a3 a4 a5 a0 true)
    ((kzu n x1.do_).bind λy2=>
    zau n a1 a2 a3 a4 a5 a0 y2))
   (zaq n (IntKind.i64.wrap (a4+1)) a2 a3)
def zau:Nat->(List kz9)->(List zz1)->Int->Int->Int->Int->Bool->Option Bool
 |0,_,_,_,_,_,_,_=>none
 |n+1,a0,a1,a2,a3,a4,a5,a6=>
  pIf a6
   (some true)
   (zbi n (IntKind.i64.wrap (a5+1)) a0 a1 a2 a3 a4)
end
def y63:LSh:=⟨[(2,(.d .bool))],[],0,52,[]⟩
noncomputable def zg6:FI dat:=FI.of dat 34 52 0 [(.d (.st 8))] [] [(.d .bool)] [] true y63 (R:=Bool) (λx=>x.1) (λr=>(r,())) (λn x=>zka n x.1)
 (λn=>[(0,⟨⟨[(1,(.ptr 0 0)),(16,(.d .bool))],[(.st 8)],0,52,[]⟩,λx=>zby n x.1 x.2.1⟩),(1,⟨⟨[(20,(.d (.int .i64))),(18,(.d (.sl (.st 7)))),(19,(.d (.int .i64)))],[],0,52,[]⟩,λx=>zaq n x.1 x.2.1 x.2.2.1⟩),(2,⟨⟨[(18,(.d (.sl (.st 7)))),(19,(.d (.int .i64))),(20,(.d (.int .i64))),(4,(.ptr 0 0)),(33,(.d .bool))],[(.st 7)],0,52,[]⟩,λx=>zbf n x.1 x.2.1 x.2.2.1 x.2.2.2.1 x.2.2.2.2.1⟩),(3,⟨⟨[(37,(.d (.int .i64))),(35,(.d (.sl (.st 6)))),(18,(.d (.sl (.st 7)))),(19,(.d (.int .i64))),(20,(.d (.int .i64))),(36,(.d (.int .i64)))],[],0,52,[]⟩,λx=>zbi n x.1 x.2.1 x.2.2.1 x.2.2.2.1 x.2.2.2.2.1 x.2.2.2.2.2.1⟩),(4,⟨⟨[(35,(.d (.sl (.st 6)))),(18,(.d (.sl (.st 7)))),(19,(.d (.int .i64))),(20,(.d (.int .i64))),(36,(.d (.int .i64))),(37,(.d (.int .i64))),(49,(.d .bool))],[],0,52,[]⟩,λx=>zau n x.1 x.2.1 x.2.2.1 x.2.2.2.1 x.2.2.2.2.1 x.2.2.2.2.2.1 x.2.2.2.2.2.2.1⟩)]) (ann [(5,0),(14,1),(28,2),(36,3),(49,4)] (Tryz.f34.body.getD .skip) 0).1
noncomputable def y80:List (FI dat):=[yza]
theorem y4e:(zg6).Good Tryz.prog dat (tb y80):=FI.zz2 (hD:=zz0 _) Tryz.func34 Tryz.ntmps34 Tryz.call34 (by kernel_rfl) (Qac (by kernel_rfl)) (by kernel_rfl) (λn=>by kernel_rfl) (λx=>by kernel_rfl) (λ_=>rfl) ⟨λ_=>rfl,λ_=>rfl,λ_=>rfl,λ_=>rfl,λ_=>rfl,trivial⟩
 (λn=>λx=>(zka.eq_2 _ n).trans (by kernel_rfl))
 (λn=>⟨λx=>(zby.eq_2 _ _ n).trans (by kernel_rfl),
  λx=>(zaq.eq_2 _ _ _ n).trans (by kernel_rfl),
  λx=>(zbf.eq_2 _ _ _ _ _ n).trans (by kernel_rfl),
  λx=>(zbi.eq_2 _ _ _ _ _ _ n).trans (by kernel_rfl),
  λx=>(zau.eq_2 _ _ _ _ _ _ _ n).trans (by kernel_rfl),
  trivial⟩)
 (λx=>.inl rfl)
theorem y4o:OkL Tryz.prog [zg6]:=zz3 (zz0 _) (bs:=[yza]) ⟨z5w,trivial⟩ y4e
theorem y2b:FOk Tryz.prog zg6:=y4o.1
mutual
def z0q:Nat->(List (List UInt8))->(List UInt8)->Option Int
 |0,_,_=>none
 |n+1,a0,a1=>
  z01 n 0 a0 a1 (a0.length:Int)
def z01:Nat->Int->(List (List UInt8))->(List UInt8)->Int->Option Int
 |0,_,_,_,_=>none
 |n+1,a0,a1,a2,a3=>
  pIf (decide (a0<a3))
   ((ix a1 a0).bind λx0=>
   pIf (a2==x0)
    (some a0)
    (z01 n (IntKind.i64.wrap (a0+1)) a1 a2 a3))
   (some (-1))
end
def zhy:LSh:=⟨[(4,(.d (.int .i64)))],[],0,19,[]⟩
noncomputable def kzg:FI dat:=FI.of dat 37 19 0 [(.d (.sl .str)),(.d .str)] [] [(.d (.int .i64))] [] true zhy (R:=Int) (λx=>x.1) (λr=>(r,())) (λn x=>z0q n x.1 x.2.1)
 (λn=>[(0,⟨⟨[(8,(.d (.int .i64))),(0,(.d (.sl .str))),(1,(.d .str)),(7,(.d (.int .i64)))],[],0,19,[]⟩,λx=>z01 n x.1 x.2.1 x.2.2.1 x.2.2.2.1⟩)]) (ann [(6,0)] (Tryz.f37.body.getD .skip) 0).1
noncomputable def zhx:List (FI dat):=[]
theorem zi5:(kzg).Good Tryz.prog dat (tb zhx):=FI.zz2 (hD:=zz0 _) Tryz.func37 Tryz.ntmps37 Tryz.call37 (by kernel_rfl) (Qac (by kernel_rfl)) (by kernel_rfl) (λn=>by kernel_rfl) (λx=>by kernel_rfl) (λ_=>rfl) ⟨λ_=>rfl,trivial⟩
 (λn=>λx=>(z0q.eq_2 _ _ n).trans (by kernel_rfl))
 (λn=>⟨λx=>(z01.eq_2 _ _ _ _ n).trans (by kernel_rfl),
  trivial⟩)
 (λx=>.inl rfl)
theorem zhu:OkL Tryz.prog [kzg]:=zz3 (zz0 _) (bs:=[]) trivial zi5
theorem z68:FOk Tryz.prog kzg:=zhu.1
def z1j:Nat->(List (List UInt8))->(List UInt8)->Option Bool
 |0,_,_=>none
 |n+1,a0,a1=>
  (z0q n a0 a1).bind λy0=>
  some (decide (y0>=0))
def zgf:LSh:=⟨[(4,(.d .bool))],[],0,9,[]⟩
noncomputable def yzs:FI dat:=FI.of dat 127 9 0 [(.d (.sl .str)),(.d .str)] [] [(.d .bool)] [] true zgf (R:=Bool) (λx=>x.1) (λr=>(r,())) (λn x=>z1j n x.1 x.2.1)
 (λn=>[]) (ann [] (Tryz.f127.body.getD .skip) 0).1
noncomputable def zg9:List (FI dat):=[kzg]
theorem zga:(yzs).Good Tryz.prog dat (tb zg9):=FI.zz2 (hD:=zz0 _) Tryz.func127 Tryz.ntmps127 Tryz.call127 (by kernel_rfl) (Qac (by kernel_rfl)) (by kernel_rfl) (λn=>by kernel_rfl) (λx=>by kernel_rfl) (λ_=>rfl) trivial
 (λn=>λx=>(z1j.eq_2 _ _ n).trans (by kernel_rfl))
 (λn=>trivial)
 (λx=>.inl rfl)
theorem zgb:OkL Tryz.prog [yzs]:=zz3 (zz0 _) (bs:=[kzg]) ⟨z68,trivial⟩ zga
theorem zf2:FOk Tryz.prog yzs:=zgb.1
end Go.Proofs.YthlmhmebajjkbaaGreatDoor
