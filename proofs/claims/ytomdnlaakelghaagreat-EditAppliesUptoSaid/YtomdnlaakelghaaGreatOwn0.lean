/-
  THE GO STRUCTS AS LEAN STRUCTURES, by a program of this repo (types.py).
-/
import Derived.Test.YtomdnlaakelghaaGreatLib2
import Derived.Test.YtomdnlaakelghaaGreatLib3
import Derived.Test.YtomdnlaakelghaaGreatLib7
import Derived.Shelf.Sort.Plain
import Derived.Shelf.Slices.In.SortNone
import Derived.Test.YtomdnlaakelghaaGreatProg
import Derived.Test.YtomdnlaakelghaaGreatLib8
import Derived.Shelf.RegionOpenPlain
import Derived.WalkKit
import Derived.Deep.LoopGhost
import Derived.Lib.Walk
import Derived.Lib.SliceRun
import Derived.Deep.RegionLaw
import Derived.KernelRfl
namespace Go.Ab
open Go
set_option linter.unusedVariables false
set_option linter.unusedSimpArgs false
structure kz6 where
 num:Int
 den:Int
def kz6.el (x:kz6):V:=.agg [.int .i64 x.num,.int .i64 x.den]
def kz6.size (x:kz6):Nat:=1+1+1
def kz6.wf (x:kz6):Prop:=(IntKind.i64.min<=x.num∧x.num<=IntKind.i64.max)∧(IntKind.i64.min<=x.den∧x.den<=IntKind.i64.max)
theorem kz6.kz5 (x:kz6):x.el = .agg [.int .i64 x.num,.int .i64 x.den]:=by rw [kz6.el]
theorem kz6.size_eq (x:kz6):x.size=1+1+1:=by rw [kz6.size]
theorem kz6.z04 (x:kz6):x.wf=((IntKind.i64.min<=x.num∧x.num<=IntKind.i64.max)∧(IntKind.i64.min<=x.den∧x.den<=IntKind.i64.max)):=by rw [kz6.wf]
theorem kz6.kzz (x:kz6):x.el.cells.length=2:=by rw [kz6.kz5];rfl
theorem kz6.zks (x:kz6):x.el = .agg x.el.cells:=by rw [kz6.kz5];rfl
theorem kz6.kin {D:Nat->Nat->Prop} (x:kz6):V.kin D x.el:=by rw [kz6.kz5];simp only [V.kin,V.zc3,and_true,true_and]
def kz6.ty:Ty kz6:=⟨kz6.el,2,kz6.size,kz6.wf,kz6.kzz⟩
structure kz1 where
 kind:Int
 num:kz6
 truth:Bool
 str:List UInt8
 list:List kz1
theorem kz1.y0l {x y:kz1} (h:y∈x.list):SizeOf.sizeOf y<SizeOf.sizeOf x:=by cases x;have:=List.sizeOf_lt_of_mem h;simp at this ⊢;omega
def kz1.el (x:kz1):V:=.agg [.int .u8 x.kind,.int .i64 x.num.num,.int .i64 x.num.den,.bool x.truth,.str x.str,.sl 6 (x.list.map kz1.el) false]
 termination_by x
 decreasing_by all_goals first|exact kz1.y0l ‹_›
def kz1.size (x:kz1):Nat:=1+x.num.size+1+(x.str.length+1)+((x.list.map kz1.size).sum+1)+1
 termination_by x
 decreasing_by all_goals first|exact kz1.y0l ‹_›
def kz1.wf (x:kz1):Prop:=(IntKind.u8.min<=x.kind∧x.kind<=IntKind.u8.max)∧x.num.wf∧True∧True∧(∀y∈x.list,y.wf)
 termination_by x
 decreasing_by all_goals first|exact kz1.y0l ‹_›
theorem kz1.kz5 (x:kz1):x.el = .agg [.int .u8 x.kind,.int .i64 x.num.num,.int .i64 x.num.den,.bool x.truth,.str x.str,.sl 6 (x.list.map kz1.el) false]:=by rw [kz1.el]
theorem kz1.size_eq (x:kz1):x.size=1+x.num.size+1+(x.str.length+1)+((x.list.map kz1.size).sum+1)+1:=by rw [kz1.size]
theorem kz1.z04 (x:kz1):x.wf=((IntKind.u8.min<=x.kind∧x.kind<=IntKind.u8.max)∧x.num.wf∧True∧True∧(∀y∈x.list,y.wf)):=by rw [kz1.wf]
theorem kz1.kzz (x:kz1):x.el.cells.length=6:=by rw [kz1.kz5];rfl
theorem kz1.zks (x:kz1):x.el = .agg x.el.cells:=by rw [kz1.kz5];rfl
theorem kz1.kin {D:Nat->Nat->Prop} (x:kz1):V.kin D x.el:=by rw [kz1.kz5];simp only [V.kin,V.zc3,and_true,true_and];exact z47 λy hy=>kz1.kin y
 termination_by x
 decreasing_by all_goals first|exact kz1.y0l ‹_›
def kz1.ty:Ty kz1:=⟨kz1.el,6,kz1.size,kz1.wf,kz1.kzz⟩
structure yz1 where
 op:Int
 value:kz1
 name:List UInt8
 args:List yz1
theorem yz1.zxw {x y:yz1} (h:y∈x.args):SizeOf.sizeOf y<SizeOf.sizeOf x:=by cases x;have:=List.sizeOf_lt_of_mem h;simp at this ⊢;omega
def yz1.el (x:yz1):V:=.agg [.int .u8 x.op,.int .u8 x.value.kind,.int .i64 x.value.num.num,.int .i64 x.value.num.den,.bool x.value.truth,.str x.value.str,.sl 6 (x.value.list.map kz1.el) false,.str x.name,.sl 9 (x.args.map yz1.el) false]
 termination_by x
 decreasing_by all_goals first|exact yz1.zxw ‹_›
def yz1.size (x:yz1):Nat:=1+x.value.size+(x.name.length+1)+((x.args.map yz1.size).sum+1)+1
 termination_by x
 decreasing_by all_goals first|exact yz1.zxw ‹_›
def yz1.wf (x:yz1):Prop:=(IntKind.u8.min<=x.op∧x.op<=IntKind.u8.max)∧x.value.wf∧True∧(∀y∈x.args,y.wf)
 termination_by x
 decreasing_by all_goals first|exact yz1.zxw ‹_›
theorem yz1.kz5 (x:yz1):x.el = .agg [.int .u8 x.op,.int .u8 x.value.kind,.int .i64 x.value.num.num,.int .i64 x.value.num.den,.bool x.value.truth,.str x.value.str,.sl 6 (x.value.list.map kz1.el) false,.str x.name,.sl 9 (x.args.map yz1.el) false]:=by rw [yz1.el]
theorem yz1.size_eq (x:yz1):x.size=1+x.value.size+(x.name.length+1)+((x.args.map yz1.size).sum+1)+1:=by rw [yz1.size]
theorem yz1.z04 (x:yz1):x.wf=((IntKind.u8.min<=x.op∧x.op<=IntKind.u8.max)∧x.value.wf∧True∧(∀y∈x.args,y.wf)):=by rw [yz1.wf]
theorem yz1.kzz (x:yz1):x.el.cells.length=9:=by rw [yz1.kz5];rfl
theorem yz1.zks (x:yz1):x.el = .agg x.el.cells:=by rw [yz1.kz5];rfl
theorem yz1.kin {D:Nat->Nat->Prop} (x:yz1):V.kin D x.el:=by rw [yz1.kz5];simp only [V.kin,V.zc3,and_true,true_and];exact ⟨z47 λy hy=>kz1.kin y,z47 λy hy=>yz1.kin y⟩
 termination_by x
 decreasing_by all_goals first|exact yz1.zxw ‹_›
def yz1.ty:Ty yz1:=⟨yz1.el,9,yz1.size,yz1.wf,yz1.kzz⟩
structure yz5 where
 name:List UInt8
 value:yz1
def yz5.el (x:yz5):V:=.agg [.str x.name,.int .u8 x.value.op,.int .u8 x.value.value.kind,.int .i64 x.value.value.num.num,.int .i64 x.value.value.num.den,.bool x.value.value.truth,.str x.value.value.str,.sl 6 (x.value.value.list.map kz1.el) false,.str x.value.name,.sl 9 (x.value.args.map yz1.el) false]
def yz5.size (x:yz5):Nat:=(x.name.length+1)+x.value.size+1
def yz5.wf (x:yz5):Prop:=True∧x.value.wf
theorem yz5.kz5 (x:yz5):x.el = .agg [.str x.name,.int .u8 x.value.op,.int .u8 x.value.value.kind,.int .i64 x.value.value.num.num,.int .i64 x.value.value.num.den,.bool x.value.value.truth,.str x.value.value.str,.sl 6 (x.value.value.list.map kz1.el) false,.str x.value.name,.sl 9 (x.value.args.map yz1.el) false]:=by rw [yz5.el]
theorem yz5.size_eq (x:yz5):x.size=(x.name.length+1)+x.value.size+1:=by rw [yz5.size]
theorem yz5.z04 (x:yz5):x.wf=(True∧x.value.wf):=by rw [yz5.wf]
theorem yz5.kzz (x:yz5):x.el.cells.length=10:=by rw [yz5.kz5];rfl
theorem yz5.zks (x:yz5):x.el = .agg x.el.cells:=by rw [yz5.kz5];rfl
theorem yz5.kin {D:Nat->Nat->Prop} (x:yz5):V.kin D x.el:=by rw [yz5.kz5];simp only [V.kin,V.zc3,and_true,true_and];exact ⟨z47 λy hy=>kz1.kin y,z47 λy hy=>yz1.kin y⟩
def yz5.ty:Ty yz5:=⟨yz5.el,10,yz5.size,yz5.wf,yz5.kzz⟩
structure yz7 where
 kind:Int
 name:List UInt8
 args:List yz1
def yz7.el (x:yz7):V:=.agg [.int .u8 x.kind,.str x.name,.sl 9 (x.args.map yz1.el) false]
def yz7.size (x:yz7):Nat:=1+(x.name.length+1)+((x.args.map yz1.size).sum+1)+1
def yz7.wf (x:yz7):Prop:=(IntKind.u8.min<=x.kind∧x.kind<=IntKind.u8.max)∧True∧(∀y∈x.args,y.wf)
theorem yz7.kz5 (x:yz7):x.el = .agg [.int .u8 x.kind,.str x.name,.sl 9 (x.args.map yz1.el) false]:=by rw [yz7.el]
theorem yz7.size_eq (x:yz7):x.size=1+(x.name.length+1)+((x.args.map yz1.size).sum+1)+1:=by rw [yz7.size]
theorem yz7.z04 (x:yz7):x.wf=((IntKind.u8.min<=x.kind∧x.kind<=IntKind.u8.max)∧True∧(∀y∈x.args,y.wf)):=by rw [yz7.wf]
theorem yz7.kzz (x:yz7):x.el.cells.length=3:=by rw [yz7.kz5];rfl
theorem yz7.zks (x:yz7):x.el = .agg x.el.cells:=by rw [yz7.kz5];rfl
theorem yz7.kin {D:Nat->Nat->Prop} (x:yz7):V.kin D x.el:=by rw [yz7.kz5];simp only [V.kin,V.zc3,and_true,true_and];exact z47 λy hy=>yz1.kin y
def yz7.ty:Ty yz7:=⟨yz7.el,3,yz7.size,yz7.wf,yz7.kzz⟩
structure zz3 where
 kind:Int
 axis:Int
 name:List UInt8
 args:List yz1
 items:List yz7
def zz3.el (x:zz3):V:=.agg [.int .u8 x.kind,.int .u8 x.axis,.str x.name,.sl 9 (x.args.map yz1.el) false,.sl 3 (x.items.map yz7.el) false]
def zz3.size (x:zz3):Nat:=1+1+(x.name.length+1)+((x.args.map yz1.size).sum+1)+((x.items.map yz7.size).sum+1)+1
def zz3.wf (x:zz3):Prop:=(IntKind.u8.min<=x.kind∧x.kind<=IntKind.u8.max)∧(IntKind.u8.min<=x.axis∧x.axis<=IntKind.u8.max)∧True∧(∀y∈x.args,y.wf)∧(∀y∈x.items,y.wf)
theorem zz3.kz5 (x:zz3):x.el = .agg [.int .u8 x.kind,.int .u8 x.axis,.str x.name,.sl 9 (x.args.map yz1.el) false,.sl 3 (x.items.map yz7.el) false]:=by rw [zz3.el]
theorem zz3.size_eq (x:zz3):x.size=1+1+(x.name.length+1)+((x.args.map yz1.size).sum+1)+((x.items.map yz7.size).sum+1)+1:=by rw [zz3.size]
theorem zz3.z04 (x:zz3):x.wf=((IntKind.u8.min<=x.kind∧x.kind<=IntKind.u8.max)∧(IntKind.u8.min<=x.axis∧x.axis<=IntKind.u8.max)∧True∧(∀y∈x.args,y.wf)∧(∀y∈x.items,y.wf)):=by rw [zz3.wf]
theorem zz3.kzz (x:zz3):x.el.cells.length=5:=by rw [zz3.kz5];rfl
theorem zz3.zks (x:zz3):x.el = .agg x.el.cells:=by rw [zz3.kz5];rfl
theorem zz3.kin {D:Nat->Nat->Prop} (x:zz3):V.kin D x.el:=by rw [zz3.kz5];simp only [V.kin,V.zc3,and_true,true_and];exact ⟨z47 λy hy=>yz1.kin y,z47 λy hy=>yz7.kin y⟩
def zz3.ty:Ty zz3:=⟨zz3.el,5,zz3.size,zz3.wf,zz3.kzz⟩
structure yz4 where
 weight:Int
 when_:yz1
 do_:List zz3
def yz4.el (x:yz4):V:=.agg [.int .i64 x.weight,.int .u8 x.when_.op,.int .u8 x.when_.value.kind,.int .i64 x.when_.value.num.num,.int .i64 x.when_.value.num.den,.bool x.when_.value.truth,.str x.when_.value.str,.sl 6 (x.when_.value.list.map kz1.el) false,.str x.when_.name,.sl 9 (x.when_.args.map yz1.el) false,.sl 5 (x.do_.map zz3.el) false]
def yz4.size (x:yz4):Nat:=1+x.when_.size+((x.do_.map zz3.size).sum+1)+1
def yz4.wf (x:yz4):Prop:=(IntKind.i64.min<=x.weight∧x.weight<=IntKind.i64.max)∧x.when_.wf∧(∀y∈x.do_,y.wf)
theorem yz4.kz5 (x:yz4):x.el = .agg [.int .i64 x.weight,.int .u8 x.when_.op,.int .u8 x.when_.value.kind,.int .i64 x.when_.value.num.num,.int .i64 x.when_.value.num.den,.bool x.when_.value.truth,.str x.when_.value.str,.sl 6 (x.when_.value.list.map kz1.el) false,.str x.when_.name,.sl 9 (x.when_.args.map yz1.el) false,.sl 5 (x.do_.map zz3.el) false]:=by rw [yz4.el]
theorem yz4.size_eq (x:yz4):x.size=1+x.when_.size+((x.do_.map zz3.size).sum+1)+1:=by rw [yz4.size]
theorem yz4.z04 (x:yz4):x.wf=((IntKind.i64.min<=x.weight∧x.weight<=IntKind.i64.max)∧x.when_.wf∧(∀y∈x.do_,y.wf)):=by rw [yz4.wf]
theorem yz4.kzz (x:yz4):x.el.cells.length=11:=by rw [yz4.kz5];rfl
theorem yz4.zks (x:yz4):x.el = .agg x.el.cells:=by rw [yz4.kz5];rfl
theorem yz4.kin {D:Nat->Nat->Prop} (x:yz4):V.kin D x.el:=by rw [yz4.kz5];simp only [V.kin,V.zc3,and_true,true_and];exact ⟨z47 λy hy=>kz1.kin y,z47 λy hy=>yz1.kin y,z47 λy hy=>zz3.kin y⟩
def yz4.ty:Ty yz4:=⟨yz4.el,11,yz4.size,yz4.wf,yz4.kzz⟩
structure yz3 where
 name:List UInt8
 params:List (List UInt8)
 cases:List yz4
def yz3.el (x:yz3):V:=.agg [.str x.name,.sl 1 (x.params.map V.str) false,.sl 11 (x.cases.map yz4.el) false]
def yz3.size (x:yz3):Nat:=(x.name.length+1)+((x.params.map (λs=>s.length+1)).sum+1)+((x.cases.map yz4.size).sum+1)+1
def yz3.wf (x:yz3):Prop:=True∧(∀y∈x.params,True)∧(∀y∈x.cases,y.wf)
theorem yz3.kz5 (x:yz3):x.el = .agg [.str x.name,.sl 1 (x.params.map V.str) false,.sl 11 (x.cases.map yz4.el) false]:=by rw [yz3.el]
theorem yz3.size_eq (x:yz3):x.size=(x.name.length+1)+((x.params.map (λs=>s.length+1)).sum+1)+((x.cases.map yz4.size).sum+1)+1:=by rw [yz3.size]
theorem yz3.z04 (x:yz3):x.wf=(True∧(∀y∈x.params,True)∧(∀y∈x.cases,y.wf)):=by rw [yz3.wf]
theorem yz3.kzz (x:yz3):x.el.cells.length=3:=by rw [yz3.kz5];rfl
theorem yz3.zks (x:yz3):x.el = .agg x.el.cells:=by rw [yz3.kz5];rfl
theorem yz3.kin {D:Nat->Nat->Prop} (x:yz3):V.kin D x.el:=by rw [yz3.kz5];simp only [V.kin,V.zc3,and_true,true_and];exact ⟨z47 λ_ _=>by simp [V.kin],z47 λy hy=>yz4.kin y⟩
def yz3.ty:Ty yz3:=⟨yz3.el,3,yz3.size,yz3.wf,yz3.kzz⟩
structure zz0 where
 attrs:List yz5
 rules:List yz3
def zz0.el (x:zz0):V:=.agg [.sl 10 (x.attrs.map yz5.el) false,.sl 3 (x.rules.map yz3.el) false]
def zz0.size (x:zz0):Nat:=((x.attrs.map yz5.size).sum+1)+((x.rules.map yz3.size).sum+1)+1
def zz0.wf (x:zz0):Prop:=(∀y∈x.attrs,y.wf)∧(∀y∈x.rules,y.wf)
theorem zz0.kz5 (x:zz0):x.el = .agg [.sl 10 (x.attrs.map yz5.el) false,.sl 3 (x.rules.map yz3.el) false]:=by rw [zz0.el]
theorem zz0.size_eq (x:zz0):x.size=((x.attrs.map yz5.size).sum+1)+((x.rules.map yz3.size).sum+1)+1:=by rw [zz0.size]
theorem zz0.z04 (x:zz0):x.wf=((∀y∈x.attrs,y.wf)∧(∀y∈x.rules,y.wf)):=by rw [zz0.wf]
theorem zz0.kzz (x:zz0):x.el.cells.length=2:=by rw [zz0.kz5];rfl
theorem zz0.zks (x:zz0):x.el = .agg x.el.cells:=by rw [zz0.kz5];rfl
theorem zz0.kin {D:Nat->Nat->Prop} (x:zz0):V.kin D x.el:=by rw [zz0.kz5];simp only [V.kin,V.zc3,and_true,true_and];exact ⟨z47 λy hy=>yz5.kin y,z47 λy hy=>yz3.kin y⟩
def zz0.ty:Ty zz0:=⟨zz0.el,2,zz0.size,zz0.wf,zz0.kzz⟩
structure yz6 where
 kind:Int
 name:List UInt8
 to_:List UInt8
 rule_:yz3
 value:yz1
def yz6.el (x:yz6):V:=.agg [.int .u8 x.kind,.str x.name,.str x.to_,.str x.rule_.name,.sl 1 (x.rule_.params.map V.str) false,.sl 11 (x.rule_.cases.map yz4.el) false,.int .u8 x.value.op,.int .u8 x.value.value.kind,.int .i64 x.value.value.num.num,.int .i64 x.value.value.num.den,.bool x.value.value.truth,.str x.value.value.str,.sl 6 (x.value.value.list.map kz1.el) false,.str x.value.name,.sl 9 (x.value.args.map yz1.el) false]
def yz6.size (x:yz6):Nat:=1+(x.name.length+1)+(x.to_.length+1)+x.rule_.size+x.value.size+1
def yz6.wf (x:yz6):Prop:=(IntKind.u8.min<=x.kind∧x.kind<=IntKind.u8.max)∧True∧True∧x.rule_.wf∧x.value.wf
theorem yz6.kz5 (x:yz6):x.el = .agg [.int .u8 x.kind,.str x.name,.str x.to_,.str x.rule_.name,.sl 1 (x.rule_.params.map V.str) false,.sl 11 (x.rule_.cases.map yz4.el) false,.int .u8 x.value.op,.int .u8 x.value.value.kind,.int .i64 x.value.value.num.num,.int .i64 x.value.value.num.den,.bool x.value.value.truth,.str x.value.value.str,.sl 6 (x.value.value.list.map kz1.el) false,.str x.value.name,.sl 9 (x.value.args.map yz1.el) false]:=by rw [yz6.el]
theorem yz6.size_eq (x:yz6):x.size=1+(x.name.length+1)+(x.to_.length+1)+x.rule_.size+x.value.size+1:=by rw [yz6.size]
theorem yz6.z04 (x:yz6):x.wf=((IntKind.u8.min<=x.kind∧x.kind<=IntKind.u8.max)∧True∧True∧x.rule_.wf∧x.value.wf):=by rw [yz6.wf]
theorem yz6.kzz (x:yz6):x.el.cells.length=15:=by rw [yz6.kz5];rfl
theorem yz6.zks (x:yz6):x.el = .agg x.el.cells:=by rw [yz6.kz5];rfl
theorem yz6.kin {D:Nat->Nat->Prop} (x:yz6):V.kin D x.el:=by rw [yz6.kz5];simp only [V.kin,V.zc3,and_true,true_and];exact ⟨z47 λ_ _=>by simp [V.kin],z47 λy hy=>yz4.kin y,z47 λy hy=>kz1.kin y,z47 λy hy=>yz1.kin y⟩
def yz6.ty:Ty yz6:=⟨yz6.el,15,yz6.size,yz6.wf,yz6.kzz⟩
structure zzj where
 name:List UInt8
 many:Int
def zzj.el (x:zzj):V:=.agg [.str x.name,.int .i64 x.many]
def zzj.size (x:zzj):Nat:=(x.name.length+1)+1+1
def zzj.wf (x:zzj):Prop:=True∧(IntKind.i64.min<=x.many∧x.many<=IntKind.i64.max)
theorem zzj.kz5 (x:zzj):x.el = .agg [.str x.name,.int .i64 x.many]:=by rw [zzj.el]
theorem zzj.size_eq (x:zzj):x.size=(x.name.length+1)+1+1:=by rw [zzj.size]
theorem zzj.z04 (x:zzj):x.wf=(True∧(IntKind.i64.min<=x.many∧x.many<=IntKind.i64.max)):=by rw [zzj.wf]
theorem zzj.kzz (x:zzj):x.el.cells.length=2:=by rw [zzj.kz5];rfl
theorem zzj.zks (x:zzj):x.el = .agg x.el.cells:=by rw [zzj.kz5];rfl
theorem zzj.kin {D:Nat->Nat->Prop} (x:zzj):V.kin D x.el:=by rw [zzj.kz5];simp only [V.kin,V.zc3,and_true,true_and]
def zzj.ty:Ty zzj:=⟨zzj.el,2,zzj.size,zzj.wf,zzj.kzz⟩
structure yzw where
 name:List UInt8
 many:Int
def yzw.el (x:yzw):V:=.agg [.str x.name,.int .i64 x.many]
def yzw.size (x:yzw):Nat:=(x.name.length+1)+1+1
def yzw.wf (x:yzw):Prop:=True∧(IntKind.i64.min<=x.many∧x.many<=IntKind.i64.max)
theorem yzw.kz5 (x:yzw):x.el = .agg [.str x.name,.int .i64 x.many]:=by rw [yzw.el]
theorem yzw.size_eq (x:yzw):x.size=(x.name.length+1)+1+1:=by rw [yzw.size]
theorem yzw.z04 (x:yzw):x.wf=(True∧(IntKind.i64.min<=x.many∧x.many<=IntKind.i64.max)):=by rw [yzw.wf]
theorem yzw.kzz (x:yzw):x.el.cells.length=2:=by rw [yzw.kz5];rfl
theorem yzw.zks (x:yzw):x.el = .agg x.el.cells:=by rw [yzw.kz5];rfl
theorem yzw.kin {D:Nat->Nat->Prop} (x:yzw):V.kin D x.el:=by rw [yzw.kz5];simp only [V.kin,V.zc3,and_true,true_and]
def yzw.ty:Ty yzw:=⟨yzw.el,2,yzw.size,yzw.wf,yzw.kzz⟩
def kz1.re (x:kz1):kz1:=⟨x.kind,x.num,x.truth,x.str,x.list⟩
@[simp] theorem kz1.zz4 (x:kz1):x.re=x:=by cases x;simp [kz1.re]
def yz1.re (x:yz1):yz1:=⟨x.op,x.value.re,x.name,x.args⟩
@[simp] theorem yz1.zz4 (x:yz1):x.re=x:=by cases x;simp [yz1.re]
def yz5.re (x:yz5):yz5:=⟨x.name,x.value.re⟩
@[simp] theorem yz5.zz4 (x:yz5):x.re=x:=by cases x;simp [yz5.re]
def yz4.re (x:yz4):yz4:=⟨x.weight,x.when_.re,x.do_⟩
@[simp] theorem yz4.zz4 (x:yz4):x.re=x:=by cases x;simp [yz4.re]
def yz6.re (x:yz6):yz6:=⟨x.kind,x.name,x.to_,x.rule_,x.value.re⟩
@[simp] theorem yz6.zz4 (x:yz6):x.re=x:=by cases x;simp [yz6.re]
def datT:Nat->Type
 |0=>kz6
 |1=>kz1
 |2=>yz1
 |3=>yz5
 |4=>yz7
 |5=>zz3
 |6=>yz4
 |7=>yz3
 |8=>zz0
 |9=>yz6
 |10=>zzj
 |11=>yzw
 |_=>Unit
def zq7:Nat->List DTy
 |0=>[.int .i64,.int .i64]
 |1=>[.int .u8,.int .i64,.int .i64,.bool,.str,.sl (.st 1)]
 |2=>[.int .u8,.int .u8,.int .i64,.int .i64,.bool,.str,.sl (.st 1),.str,.sl (.st 2)]
 |3=>[.str,.int .u8,.int .u8,.int .i64,.int .i64,.bool,.str,.sl (.st 1),.str,.sl (.st 2)]
 |4=>[.int .u8,.str,.sl (.st 2)]
 |5=>[.int .u8,.int .u8,.str,.sl (.st 2),.sl (.st 4)]
 |6=>[.int .i64,.int .u8,.int .u8,.int .i64,.int .i64,.bool,.str,.sl (.st 1),.str,.sl (.st 2),.sl (.st 5)]
 |7=>[.str,.sl .str,.sl (.st 6)]
 |8=>[.sl (.st 3),.sl (.st 7)]
 |9=>[.int .u8,.str,.str,.str,.sl .str,.sl (.st 6),.int .u8,.int .u8,.int .i64,.int .i64,.bool,.str,.sl (.st 1),.str,.sl (.st 2)]
 |10=>[.str,.int .i64]
 |11=>[.str,.int .i64]
 |_=>[]
def z002:List (Nat×DTy):=[(2,.int .i64),(3,.int .i64),(4,.bool),(5,.int .u8),(6,.int .u8),(9,.str),(10,.str),(11,.str),(12,.int .u64),(21,.int .i32),(22,.sl (.st 3)),(23,.sl (.st 7)),(25,.st 8),(26,.sl (.st 9)),(30,.int .i64),(39,.st 0),(40,.sl (.st 1)),(42,.st 1),(43,.sl (.st 2)),(45,.st 2),(47,.st 3),(48,.sl .str),(49,.sl (.st 6)),(51,.st 7),(53,.sl (.st 5)),(55,.st 6),(57,.st 9),(71,.sl (.st 4)),(73,.st 5),(75,.st 4),(85,.sl (.st 10)),(88,.st 10),(96,.sl (.st 11)),(99,.st 11),(142,.int .u64),(147,.int .i64),(155,.int .u32),(157,.int .u64),(159,.int .u64),(178,.int .u8),(179,.int .u8),(182,.int .i32),(183,.int .i32)]
def datOw:Nat->Nat->Option Nat
 |7,2=>some 55
 |6,10=>some 73
 |5,4=>some 75
 |_,_=>none
def dat:Dat where
 T:=datT
 fl:=zq7
 get:=λi=>match i with
  |0=>λ(x:kz6)=>(x.num,x.den,())
  |1=>λ(x:kz1)=>(x.kind,x.num.num,x.num.den,x.truth,x.str,x.list,())
  |2=>λ(x:yz1)=>(x.op,x.value.kind,x.value.num.num,x.value.num.den,x.value.truth,x.value.str,x.value.list,x.name,x.args,())
  |3=>λ(x:yz5)=>(x.name,x.value.op,x.value.value.kind,x.value.value.num.num,x.value.value.num.den,x.value.value.truth,x.value.value.str,x.value.value.list,x.value.name,x.value.args,())
  |4=>λ(x:yz7)=>(x.kind,x.name,x.args,())
  |5=>λ(x:zz3)=>(x.kind,x.axis,x.name,x.args,x.items,())
  |6=>λ(x:yz4)=>(x.weight,x.when_.op,x.when_.value.kind,x.when_.value.num.num,x.when_.value.num.den,x.when_.value.truth,x.when_.value.str,x.when_.value.list,x.when_.name,x.when_.args,x.do_,())
  |7=>λ(x:yz3)=>(x.name,x.params,x.cases,())
  |8=>λ(x:zz0)=>(x.attrs,x.rules,())
  |9=>λ(x:yz6)=>(x.kind,x.name,x.to_,x.rule_.name,x.rule_.params,x.rule_.cases,x.value.op,x.value.value.kind,x.value.value.num.num,x.value.value.num.den,x.value.value.truth,x.value.value.str,x.value.value.list,x.value.name,x.value.args,())
  |10=>λ(x:zzj)=>(x.name,x.many,())
  |11=>λ(x:yzw)=>(x.name,x.many,())
  |_+12=>λ_=>()
 make:=λi=>match i with
  |0=>λx=>kz6.mk x.1 x.2.1
  |1=>λx=>kz1.mk x.1 (kz6.mk x.2.1 x.2.2.1) x.2.2.2.1 x.2.2.2.2.1 x.2.2.2.2.2.1
  |2=>λx=>yz1.mk x.1 (kz1.mk x.2.1 (kz6.mk x.2.2.1 x.2.2.2.1) x.2.2.2.2.1 x.2.2.2.2.2.1 x.2.2.2.2.2.2.1) x.2.2.2.2.2.2.2.1 x.2.2.2.2.2.2.2.2.1
  |3=>λx=>yz5.mk x.1 (yz1.mk x.2.1 (kz1.mk x.2.2.1 (kz6.mk x.2.2.2.1 x.2.2.2.2.1) x.2.2.2.2.2.1 x.2.2.2.2.2.2.1 x.2.2.2.2.2.2.2.1) x.2.2.2.2.2.2.2.2.1 x.2.2.2.2.2.2.2.2.2.1)
  |4=>λx=>yz7.mk x.1 x.2.1 x.2.2.1
  |5=>λx=>zz3.mk x.1 x.2.1 x.2.2.1 x.2.2.2.1 x.2.2.2.2.1
  |6=>λx=>yz4.mk x.1 (yz1.mk x.2.1 (kz1.mk x.2.2.1 (kz6.mk x.2.2.2.1 x.2.2.2.2.1) x.2.2.2.2.2.1 x.2.2.2.2.2.2.1 x.2.2.2.2.2.2.2.1) x.2.2.2.2.2.2.2.2.1 x.2.2.2.2.2.2.2.2.2.1) x.2.2.2.2.2.2.2.2.2.2.1
  |7=>λx=>yz3.mk x.1 x.2.1 x.2.2.1
  |8=>λx=>zz0.mk x.1 x.2.1
  |9=>λx=>yz6.mk x.1 x.2.1 x.2.2.1 (yz3.mk x.2.2.2.1 x.2.2.2.2.1 x.2.2.2.2.2.1) (yz1.mk x.2.2.2.2.2.2.1 (kz1.mk x.2.2.2.2.2.2.2.1 (kz6.mk x.2.2.2.2.2.2.2.2.1 x.2.2.2.2.2.2.2.2.2.1) x.2.2.2.2.2.2.2.2.2.2.1 x.2.2.2.2.2.2.2.2.2.2.2.1 x.2.2.2.2.2.2.2.2.2.2.2.2.1) x.2.2.2.2.2.2.2.2.2.2.2.2.2.1 x.2.2.2.2.2.2.2.2.2.2.2.2.2.2.1)
  |10=>λx=>zzj.mk x.1 x.2.1
  |11=>λx=>yzw.mk x.1 x.2.1
  |_+12=>λ_=>()
 enc:=λi=>match i with
  |0=>kz6.el
  |1=>kz1.el
  |2=>yz1.el
  |3=>yz5.el
  |4=>yz7.el
  |5=>zz3.el
  |6=>yz4.el
  |7=>yz3.el
  |8=>zz0.el
  |9=>yz6.el
  |10=>zzj.el
  |11=>yzw.el
  |_+12=>λ_=>.agg []
 ty:=fnd z002
 ow:=datOw
theorem kz2 (P:Program):dat.Ok P where
 enc:=λi=>match i with
  |0=>λx=>kz6.kz5 x
  |1=>λx=>kz1.kz5 x
  |2=>λx=>yz1.kz5 x
  |3=>λx=>yz5.kz5 x
  |4=>λx=>yz7.kz5 x
  |5=>λx=>zz3.kz5 x
  |6=>λx=>yz4.kz5 x
  |7=>λx=>yz3.kz5 x
  |8=>λx=>zz0.kz5 x
  |9=>λx=>yz6.kz5 x
  |10=>λx=>zzj.kz5 x
  |11=>λx=>yzw.kz5 x
  |_+12=>λ_=>rfl
 getMake:=λi=>match i with
  |0=>λx=>rfl
  |1=>λx=>rfl
  |2=>λx=>rfl
  |3=>λx=>rfl
  |4=>λx=>rfl
  |5=>λx=>rfl
  |6=>λx=>rfl
  |7=>λx=>rfl
  |8=>λx=>rfl
  |9=>λx=>rfl
  |10=>λx=>rfl
  |11=>λx=>rfl
  |_+12=>λ_=>rfl
 flat:=λi=>match i with
  |0=>λt h=>by simp only [dat,zq7,Qbi,List.not_mem_nil,or_false] at h;rcases h with rfl|rfl <;> trivial
  |1=>λt h=>by simp only [dat,zq7,Qbi,List.not_mem_nil,or_false] at h;rcases h with rfl|rfl|rfl|rfl|rfl|rfl <;> trivial
  |2=>λt h=>by simp only [dat,zq7,Qbi,List.not_mem_nil,or_false] at h;rcases h with rfl|rfl|rfl|rfl|rfl|rfl|rfl|rfl|rfl <;> trivial
  |3=>λt h=>by simp only [dat,zq7,Qbi,List.not_mem_nil,or_false] at h;rcases h with rfl|rfl|rfl|rfl|rfl|rfl|rfl|rfl|rfl|rfl <;> trivial
  |4=>λt h=>by simp only [dat,zq7,Qbi,List.not_mem_nil,or_false] at h;rcases h with rfl|rfl|rfl <;> trivial
  |5=>λt h=>by simp only [dat,zq7,Qbi,List.not_mem_nil,or_false] at h;rcases h with rfl|rfl|rfl|rfl|rfl <;> trivial
  |6=>λt h=>by simp only [dat,zq7,Qbi,List.not_mem_nil,or_false] at h;rcases h with rfl|rfl|rfl|rfl|rfl|rfl|rfl|rfl|rfl|rfl|rfl <;> trivial
  |7=>λt h=>by simp only [dat,zq7,Qbi,List.not_mem_nil,or_false] at h;rcases h with rfl|rfl|rfl <;> trivial
  |8=>λt h=>by simp only [dat,zq7,Qbi,List.not_mem_nil,or_false] at h;rcases h with rfl|rfl <;> trivial
  |9=>λt h=>by simp only [dat,zq7,Qbi,List.not_mem_nil,or_false] at h;rcases h with rfl|rfl|rfl|rfl|rfl|rfl|rfl|rfl|rfl|rfl|rfl|rfl|rfl|rfl|rfl <;> trivial
  |10=>λt h=>by simp only [dat,zq7,Qbi,List.not_mem_nil,or_false] at h;rcases h with rfl|rfl <;> trivial
  |11=>λt h=>by simp only [dat,zq7,Qbi,List.not_mem_nil,or_false] at h;rcases h with rfl|rfl <;> trivial
  |_+12=>λt h=>by cases h
 ty:=λe t h=>by
  have:=zde h;simp only [z002,Qbi,Qbv,List.not_mem_nil,or_false] at this
  rcases this with ⟨_,rfl⟩|⟨_,rfl⟩|⟨_,rfl⟩|⟨_,rfl⟩|⟨_,rfl⟩|⟨_,rfl⟩|⟨_,rfl⟩|⟨_,rfl⟩|⟨_,rfl⟩|⟨_,rfl⟩|⟨_,rfl⟩|⟨_,rfl⟩|⟨_,rfl⟩|⟨_,rfl⟩|⟨_,rfl⟩|⟨_,rfl⟩|⟨_,rfl⟩|⟨_,rfl⟩|⟨_,rfl⟩|⟨_,rfl⟩|⟨_,rfl⟩|⟨_,rfl⟩|⟨_,rfl⟩|⟨_,rfl⟩|⟨_,rfl⟩|⟨_,rfl⟩|⟨_,rfl⟩|⟨_,rfl⟩|⟨_,rfl⟩|⟨_,rfl⟩|⟨_,rfl⟩|⟨_,rfl⟩|⟨_,rfl⟩|⟨_,rfl⟩|⟨_,rfl⟩|⟨_,rfl⟩|⟨_,rfl⟩|⟨_,rfl⟩|⟨_,rfl⟩|⟨_,rfl⟩|⟨_,rfl⟩|⟨_,rfl⟩|⟨_,rfl⟩ <;> simp
 kin:=λi=>match i with
  |0=>λx _=>kz6.kin x
  |1=>λx _=>kz1.kin x
  |2=>λx _=>yz1.kin x
  |3=>λx _=>yz5.kin x
  |4=>λx _=>yz7.kin x
  |5=>λx _=>zz3.kin x
  |6=>λx _=>yz4.kin x
  |7=>λx _=>yz3.kin x
  |8=>λx _=>zz0.kin x
  |9=>λx _=>yz6.kin x
  |10=>λx _=>zzj.kin x
  |11=>λx _=>yzw.kin x
  |_+12=>λ_ _=>by simp only [dat,V.kin,V.zc3]
end Go.Ab
namespace Go.Proofs
open Go.Shelf
def Tryz.ys9:Go.Shelf.Ren:=⟨λ|190=>98|125=>111|258=>110|128=>129|129=>130|302=>120|303=>121|304=>122|305=>123|306=>124|307=>125|308=>126|309=>127|310=>128|333=>134|329=>135|330=>136|334=>137|335=>138|336=>139|344=>143|n=>n,λ|31=>48|9=>9|3=>3|46=>142|0=>0|51=>155|53=>157|4=>4|183=>148|182=>147|131=>81|5=>5|218=>159|222=>163|228=>168|229=>130|n=>n,λ|n=>n⟩
theorem Tryz.yv5:Go.Proofs.Lays.n190 Tryz.prog Tryz.ys9:={
 mixed:=by kernel_rfl
 f125:=Tryz.func111.trans (congrArg some (by kernel_rfl))
 f128:=Tryz.func129.trans (congrArg some (by kernel_rfl))
 f129:=Tryz.func130.trans (congrArg some (by kernel_rfl))
 f190:=Tryz.func98.trans (congrArg some (by kernel_rfl))
 f258:=Tryz.func110.trans (congrArg some (by kernel_rfl))
 f302:=Tryz.func120.trans (congrArg some (by kernel_rfl))
 f303:=Tryz.func121.trans (congrArg some (by kernel_rfl))
 f304:=Tryz.func122.trans (congrArg some (by kernel_rfl))
 f305:=Tryz.func123.trans (congrArg some (by kernel_rfl))
 f306:=Tryz.func124.trans (congrArg some (by kernel_rfl))
 f307:=Tryz.func125.trans (congrArg some (by kernel_rfl))
 f308:=Tryz.func126.trans (congrArg some (by kernel_rfl))
 f309:=Tryz.func127.trans (congrArg some (by kernel_rfl))
 f310:=Tryz.func128.trans (congrArg some (by kernel_rfl))
 f329:=Tryz.func135.trans (congrArg some (by kernel_rfl))
 f330:=Tryz.func136.trans (congrArg some (by kernel_rfl))
 f333:=Tryz.func134.trans (congrArg some (by kernel_rfl))
 f334:=Tryz.func137.trans (congrArg some (by kernel_rfl))
 f335:=Tryz.func138.trans (congrArg some (by kernel_rfl))
 f336:=Tryz.func139.trans (congrArg some (by kernel_rfl))
 f344:=Tryz.func143.trans (congrArg some (by kernel_rfl))
 t0:=Tryz.underlying0
 a0:=Tryz.isAgg0
 z0:=Tryz.sizeOf0
 v0:=Tryz.zeroValue0
 t3:=Tryz.underlying3
 a3:=Tryz.isAgg3
 z3:=Tryz.sizeOf3
 v3:=Tryz.zeroValue3
 t4:=Tryz.underlying4
 a4:=Tryz.isAgg4
 z4:=Tryz.sizeOf4
 v4:=Tryz.zeroValue4
 t5:=Tryz.underlying5
 a5:=Tryz.isAgg5
 z5:=Tryz.sizeOf5
 v5:=Tryz.zeroValue5
 t9:=Tryz.underlying9
 a9:=Tryz.isAgg9
 z9:=Tryz.sizeOf9
 v9:=Tryz.zeroValue9
 t31:=Tryz.underlying48
 a31:=Tryz.isAgg48
 z31:=Tryz.sizeOf48
 v31:=Tryz.zeroValue48
 t46:=Tryz.underlying142
 a46:=Tryz.isAgg142
 z46:=Tryz.sizeOf142
 v46:=Tryz.zeroValue142
 t51:=Tryz.underlying155
 a51:=Tryz.isAgg155
 z51:=Tryz.sizeOf155
 v51:=Tryz.zeroValue155
 t53:=Tryz.underlying157
 a53:=Tryz.isAgg157
 z53:=Tryz.sizeOf157
 v53:=Tryz.zeroValue157
 t131:=Tryz.underlying81
 a131:=Tryz.isAgg81
 z131:=Tryz.sizeOf81
 v131:=Tryz.zeroValue81
 t182:=Tryz.underlying147
 a182:=Tryz.isAgg147
 z182:=Tryz.sizeOf147
 v182:=Tryz.zeroValue147
 t183:=Tryz.underlying148
 a183:=Tryz.isAgg148
 z183:=Tryz.sizeOf148
 v183:=Tryz.zeroValue148
 t218:=Tryz.underlying159
 a218:=Tryz.isAgg159
 z218:=Tryz.sizeOf159
 v218:=Tryz.zeroValue159
 t222:=Tryz.underlying163
 a222:=Tryz.isAgg163
 z222:=Tryz.sizeOf163
 v222:=Tryz.zeroValue163
 t228:=Tryz.underlying168
 a228:=Tryz.isAgg168
 z228:=Tryz.sizeOf168
 v228:=Tryz.zeroValue168
 t229:=Tryz.underlying130
 a229:=Tryz.isAgg130
 z229:=Tryz.sizeOf130
 v229:=Tryz.zeroValue130}
end Go.Proofs
namespace Go.Proofs
open Go Go.RowKit Go.Sort Go.Shelf Go.Lib
open Go.Ab (Qbn Qbq Qbr Qbs Qbv)
set_option linter.unusedVariables false
set_option linter.unusedSimpArgs false
theorem z03f {P:Program} {e n b:Nat} (h:(P.info? e).map (λi=>(i.zero.map (·.cells.size),i.size,i.bytes))=some (some n,n,b)):∃i z,P.info? e=some i∧i.zero=some z∧i.size=n∧i.bytes=b∧z.cells.size=n:=by
 cases hi:P.info? e with
 |none=>rw [hi] at h;cases h
 |some i=>
  rw [hi] at h;simp only [Qbn,Qbq,Qbv] at h;obtain ⟨h1,h2,h3⟩:=h
  cases hz:i.zero with
  |none=>rw [hz] at h1;cases h1
  |some z=>
   rw [hz] at h1;simp only [Qbn,Qbq] at h1;exact ⟨i,z,rfl,hz,h2,h3,h1⟩
set_option maxHeartbeats 2000000 in
set_option maxRecDepth 100000 in
theorem Tryz.yyg (ad:Addr) (n c:Nat) (cells:List Value) (w:World) (hl:cells.length=n * 1) (hc:∀j u,cells[j]? = some u->w.cell? (ad.add j)=some u) (h1:∀u∈cells,u.oneCell'=true) (hn:n<=maxLen) (hb:n * 16<=140737488355328) :
  Calls Tryz.prog 37 #[.slice (some ad) n c] w λe w'=>∃v',e = .returned v'∧w'.ownsRow w.heap.size 9 1 v' n cells∧Below w.heap.size w w':=by
 have t48:Tryz.prog.underlying 48=some (.slice 9):=by kernel_rfl
 obtain ⟨i0,z,hi,hz0,hz1,hz2,hz3⟩:=z03f (P:=Tryz.prog) (e:=9) (n:=1) (b:=16) (by kernel_rfl);have q48:∀(w:World) (a:Option Addr) (n c n' c':Nat),(binOp .eql 48 (.slice a n c) (.slice none n' c')).run Tryz.prog w = .ok (.bool a.isNone) w:=λw a n c n' c'=>Lib.run_eql_slice_nil w _ _ a n c n' c' t48
 have A:Aside (∀j u,cells[j]? = some u->w.cell? (ad.add j)=some u):=hc;have B:Aside (∀u∈cells,u.oneCell'=true):=h1;clear hc h1
 go_enter Tryz.func37,Tryz.ntmps37
 go_wp2_with (at_builtin;refine wpList_append_own _ rfl _ _ 48 rfl w.heap.size 9 i0 z 1 16 t48 hi hz0 hz1 hz2 hz3 (by decide) _ _ _ rfl (World.ownsRow_made w #[] 0 (Qbs _) (Qbr _) rfl) ad n c cells rfl ?qc1 ?qc2 ?qc3 ?qc4 ?qc5 ?qc6 ?_)
 case qc1=>exact hl
 case qc2=>
  intro j u hj;exact Lib.cell?_alloc_some _ (A.out j u hj)
 case qc3=>exact B.out
 case qc4=>omega
 case qc5=>omega
 case qc6=>simp
 intro v' w1 hown hgrow hnil
 go_wp2
 go_ret
 refine ⟨v',rfl,by simpa using hown,?_⟩;exact ((Below.refl _ w).alloc (Qbs _) _).grown hgrow (by simp) (by intro k hk;simp [Value.ownBlock] at hk;omega)
set_option maxHeartbeats 1000000 in
theorem Tryz.yy7 (w:World):Calls Tryz.prog 37 #[.slice none 0 0] w λe w'=>e = .returned (.slice none 0 0)∧w'=w:=by
 have t48:Tryz.prog.underlying 48=some (.slice 9):=by kernel_rfl
 have q48:∀(w:World) (a:Option Addr) (n c n' c':Nat),(binOp .eql 48 (.slice a n c) (.slice none n' c')).run Tryz.prog w = .ok (.bool a.isNone) w:=λw a n c n' c'=>Lib.run_eql_slice_nil w _ _ a n c n' c' t48
 go_enter Tryz.func37,Tryz.ntmps37
 go_wp2
 go_ret
 exact ⟨rfl,rfl⟩
end Go.Proofs
namespace Go.Proofs
open Go.RowKit Go.Shelf Go.Lib
open Go.Ab (Qaa Qae Qas Qau Qaw Qbe Qbg Qbl Qbn Qbq Qbt Qbu Qbv)
set_option linter.unusedVariables false
set_option linter.unusedSimpArgs false
theorem y4c {P:Program} (w:World) (t e ty:TypeId) (z:Value) (ht:P.underlying t=some (.slice e)) (hv:∀w,(zeroValue e).run P w = .ok z w) (b o n c:Nat) (hn:0<n)
  (h1:∀u∈(Builtin.zeroCells z.cells n).toList,u.oneCell'=true) (hc:∀j,j<(Builtin.zeroCells z.cells n).toList.length->(w.cell? ⟨b,o+j,none⟩).isSome=true) (hf:∀j,j<(Builtin.zeroCells z.cells n).toList.length->w.frozen? ⟨b,o+j,none⟩=false) :
  (Builtin.clear_ #[t] ty #[.slice (some ⟨b,o,none⟩) n c]).run P w = .ok (.tuple #[]) (w.setCells b o (Builtin.zeroCells z.cells n).toList):=by
 have hst:=run_storeCells_cells (P:=P) b o (Builtin.zeroCells z.cells n).toList 0 w (by simpa using hc) (by simpa using hf) h1;simp only [Nat.add_zero] at hst;obtain ⟨m,rfl⟩:∃m,n=m+1:=⟨n-1,by omega⟩;simp [Builtin.clear_,run_underlying ht,hv,hst]
theorem zn7 (b:Nat) (ty:TypeId):∀(vs:List Value) (o:Nat) (w:World) (cur:Array Value),w.heap[b]? = some (.cells cur ty (0,0)) ->
  ∃cur',(w.setCells b o vs).heap[b]? = some (.cells cur' ty (0,0))∧cur'.size=cur.size∧(∀t,t<o∨o+vs.length<=t->cur'[t]? = cur[t]?)∧(∀t,t<vs.length->o+t<cur.size->cur'[o+t]? = vs[t]?)
 |[],o,w,cur,h=>⟨cur,h,rfl,λ_ _=>rfl,λt ht=>by simp at ht⟩
 |v::r,o,w,cur,h=>by
  have h1:(w.setCell ⟨b,o,none⟩ v).heap[b]? = some (.cells (cur.setIfInBounds o v) ty (0,0)):=by
   simp [World.setCell,Array.getElem?_modify,h]
  obtain ⟨cur',k1,k2,k3,k4⟩:=zn7 b ty r (o+1) _ _ h1;refine ⟨cur',k1,by simpa using k2,λt ht => ?_,λt ht hs => ?_⟩
  · simp only [List.length_cons] at ht;rw [k3 t (by omega),Array.getElem?_setIfInBounds,Qbu (by omega)]
  · cases t with
    |zero=>
     rw [Nat.add_zero,k3 o (by omega),Array.getElem?_setIfInBounds,Qbt rfl]
     simp;omega
    |succ t=>
     have:=k4 t (by simpa using ht) (by simp;omega);rw [show o+(t+1)=o+1+t by omega,this];simp
theorem zmp (b:Nat):∀(vs:List Value) (o:Nat) (w:World),
  (w.setCells b o vs).os=w.os∧(w.setCells b o vs).tape=w.tape∧(w.setCells b o vs).output=w.output∧(w.setCells b o vs).heap.size=w.heap.size∧∀k,k≠b->(w.setCells b o vs).heap[k]? = w.heap[k]?
 |[],o,w=>⟨rfl,rfl,rfl,rfl,λ_ _=>rfl⟩
 |v::r,o,w=>by
  obtain ⟨h1,h2,h3,h4,h5⟩:=zmp b r (o+1) (w.setCell ⟨b,o,none⟩ v);refine ⟨h1,h2,h3,h4.trans (by simp [World.setCell]),λk hk=>(h5 k hk).trans ?_⟩;have hne:¬b=k:=λe=>hk e.symm
  simp only [World.setCell];rw [Array.getElem?_modify];simp [hne]
set_option maxHeartbeats 4000000 in
set_option maxRecDepth 1000000 in
theorem Tryz.z04n:Ab.yk3 Tryz.prog 45 3:=λblk cap i j n cur ty w hb hn hcs hcm hij hj h1=>by
 have mixed:Tryz.prog.follows .mixedOrders=true:=by kernel_rfl
 have t23:Tryz.prog.underlying 23=some (.slice 51):=by kernel_rfl
 have hinf:(Tryz.prog.info? 51).map (λi=>(i.zero.map (·.cells.size),i.size))=some (some 3,3):=by kernel_rfl
 obtain ⟨i0,hi0,hz1⟩:∃i0,Tryz.prog.info? 51=some i0∧i0.size=3:=by
  cases hi:Tryz.prog.info? 51 with
  |none=>rw [hi] at hinf;cases hinf
  |some i0=>rw [hi] at hinf;simp at hinf;exact ⟨i0,rfl,hinf.2⟩
 obtain ⟨news,hnews⟩:∃news,news=(cur.toList.drop (j * 3)).take ((n-j) * 3):=⟨_,rfl⟩;have hns:n * 3<=cur.size:=Nat.le_trans (Qau 3 hn) hcs;have hlen:news.length=(n-j) * 3:=by rw [hnews];simp;omega
 have hcell:∀t,t<cur.size->w.drew.cell? ⟨blk,t,none⟩=cur[t]? := λt ht=>by
  show w.cell? _=_;simp [World.cell?,hb]
 have hget:∀t,t<(n-j) * 3->news[t]? = cur[j * 3+t]? := λt ht=>by
  rw [hnews,Qaw,Qbt ht,Qbe,Qbg]
 obtain ⟨A,hA,hsrc⟩:∃A:Addr,(if cap=j then some (⟨blk,0,none⟩:Addr) else some ⟨blk,j * 3,none⟩)=some A∧Aside (∀t u,news[t]? = some u->w.drew.cell? (A.add t)=some u):=by
  by_cases h:cap=j
  ·refine ⟨⟨blk,0,none⟩,by simp [h],λt u hu => ?_⟩;have h0:news.length=0:=by rw [hlen];omega
   rw [List.length_eq_zero_iff.1 h0] at hu;simp at hu
  ·refine ⟨⟨blk,j * 3,none⟩,by simp [h],λt u hu => ?_⟩
   have ht:t<(n-j) * 3:=by
    have:=(Qaa.1 hu).1;rwa [hlen] at this
   rw [hget t ht] at hu;rw [Addr.add_lit,hcell _ (by omega)];exact hu
 have s1:Aside (news.length=(n-j) * 3):=hlen
 have s2:Aside (∀u∈news,u.oneCell'=true):=by
  intro u hu;obtain ⟨t,ht⟩:=Qbl hu;have hlt:t<(n-j) * 3:=by have:=(Qaa.1 ht).1;rwa [hlen] at this
  rw [hget t hlt] at ht;have:=h1 (j * 3+t) (by omega);rw [Qae,ht] at this;exact this
 have s3:Aside (∀t,t<news.length->(w.drew.cell? ⟨blk,0+i * 3+t,none⟩).isSome=true∧w.drew.frozen? ⟨blk,0+i * 3+t,none⟩=false):=by
  intro t ht;rw [hlen] at ht;have hlt:i * 3+t<cur.size:=by omega
  rw [Nat.zero_add,hcell _ hlt,Qas hlt];exact ⟨rfl,by show w.frozen? _=false;simp [World.frozen?,hb]⟩
 have hic:i<=cap:=by omega
 have hjc:j<=cap:=by omega
 have hlt:i<j:=hij
 obtain ⟨z,hz,hzc,hzo⟩:∃z,(∀w,(zeroValue 51).run Tryz.prog w = .ok z w)∧z.cells.size=3∧z.cells.all (·.oneCell')=true:=by
  have hinf2:(Tryz.prog.info? 51).map (λi=>i.zero.map (λz=>(z.cells.size,z.cells.all (·.oneCell'))))=some (some (3,true)):=by kernel_rfl
  rw [hi0] at hinf2;simp only [Qbn,Qbq] at hinf2
  cases hz:i0.zero with
  |none=>rw [hz] at hinf2;cases hinf2
  |some z=>
   rw [hz] at hinf2;simp only [Qbn,Qbq,Qbv] at hinf2;exact ⟨z,λw=>by simp [zeroValue,typeInfo,hi0,hz],hinf2.1,hinf2.2⟩
 obtain ⟨zs,hzs⟩:∃zs,zs=(Builtin.zeroCells z.cells (n-(i+(n-j)))).toList:=⟨_,rfl⟩;have hzl:zs.length=(n-(i+(n-j))) * 3:=by rw [hzs];simp [Builtin.zeroCells,hzc]
 obtain ⟨cur1,c1,c2,c3,c4⟩:=zn7 blk ty news (i * 3) w.drew cur hb;obtain ⟨W2,hW2⟩:∃W2,W2=(w.drew.setCells blk (i * 3) news).setCells blk ((i+(n-j)) * 3) zs:=⟨_,rfl⟩;obtain ⟨cur2,e1,e2,e3,e4⟩:=zn7 blk ty zs ((i+(n-j)) * 3) _ cur1 c1
 have hcl:∀t,(Builtin.clear_ #[23] t #[.slice (some ⟨blk,(i+(n-j)) * 3,none⟩) (n-(i+(n-j))) (cap-(i+(n-j)))]).run Tryz.prog (w.drew.setCells blk (i * 3) news) = .ok (.tuple #[]) W2:=by
  intro t;rw [hW2,hzs];refine y4c _ 23 51 t z t23 hz blk _ _ _ (by omega) ?_ ?_ ?_
  ·intro u hu;obtain ⟨q,hq⟩:=Qbl hu;simp only [Builtin.zeroCells,Qbg,Array.getElem?_map] at hq;have hlt:q % z.cells.size<z.cells.size:=Nat.mod_lt _ (by omega)
   cases hr:(Array.range ((n-(i+(n-j))) * z.cells.size))[q]? with
   |none=>rw [hr] at hq;cases hq
   |some q'=>
    rw [hr] at hq;have hlt:q' % z.cells.size<z.cells.size:=Nat.mod_lt _ (by omega);simp only [Qbn,Qbq] at hq;subst hq;rw [getElem!_pos z.cells _ hlt];exact (Array.all_eq_true.1 hzo) _ hlt
  ·intro q hq;rw [<-hzs,hzl] at hq;simp only [World.cell?,c1];have:(i+(n-j)) * 3+q<cur1.size:=by rw [c2];omega
   simp [Qas this]
  ·intro q hq;simp [World.frozen?,c1]
 have hfin:Aside (W2.os=w.os∧W2.tape=w.tape∧W2.output=w.output∧W2.heap.size=w.heap.size∧(∀b,b≠blk->W2.heap[b]? = w.heap[b]?) ∧
  ∃cur',W2.heap[blk]? = some (.cells cur' ty (0,0))∧cur'.size=cur.size∧(∀t,t<i * 3->cur'[t]? = cur[t]?)∧∀t,t<(n-j) * 3->cur'[i * 3+t]? = cur[j * 3+t]?):=by
  obtain ⟨f1,f2,f3,f4,f5⟩:=zmp blk news (i * 3) w.drew;obtain ⟨g1,g2,g3,g4,g5⟩:=zmp blk zs ((i+(n-j)) * 3) (w.drew.setCells blk (i * 3) news);rw [hW2];refine ⟨g1.trans f1,g2.trans f2,g3.trans f3,g4.trans f4,λb hb'=>(g5 b hb').trans (f5 b hb'),cur2,e1,e2.trans c2,λt ht => ?_,λt ht => ?_⟩
  ·rw [e3 t (by omega),c3 t (by omega)]
  ·rw [e3 _ (by omega),c4 t (by omega) (by omega),hget t ht]
 have hA2:=hA;clear hnews hcell hget h1 hzs hzl c1 c2 c3 c4 e1 e2 e3 e4 hW2
 go_enter Tryz.func45,Tryz.ntmps45
 go_wp2_with fail
 go_region_law_o (refine step_append_room rfl (.tmp 22) (.tmp 25) 23 rfl 51 i0 3 t23 hi0 hz1 blk 0 i cap (by simp [Act.eval,Act.put]) A (n-j) (cap-j) news (by simp [Act.eval,Act.put]) s1.out hsrc.out s2.out (by omega) s3.out ?_)
 go_wp2_with fail
 all_goals (go_ret;rw [show n-(j-i)=i+(n-j) by omega];exact ⟨rfl,hfin.out⟩)
end Go.Proofs
namespace Go.Proofs.YtomdnlaakelghaaGreat
open Go Go.Ab
set_option linter.unusedVariables false
def z2p:Nat->List (List UInt8)->Option (List (List UInt8)):=λ_ xs=>if xs.length<4611686018427387904 then some (z71 xs) else none
noncomputable def z8c:FI dat:=ysh dat 98 9 z2p
theorem zkm:FOk Tryz.prog z8c :=
 z030 (λ_ _=>Tryz.call98 _ _) (λblk cap ss w h1 h2 h3=>Any.slices_Sort_string Tryz.yv5 blk 0 cap ss w h1 h2 h3) (λp cap w=>Any.slices_Sort_string_none Tryz.yv5 p cap w)
def z7a:Nat->List (List UInt8)->Option (List (List UInt8)):=λ_ xs=>if xs.length<=8388608 then some xs else none
noncomputable def z7w:FI dat:=ypr dat 37 .str z7a
theorem zk1:FOk Tryz.prog z7w :=
 ywp (kz2 _) (ty:=9) (bytes:=16) (by decide) (by decide) (λ_ _=>Tryz.call37 _ _) (λa n c cells w h1 h2 h3 h4 h5=>Tryz.yyg a n c cells w h1 h2 h3 h4 h5) Tryz.yy7
def z3a:Nat->Int->Int->List yz3->Option (List yz3):=λ_ i j xs=>yiv xs i j
noncomputable def z3o:FI dat:=yyv dat 45 51 7 (λn xs i j=>z3a n i j xs)
theorem zgv:FOk Tryz.prog z3o:=z04j (by decide) (λ_ _=>Tryz.call45 _ _) Tryz.z04n
set_option maxRecDepth 100000
set_option maxHeartbeats 4000000
mutual
def z99:Nat->kz1->Int->Option Bool
 |0,_,_=>none
 |n+1,a0,a1=>
  pIf (a1==0)
   (z2d n a1 true a0.re)
   (pIf (decide ((a0.str.length:Int)>200))
     (z2d n a1 true a0.re)
     (z2d n a1 (decide ((a0.list.length:Int)>150)) a0.re))
def z2d:Nat->Int->Bool->kz1->Option Bool
 |0,_,_,_=>none
 |n+1,a0,a1,a2=>
  pIf a1
   (some true)
   (z45 n 0 a0 a2.re)
def z45:Nat->Int->Int->kz1->Option Bool
 |0,_,_,_=>none
 |n+1,a0,a1,a2=>
  pIf (decide (a0<(a2.list.length:Int)))
   ((ix a2.list a0).bind λx0=>
   (z99 n x0.re (IntKind.i64.wrap (a1-1))).bind λy1=>
   pIf y1
    (some true)
    (z45 n (IntKind.i64.wrap (a0+1)) a1 a2.re))
   (some false)
end
def yhn:LSh:=⟨[(4,(.d .bool))],[],0,35,[]⟩
noncomputable def zcu:FI dat:=FI.of dat 89 35 0 [(.d (.st 1)),(.d (.int .i64))] [] [(.d .bool)] [] true yhn (R:=Bool) (λx=>x.1) (λr=>(r,())) (λn x=>z99 n x.1 x.2.1)
 (λn=>[(0,⟨⟨[(1,(.d (.int .i64))),(2,(.ptr 0 0)),(19,(.d .bool))],[(.st 1)],0,35,[]⟩,λx=>z2d n x.1 x.2.1 x.2.2.1⟩),(1,⟨⟨[(5,(.d (.int .i64))),(1,(.d (.int .i64))),(2,(.ptr 0 0))],[(.st 1)],0,35,[]⟩,λx=>z45 n x.1 x.2.1 x.2.2.1⟩)]) (ann [(5,0),(14,1)] (Tryz.f89.body.getD .skip) 0).1
noncomputable def ycc:List (FI dat):=[zcu]++[]
theorem ycl:(zcu).Good Tryz.prog dat (tb ycc):=FI.kz4 (hD:=kz2 _) Tryz.func89 Tryz.ntmps89 Tryz.call89 (by kernel_rfl) (Qac (by kernel_rfl)) (by kernel_rfl) (λn=>by kernel_rfl) (λx=>by kernel_rfl) (λ_=>rfl) ⟨λ_=>rfl,λ_=>rfl,trivial⟩
 (λn=>λx=>(z99.eq_2 _ _ n).trans (by kernel_rfl))
 (λn=>⟨λx=>(z2d.eq_2 _ _ _ n).trans (by kernel_rfl),
  λx=>(z45.eq_2 _ _ _ n).trans (by kernel_rfl),
  trivial⟩)
 (λx=>.inl rfl)
theorem yc5:OkL Tryz.prog [zcu]:=z5f (kz2 _) (bs:=[]) trivial ⟨ycl,trivial⟩
theorem y8n:FOk Tryz.prog zcu:=yc5.1
mutual
def z7f:Nat->kz1->Option Int
 |0,_=>none
 |n+1,a0=>
  z3v n 0 1 a0.re
def z3v:Nat->Int->Int->kz1->Option Int
 |0,_,_,_=>none
 |n+1,a0,a1,a2=>
  pIf (decide (a0<(a2.list.length:Int)))
   (z4j n a0 a1 (a2.kind==4) a2.re)
   (z4j n a0 a1 false a2.re)
def z4j:Nat->Int->Int->Bool->kz1->Option Int
 |0,_,_,_,_=>none
 |n+1,a0,a1,a2,a3=>
  pIf a2
   ((ix a3.list a0).bind λx0=>
   (z7f n x0.re).bind λy1=>
   z3v n (IntKind.i64.wrap (a0+1)) (IntKind.i64.wrap (a1+y1)) a3.re)
   (some a1)
end
def ycr:LSh:=⟨[(2,(.d (.int .i64)))],[],0,26,[]⟩
noncomputable def z8j:FI dat:=FI.of dat 90 26 0 [(.d (.st 1))] [] [(.d (.int .i64))] [] true ycr (R:=Int) (λx=>x.1) (λr=>(r,())) (λn x=>z7f n x.1)
 (λn=>[(0,⟨⟨[(4,(.d (.int .i64))),(1,(.ptr 0 0)),(3,(.d (.int .i64)))],[(.st 1)],0,26,[]⟩,λx=>z3v n x.1 x.2.1 x.2.2.1⟩),(1,⟨⟨[(1,(.ptr 0 0)),(4,(.d (.int .i64))),(3,(.d (.int .i64))),(14,(.d .bool))],[(.st 1)],0,26,[]⟩,λx=>z4j n x.1 x.2.1 x.2.2.1 x.2.2.2.1⟩)]) (ann [(8,0),(12,1)] (Tryz.f90.body.getD .skip) 0).1
noncomputable def yf8:List (FI dat):=[z8j]++[]
theorem yez:(z8j).Good Tryz.prog dat (tb yf8):=FI.kz4 (hD:=kz2 _) Tryz.func90 Tryz.ntmps90 Tryz.call90 (by kernel_rfl) (Qac (by kernel_rfl)) (by kernel_rfl) (λn=>by kernel_rfl) (λx=>by kernel_rfl) (λ_=>rfl) ⟨λ_=>rfl,λ_=>rfl,trivial⟩
 (λn=>λx=>(z7f.eq_2 _ n).trans (by kernel_rfl))
 (λn=>⟨λx=>(z3v.eq_2 _ _ _ n).trans (by kernel_rfl),
  λx=>(z4j.eq_2 _ _ _ _ n).trans (by kernel_rfl),
  trivial⟩)
 (λx=>.inl rfl)
theorem ydw:OkL Tryz.prog [z8j]:=z5f (kz2 _) (bs:=[]) trivial ⟨yez,trivial⟩
theorem ztt:FOk Tryz.prog z8j:=ydw.1
def zb3:Nat->kz1->Option Bool
 |0,_=>none
 |n+1,a0=>
  (z99 n a0.re 10).bind λy0=>
  pIf y0
   (some true)
   ((z7f n a0.re).bind λy1=>
   some (decide (y1>150)))
def yda:LSh:=⟨[(2,(.d .bool))],[],0,10,[]⟩
noncomputable def zfr:FI dat:=FI.of dat 59 10 0 [(.d (.st 1))] [] [(.d .bool)] [] true yda (R:=Bool) (λx=>x.1) (λr=>(r,())) (λn x=>zb3 n x.1)
 (λn=>[]) (ann [] (Tryz.f59.body.getD .skip) 0).1
noncomputable def yhc:List (FI dat):=[zcu,z8j]
theorem yef:(zfr).Good Tryz.prog dat (tb yhc):=FI.kz4 (hD:=kz2 _) Tryz.func59 Tryz.ntmps59 Tryz.call59 (by kernel_rfl) (Qac (by kernel_rfl)) (by kernel_rfl) (λn=>by kernel_rfl) (λx=>by kernel_rfl) (λ_=>rfl) trivial
 (λn=>λx=>(zb3.eq_2 _ n).trans (by kernel_rfl))
 (λn=>trivial)
 (λx=>.inl rfl)
theorem yd5:OkL Tryz.prog [zfr]:=kz7 (kz2 _) (bs:=[zcu,z8j]) ⟨y8n,ztt,trivial⟩ yef
theorem ya8:FOk Tryz.prog zfr:=yd5.1
mutual
def z98:Nat->yz1->Int->Option Bool
 |0,_,_=>none
 |n+1,a0,a1=>
  pIf (a1==0)
   (z0x n a1 true a0.re)
   (pIf (decide ((a0.args.length:Int)>150))
     (z0x n a1 true a0.re)
     (pIf (decide ((a0.name.length:Int)>200))
       (z0x n a1 true a0.re)
       ((zb3 n a0.value.re).bind λy0=>
       z0x n a1 y0 a0.re)))
def z0x:Nat->Int->Bool->yz1->Option Bool
 |0,_,_,_=>none
 |n+1,a0,a1,a2=>
  pIf a1
   (some true)
   (z4d n 0 a0 a2.re)
def z4d:Nat->Int->Int->yz1->Option Bool
 |0,_,_,_=>none
 |n+1,a0,a1,a2=>
  pIf (decide (a0<(a2.args.length:Int)))
   ((ix a2.args a0).bind λx1=>
   (z98 n x1.re (IntKind.i64.wrap (a1-1))).bind λy2=>
   pIf y2
    (some true)
    (z4d n (IntKind.i64.wrap (a0+1)) a1 a2.re))
   (some false)
end
def ygj:LSh:=⟨[(4,(.d .bool))],[],0,40,[]⟩
noncomputable def zd1:FI dat:=FI.of dat 23 40 0 [(.d (.st 2)),(.d (.int .i64))] [] [(.d .bool)] [] true ygj (R:=Bool) (λx=>x.1) (λr=>(r,())) (λn x=>z98 n x.1 x.2.1)
 (λn=>[(0,⟨⟨[(1,(.d (.int .i64))),(2,(.ptr 0 0)),(24,(.d .bool))],[(.st 2)],0,40,[]⟩,λx=>z0x n x.1 x.2.1 x.2.2.1⟩),(1,⟨⟨[(5,(.d (.int .i64))),(1,(.d (.int .i64))),(2,(.ptr 0 0))],[(.st 2)],0,40,[]⟩,λx=>z4d n x.1 x.2.1 x.2.2.1⟩)]) (ann [(5,0),(14,1)] (Tryz.f23.body.getD .skip) 0).1
noncomputable def ygt:List (FI dat):=[zd1]++[zfr]
theorem ycm:(zd1).Good Tryz.prog dat (tb ygt):=FI.kz4 (hD:=kz2 _) Tryz.func23 Tryz.ntmps23 Tryz.call23 (by kernel_rfl) (Qac (by kernel_rfl)) (by kernel_rfl) (λn=>by kernel_rfl) (λx=>by kernel_rfl) (λ_=>rfl) ⟨λ_=>rfl,λ_=>rfl,trivial⟩
 (λn=>λx=>(z98.eq_2 _ _ n).trans (by kernel_rfl))
 (λn=>⟨λx=>(z0x.eq_2 _ _ _ n).trans (by kernel_rfl),
  λx=>(z4d.eq_2 _ _ _ n).trans (by kernel_rfl),
  trivial⟩)
 (λx=>.inl rfl)
theorem ye1:OkL Tryz.prog [zd1]:=z5f (kz2 _) (bs:=[zfr]) ⟨ya8,trivial⟩ ⟨ycm,trivial⟩
theorem yaj:FOk Tryz.prog zd1:=ye1.1
mutual
def z7d:Nat->yz1->Option Int
 |0,_=>none
 |n+1,a0=>
  z4f n 0 1 a0.re
def z4f:Nat->Int->Int->yz1->Option Int
 |0,_,_,_=>none
 |n+1,a0,a1,a2=>
  pIf (decide (a0<(a2.args.length:Int)))
   ((ix a2.args a0).bind λx0=>
   (z7d n x0.re).bind λy1=>
   z4f n (IntKind.i64.wrap (a0+1)) (IntKind.i64.wrap (a1+y1)) a2.re)
   (some a1)
end
def yfn:LSh:=⟨[(2,(.d (.int .i64)))],[],0,21,[]⟩
noncomputable def z8h:FI dat:=FI.of dat 24 21 0 [(.d (.st 2))] [] [(.d (.int .i64))] [] true yfn (R:=Int) (λx=>x.1) (λr=>(r,())) (λn x=>z7d n x.1)
 (λn=>[(0,⟨⟨[(4,(.d (.int .i64))),(1,(.ptr 0 0)),(3,(.d (.int .i64)))],[(.st 2)],0,21,[]⟩,λx=>z4f n x.1 x.2.1 x.2.2.1⟩)]) (ann [(8,0)] (Tryz.f24.body.getD .skip) 0).1
noncomputable def ydf:List (FI dat):=[z8h]++[]
theorem yhf:(z8h).Good Tryz.prog dat (tb ydf):=FI.kz4 (hD:=kz2 _) Tryz.func24 Tryz.ntmps24 Tryz.call24 (by kernel_rfl) (Qac (by kernel_rfl)) (by kernel_rfl) (λn=>by kernel_rfl) (λx=>by kernel_rfl) (λ_=>rfl) ⟨λ_=>rfl,trivial⟩
 (λn=>λx=>(z7d.eq_2 _ n).trans (by kernel_rfl))
 (λn=>⟨λx=>(z4f.eq_2 _ _ _ n).trans (by kernel_rfl),
  trivial⟩)
 (λx=>.inl rfl)
theorem yc6:OkL Tryz.prog [z8h]:=z5f (kz2 _) (bs:=[]) trivial ⟨yhf,trivial⟩
theorem ztl:FOk Tryz.prog z8h:=yc6.1
def z41:Nat->yz1->Option Bool
 |0,_=>none
 |n+1,a0=>
  (z98 n a0.re 16).bind λy0=>
  pIf y0
   (some true)
   ((z7d n a0.re).bind λy1=>
   some (decide (y1>150)))
def ycj:LSh:=⟨[(2,(.d .bool))],[],0,10,[]⟩
noncomputable def za8:FI dat:=FI.of dat 10 10 0 [(.d (.st 2))] [] [(.d .bool)] [] true ycj (R:=Bool) (λx=>x.1) (λr=>(r,())) (λn x=>z41 n x.1)
 (λn=>[]) (ann [] (Tryz.f10.body.getD .skip) 0).1
noncomputable def yhb:List (FI dat):=[zd1,z8h]
theorem yf1:(za8).Good Tryz.prog dat (tb yhb):=FI.kz4 (hD:=kz2 _) Tryz.func10 Tryz.ntmps10 Tryz.call10 (by kernel_rfl) (Qac (by kernel_rfl)) (by kernel_rfl) (λn=>by kernel_rfl) (λx=>by kernel_rfl) (λ_=>rfl) trivial
 (λn=>λx=>(z41.eq_2 _ n).trans (by kernel_rfl))
 (λn=>trivial)
 (λx=>.inl rfl)
theorem ydg:OkL Tryz.prog [za8]:=kz7 (kz2 _) (bs:=[zd1,z8h]) ⟨yaj,ztl,trivial⟩ yf1
theorem zt8:FOk Tryz.prog za8:=ydg.1
def zzs:Nat->(List yz1)->Option yz1
 |0,_=>none
 |n+1,a0=>
  some (yz1.mk 18 (kz1.mk 0 (kz6.mk 0 0) false [] []) [] a0)
def yjq:LSh:=⟨[(2,(.ptr 0 0))],[(.st 2)],0,5,[]⟩
noncomputable def z4b:FI dat:=FI.of dat 25 5 0 [(.d (.sl (.st 2)))] [] [(.d (.st 2))] [] true yjq (R:=yz1) (λx=>x.1) (λr=>(r,())) (λn x=>zzs n x.1)
 (λn=>[]) (ann [] (Tryz.f25.body.getD .skip) 0).1
noncomputable def yk2:List (FI dat):=[]
theorem yly:(z4b).Good Tryz.prog dat (tb yk2):=FI.kz4 (hD:=kz2 _) Tryz.func25 Tryz.ntmps25 Tryz.call25 (by kernel_rfl) (Qac (by kernel_rfl)) (by kernel_rfl) (λn=>by kernel_rfl) (λx=>by kernel_rfl) (λ_=>rfl) trivial
 (λn=>λx=>(zzs.eq_2 _ n).trans (by kernel_rfl))
 (λn=>trivial)
 (λx=>.inl rfl)
theorem yjo:OkL Tryz.prog [z4b]:=kz7 (kz2 _) (bs:=[]) trivial yly
theorem zju:FOk Tryz.prog z4b:=yjo.1
mutual
def z6g:Nat->yz4->Option Bool
 |0,_=>none
 |n+1,a0=>
  pIf (decide ((a0.do_.length:Int)>15))
   (z0q n true a0.re)
   ((z41 n a0.when_.re).bind λy0=>
   z0q n y0 a0.re)
def z0q:Nat->Bool->yz4->Option Bool
 |0,_,_=>none
 |n+1,a0,a1=>
  pIf a0
   (some true)
   (zzy n 0 a1.re)
def zzy:Nat->Int->yz4->Option Bool
 |0,_,_=>none
 |n+1,a0,a1=>
  pIf (decide (a0<(a1.do_.length:Int)))
   ((ix a1.do_ a0).bind λx1=>
   (zzs n x1.args).bind λy2=>
   (z41 n y2.re).bind λy3=>
   pIf y3
    (kzx n a0 true a1.re)
    ((ix a1.do_ a0).bind λx4=>
    pIf (decide ((x4.items.length:Int)>15))
     (kzx n a0 true a1.re)
     ((ix a1.do_ a0).bind λx5=>
     kzx n a0 (decide ((x5.name.length:Int)>100)) a1.re)))
   (some false)
def kzx:Nat->Int->Bool->yz4->Option Bool
 |0,_,_,_=>none
 |n+1,a0,a1,a2=>
  pIf a1
   (some true)
   (zzx n 0 a0 a2.re)
def zzx:Nat->Int->Int->yz4->Option Bool
 |0,_,_,_=>none
 |n+1,a0,a1,a2=>
  (ix a2.do_ a1).bind λx6=>
  pIf (decide (a0<(x6.items.length:Int)))
   ((ix a2.do_ a1).bind λx7=>
   (ix x7.items a0).bind λx8=>
   (zzs n x8.args).bind λy9=>
   (z41 n y9.re).bind λy10=>
   pIf y10
    (z0m n a1 a0 true a2.re)
    ((ix a2.do_ a1).bind λx11=>
    (ix x11.items a0).bind λx12=>
    z0m n a1 a0 (decide ((x12.name.length:Int)>100)) a2.re))
   (zzy n (IntKind.i64.wrap (a1+1)) a2.re)
def z0m:Nat->Int->Int->Bool->yz4->Option Bool
 |0,_,_,_,_=>none
 |n+1,a0,a1,a2,a3=>
  pIf a2
   (some true)
   (zzx n (IntKind.i64.wrap (a1+1)) a0 a3.re)
end
def y0d:LSh:=⟨[(2,(.d .bool))],[],0,86,[]⟩
noncomputable def z9x:FI dat:=FI.of dat 11 86 0 [(.d (.st 6))] [] [(.d .bool)] [] true y0d (R:=Bool) (λx=>x.1) (λr=>(r,())) (λn x=>z6g n x.1)
 (λn=>[(0,⟨⟨[(1,(.ptr 0 0)),(13,(.d .bool))],[(.st 6)],0,86,[]⟩,λx=>z0q n x.1 x.2.1⟩),(1,⟨⟨[(3,(.d (.int .i64))),(1,(.ptr 0 0))],[(.st 6)],0,86,[]⟩,λx=>zzy n x.1 x.2.1⟩),(2,⟨⟨[(3,(.d (.int .i64))),(1,(.ptr 0 0)),(48,(.d .bool))],[(.st 6)],0,86,[]⟩,λx=>kzx n x.1 x.2.1 x.2.2.1⟩),(3,⟨⟨[(4,(.d (.int .i64))),(3,(.d (.int .i64))),(1,(.ptr 0 0))],[(.st 6)],0,86,[]⟩,λx=>zzx n x.1 x.2.1 x.2.2.1⟩),(4,⟨⟨[(3,(.d (.int .i64))),(1,(.ptr 0 0)),(4,(.d (.int .i64))),(85,(.d .bool))],[(.st 6)],0,86,[]⟩,λx=>z0m n x.1 x.2.1 x.2.2.1 x.2.2.2.1⟩)]) (ann [(5,0),(14,1),(26,2),(34,3),(45,4)] (Tryz.f11.body.getD .skip) 0).1
noncomputable def y0a:List (FI dat):=[za8,z4b]
theorem zyf:(z9x).Good Tryz.prog dat (tb y0a):=FI.kz4 (hD:=kz2 _) Tryz.func11 Tryz.ntmps11 Tryz.call11 (by kernel_rfl) (Qac (by kernel_rfl)) (by kernel_rfl) (λn=>by kernel_rfl) (λx=>by kernel_rfl) (λ_=>rfl) ⟨λ_=>rfl,λ_=>rfl,λ_=>rfl,λ_=>rfl,λ_=>rfl,trivial⟩
 (λn=>λx=>(z6g.eq_2 _ n).trans (by kernel_rfl))
 (λn=>⟨λx=>(z0q.eq_2 _ _ n).trans (by kernel_rfl),
  λx=>(zzy.eq_2 _ _ n).trans (by kernel_rfl),
  λx=>(kzx.eq_2 _ _ _ n).trans (by kernel_rfl),
  λx=>(zzx.eq_2 _ _ _ n).trans (by kernel_rfl),
  λx=>(z0m.eq_2 _ _ _ _ n).trans (by kernel_rfl),
  trivial⟩)
 (λx=>.inl rfl)
theorem y02:OkL Tryz.prog [z9x]:=kz7 (kz2 _) (bs:=[za8,z4b]) ⟨zt8,zju,trivial⟩ zyf
theorem zx8:FOk Tryz.prog z9x:=y02.1
mutual
def z9a:Nat->zz0->Option Bool
 |0,_=>none
 |n+1,a0=>
  pIf (decide ((a0.attrs.length:Int)>25))
   (z4c n true a0)
   (z4c n (decide ((a0.rules.length:Int)>45)) a0)
def z4c:Nat->Bool->zz0->Option Bool
 |0,_,_=>none
 |n+1,a0,a1=>
  pIf a0
   (some true)
   (z2g n 0 a1)
def z2g:Nat->Int->zz0->Option Bool
 |0,_,_=>none
 |n+1,a0,a1=>
  pIf (decide (a0<(a1.attrs.length:Int)))
   ((ix a1.attrs a0).bind λx0=>
   (z41 n x0.value.re).bind λy1=>
   pIf y1
    (z3s n a0 true a1)
    ((ix a1.attrs a0).bind λx2=>
    z3s n a0 (decide ((x2.name.length:Int)>100)) a1))
   (z29 n 0 a1)
def z3s:Nat->Int->Bool->zz0->Option Bool
 |0,_,_,_=>none
 |n+1,a0,a1,a2=>
  pIf a1
   (some true)
   (z2g n (IntKind.i64.wrap (a0+1)) a2)
def z29:Nat->Int->zz0->Option Bool
 |0,_,_=>none
 |n+1,a0,a1=>
  pIf (decide (a0<(a1.rules.length:Int)))
   ((ix a1.rules a0).bind λx3=>
   pIf (decide ((x3.params.length:Int)>10))
    (z2f n a0 true x3 a1)
    (pIf (decide ((x3.cases.length:Int)>10))
      (z2f n a0 true x3 a1)
      (z2f n a0 (decide ((x3.name.length:Int)>100)) x3 a1)))
   (some false)
def z2f:Nat->Int->Bool->yz3->zz0->Option Bool
 |0,_,_,_,_=>none
 |n+1,a0,a1,a2,a3=>
  pIf a1
   (some true)
   (z2a n 0 a0 a2 a3)
def z2a:Nat->Int->Int->yz3->zz0->Option Bool
 |0,_,_,_,_=>none
 |n+1,a0,a1,a2,a3=>
  pIf (decide (a0<(a2.params.length:Int)))
   ((ix a2.params a0).bind λx4=>
   pIf (decide ((x4.length:Int)>100))
    (some true)
    (z2a n (IntKind.i64.wrap (a0+1)) a1 a2 a3))
   (z22 n 0 a1 a2 a3)
def z22:Nat->Int->Int->yz3->zz0->Option Bool
 |0,_,_,_,_=>none
 |n+1,a0,a1,a2,a3=>
  pIf (decide (a0<(a2.cases.length:Int)))
   ((ix a2.cases a0).bind λx5=>
   (z6g n x5.re).bind λy6=>
   pIf y6
    (some true)
    (z22 n (IntKind.i64.wrap (a0+1)) a1 a2 a3))
   (z29 n (IntKind.i64.wrap (a1+1)) a3)
end
def yg5:LSh:=⟨[(2,(.d .bool))],[],0,97,[]⟩
noncomputable def zag:FI dat:=FI.of dat 4 97 0 [(.d (.st 8))] [] [(.d .bool)] [] true yg5 (R:=Bool) (λx=>x.1) (λr=>(r,())) (λn x=>z9a n x.1)
 (λn=>[(0,⟨⟨[(1,(.ptr 0 0)),(17,(.d .bool))],[(.st 8)],0,97,[]⟩,λx=>z4c n x.1 x.2.1⟩),(1,⟨⟨[(3,(.d (.int .i64))),(1,(.ptr 0 0))],[(.st 8)],0,97,[]⟩,λx=>z2g n x.1 x.2.1⟩),(2,⟨⟨[(1,(.ptr 0 0)),(3,(.d (.int .i64))),(41,(.d .bool))],[(.st 8)],0,97,[]⟩,λx=>z3s n x.1 x.2.1 x.2.2.1⟩),(3,⟨⟨[(4,(.d (.int .i64))),(1,(.ptr 0 0))],[(.st 8)],0,97,[]⟩,λx=>z29 n x.1 x.2.1⟩),(4,⟨⟨[(5,(.ptr 0 0)),(1,(.ptr 1 0)),(4,(.d (.int .i64))),(69,(.d .bool))],[(.st 7),(.st 8)],0,97,[]⟩,λx=>z2f n x.1 x.2.1 x.2.2.1 x.2.2.2.1⟩),(5,⟨⟨[(6,(.d (.int .i64))),(5,(.ptr 0 0)),(1,(.ptr 1 0)),(4,(.d (.int .i64)))],[(.st 7),(.st 8)],0,97,[]⟩,λx=>z2a n x.1 x.2.1 x.2.2.1 x.2.2.2.1⟩),(6,⟨⟨[(7,(.d (.int .i64))),(5,(.ptr 0 0)),(1,(.ptr 1 0)),(4,(.d (.int .i64)))],[(.st 7),(.st 8)],0,97,[]⟩,λx=>z22 n x.1 x.2.1 x.2.2.1 x.2.2.2.1⟩)]) (ann [(5,0),(14,1),(25,2),(35,3),(49,4),(58,5),(78,6)] (Tryz.f4.body.getD .skip) 0).1
noncomputable def yh8:List (FI dat):=[za8,z9x]
theorem yds:(zag).Good Tryz.prog dat (tb yh8):=FI.kz4 (hD:=kz2 _) Tryz.func4 Tryz.ntmps4 Tryz.call4 (by kernel_rfl) (Qac (by kernel_rfl)) (by kernel_rfl) (λn=>by kernel_rfl) (λx=>by kernel_rfl) (λ_=>rfl) ⟨λ_=>rfl,λ_=>rfl,λ_=>rfl,λ_=>rfl,λ_=>rfl,λ_=>rfl,λ_=>rfl,trivial⟩
 (λn=>λx=>(z9a.eq_2 _ n).trans (by kernel_rfl))
 (λn=>⟨λx=>(z4c.eq_2 _ _ n).trans (by kernel_rfl),
  λx=>(z2g.eq_2 _ _ n).trans (by kernel_rfl),
  λx=>(z3s.eq_2 _ _ _ n).trans (by kernel_rfl),
  λx=>(z29.eq_2 _ _ n).trans (by kernel_rfl),
  λx=>(z2f.eq_2 _ _ _ _ n).trans (by kernel_rfl),
  λx=>(z2a.eq_2 _ _ _ _ n).trans (by kernel_rfl),
  λx=>(z22.eq_2 _ _ _ _ n).trans (by kernel_rfl),
  trivial⟩)
 (λx=>.inl rfl)
theorem yc0:OkL Tryz.prog [zag]:=kz7 (kz2 _) (bs:=[za8,z9x]) ⟨zt8,zx8,trivial⟩ yds
theorem zti:FOk Tryz.prog zag:=yc0.1
mutual
def zax:Nat->(List yz6)->Option Bool
 |0,_=>none
 |n+1,a0=>
  z4h n 0 a0
def z4h:Nat->Int->(List yz6)->Option Bool
 |0,_,_=>none
 |n+1,a0,a1=>
  pIf (decide (a0<(a1.length:Int)))
   ((ix a1 a0).bind λx0=>
   (ix a1 a0).bind λx1=>
   (z9a n (zz0.mk [(yz5.mk [] x1.value.re)] [x0.rule_])).bind λy2=>
   pIf y2
    (z2b n a1 a0 true)
    ((ix a1 a0).bind λx3=>
    pIf (decide ((x3.name.length:Int)>100))
     (z2b n a1 a0 true)
     ((ix a1 a0).bind λx4=>
     z2b n a1 a0 (decide ((x4.to_.length:Int)>100)))))
   (some (decide ((a1.length:Int)>45)))
def z2b:Nat->(List yz6)->Int->Bool->Option Bool
 |0,_,_,_=>none
 |n+1,a0,a1,a2=>
  pIf a2
   (some true)
   (z4h n (IntKind.i64.wrap (a1+1)) a0)
end
def ygq:LSh:=⟨[(2,(.d .bool))],[],0,46,[]⟩
noncomputable def zfo:FI dat:=FI.of dat 5 46 0 [(.d (.sl (.st 9)))] [] [(.d .bool)] [] true ygq (R:=Bool) (λx=>x.1) (λr=>(r,())) (λn x=>zax n x.1)
 (λn=>[(0,⟨⟨[(3,(.d (.int .i64))),(0,(.d (.sl (.st 9))))],[],0,46,[]⟩,λx=>z4h n x.1 x.2.1⟩),(1,⟨⟨[(0,(.d (.sl (.st 9)))),(3,(.d (.int .i64))),(42,(.d .bool))],[],0,46,[]⟩,λx=>z2b n x.1 x.2.1 x.2.2.1⟩)]) (ann [(6,0),(17,1)] (Tryz.f5.body.getD .skip) 0).1
noncomputable def yg2:List (FI dat):=[zag]
theorem ycp:(zfo).Good Tryz.prog dat (tb yg2):=FI.kz4 (hD:=kz2 _) Tryz.func5 Tryz.ntmps5 Tryz.call5 (by kernel_rfl) (Qac (by kernel_rfl)) (by kernel_rfl) (λn=>by kernel_rfl) (λx=>by kernel_rfl) (λ_=>rfl) ⟨λ_=>rfl,λ_=>rfl,trivial⟩
 (λn=>λx=>(zax.eq_2 _ n).trans (by kernel_rfl))
 (λn=>⟨λx=>(z4h.eq_2 _ _ n).trans (by kernel_rfl),
  λx=>(z2b.eq_2 _ _ _ n).trans (by kernel_rfl),
  trivial⟩)
 (λx=>.inl rfl)
theorem ye2:OkL Tryz.prog [zfo]:=kz7 (kz2 _) (bs:=[zag]) ⟨zti,trivial⟩ ycp
theorem y87:FOk Tryz.prog zfo:=ye2.1
mutual
def zak:Nat->kz1->Option kz1
 |0,_=>none
 |n+1,a0=>
  z6r n 0 a0.kind a0.num.num a0.num.den a0.truth a0.str a0.re 0 0 0 false [] [] []
def z6r:Nat->Int->Int->Int->Int->Bool->(List UInt8)->kz1->Int->Int->Int->Bool->(List UInt8)->(List kz1)->(List kz1)->Option kz1
 |0,_,_,_,_,_,_,_,_,_,_,_,_,_,_=>none
 |n+1,a0,a1,a2,a3,a4,a5,a6,a7,a8,a9,a10,a11,a12,a13=>
  pIf (decide (a0<(a6.list.length:Int)))
   ((ix a6.list a0).bind λx0=>
   (zak n x0.re).bind λy1=>
   (ext a12 [y1.re]).bind λx2=>
   z6r n (IntKind.i64.wrap (a0+1)) a1 a2 a3 a4 a5 a6.re a7 a8 a9 a10 a11 x2 a13)
   (some (kz1.mk a1 (kz6.mk a2 a3) a4 a5 a12))
end
def yj5:LSh:=⟨[(2,(.ptr 0 0))],[(.st 1)],0,26,[]⟩
noncomputable def zez:FI dat:=FI.of dat 26 26 0 [(.d (.st 1))] [] [(.d (.st 1))] [] true yj5 (R:=kz1) (λx=>x.1) (λr=>(r,())) (λn x=>zak n x.1)
 (λn=>[(0,⟨⟨[(4,(.d (.int .i64))),(3,(.ptr 0 0)),(1,(.ptr 1 0)),(2,(.ptr 2 0))],[(.cells [(.d (.int .u8)),(.d (.int .i64)),(.d (.int .i64)),(.d .bool),(.d .str),(.own 3)]),(.st 1),(.cells [(.d (.int .u8)),(.d (.int .i64)),(.d (.int .i64)),(.d .bool),(.d .str),(.own 4)]),(.acc 42 (.st 1) true),(.acc 42 (.st 1) true)],0,26,[]⟩,λx=>z6r n x.1 x.2.1 x.2.2.1 x.2.2.2.1 x.2.2.2.2.1 x.2.2.2.2.2.1 x.2.2.2.2.2.2.1 x.2.2.2.2.2.2.2.1 x.2.2.2.2.2.2.2.2.1 x.2.2.2.2.2.2.2.2.2.1 x.2.2.2.2.2.2.2.2.2.2.1 x.2.2.2.2.2.2.2.2.2.2.2.1 x.2.2.2.2.2.2.2.2.2.2.2.2.1 x.2.2.2.2.2.2.2.2.2.2.2.2.2.1⟩)]) (ann [(10,0)] (Tryz.f26.body.getD .skip) 0).1
noncomputable def yj6:List (FI dat):=[zez]++[]
theorem ymk:(zez).Good Tryz.prog dat (tb yj6):=FI.kz4 (hD:=kz2 _) Tryz.func26 Tryz.ntmps26 Tryz.call26 (by kernel_rfl) (Qac (by kernel_rfl)) (by kernel_rfl) (λn=>by kernel_rfl) (λx=>by kernel_rfl) (λ_=>rfl) ⟨λ_=>rfl,trivial⟩
 (λn=>λx=>(zak.eq_2 _ n).trans (by kernel_rfl))
 (λn=>⟨λx=>(z6r.eq_2 _ _ _ _ _ _ _ _ _ _ _ _ _ _ n).trans (by kernel_rfl),
  trivial⟩)
 (λx=>.inl rfl)
theorem yny:OkL Tryz.prog [zez]:=z5f (kz2 _) (bs:=[]) trivial ⟨ymk,trivial⟩
theorem ydb:FOk Tryz.prog zez:=yny.1
mutual
def z2m:Nat->yz1->Option yz1
 |0,_=>none
 |n+1,a0=>
  (zak n a0.value.re).bind λy0=>
  z5x n 0 a0.op y0.kind y0.num.num y0.num.den y0.truth y0.str y0.list a0.name a0.re 0 0 0 0 false [] [] [] [] []
def z5x:Nat->Int->Int->Int->Int->Int->Bool->(List UInt8)->(List kz1)->(List UInt8)->yz1->Int->Int->Int->Int->Bool->(List UInt8)->(List kz1)->(List UInt8)->(List yz1)->(List yz1)->Option yz1
 |0,_,_,_,_,_,_,_,_,_,_,_,_,_,_,_,_,_,_,_,_=>none
 |n+1,a0,a1,a2,a3,a4,a5,a6,a7,a8,a9,a10,a11,a12,a13,a14,a15,a16,a17,a18,a19=>
  pIf (decide (a0<(a9.args.length:Int)))
   ((ix a9.args a0).bind λx1=>
   (z2m n x1.re).bind λy2=>
   (ext a18 [y2.re]).bind λx3=>
   z5x n (IntKind.i64.wrap (a0+1)) a1 a2 a3 a4 a5 a6 a7 a8 a9.re a10 a11 a12 a13 a14 a15 a16 a17 x3 a19)
   (some (yz1.mk a1 (kz1.mk a2 (kz6.mk a3 a4) a5 a6 a7) a8 a18))
end
def yno:LSh:=⟨[(2,(.ptr 0 0))],[(.st 2)],0,32,[]⟩
noncomputable def z0u:FI dat:=FI.of dat 12 32 0 [(.d (.st 2))] [] [(.d (.st 2))] [] true yno (R:=yz1) (λx=>x.1) (λr=>(r,())) (λn x=>z2m n x.1)
 (λn=>[(0,⟨⟨[(4,(.d (.int .i64))),(3,(.ptr 0 0)),(1,(.ptr 1 0)),(2,(.ptr 2 0))],[(.cells [(.d (.int .u8)),(.d (.int .u8)),(.d (.int .i64)),(.d (.int .i64)),(.d .bool),(.d .str),(.d (.sl (.st 1))),(.d .str),(.own 3)]),(.st 2),(.cells [(.d (.int .u8)),(.d (.int .u8)),(.d (.int .i64)),(.d (.int .i64)),(.d .bool),(.d .str),(.d (.sl (.st 1))),(.d .str),(.own 4)]),(.acc 45 (.st 2) true),(.acc 45 (.st 2) true)],0,32,[]⟩,λx=>z5x n x.1 x.2.1 x.2.2.1 x.2.2.2.1 x.2.2.2.2.1 x.2.2.2.2.2.1 x.2.2.2.2.2.2.1 x.2.2.2.2.2.2.2.1 x.2.2.2.2.2.2.2.2.1 x.2.2.2.2.2.2.2.2.2.1 x.2.2.2.2.2.2.2.2.2.2.1 x.2.2.2.2.2.2.2.2.2.2.2.1 x.2.2.2.2.2.2.2.2.2.2.2.2.1 x.2.2.2.2.2.2.2.2.2.2.2.2.2.1 x.2.2.2.2.2.2.2.2.2.2.2.2.2.2.1 x.2.2.2.2.2.2.2.2.2.2.2.2.2.2.2.1 x.2.2.2.2.2.2.2.2.2.2.2.2.2.2.2.2.1 x.2.2.2.2.2.2.2.2.2.2.2.2.2.2.2.2.2.1 x.2.2.2.2.2.2.2.2.2.2.2.2.2.2.2.2.2.2.1 x.2.2.2.2.2.2.2.2.2.2.2.2.2.2.2.2.2.2.2.1⟩)]) (ann [(8,0)] (Tryz.f12.body.getD .skip) 0).1
noncomputable def yjy:List (FI dat):=[z0u]++[zez]
theorem ykp:(z0u).Good Tryz.prog dat (tb yjy):=FI.kz4 (hD:=kz2 _) Tryz.func12 Tryz.ntmps12 Tryz.call12 (by kernel_rfl) (Qac (by kernel_rfl)) (by kernel_rfl) (λn=>by kernel_rfl) (λx=>by kernel_rfl) (λ_=>rfl) ⟨λ_=>rfl,trivial⟩
 (λn=>λx=>(z2m.eq_2 _ n).trans (by kernel_rfl))
 (λn=>⟨λx=>(z5x.eq_2 _ _ _ _ _ _ _ _ _ _ _ _ _ _ _ _ _ _ _ _ n).trans (by kernel_rfl),
  trivial⟩)
 (λx=>.inl rfl)
theorem yln:OkL Tryz.prog [z0u]:=z5f (kz2 _) (bs:=[zez]) ⟨ydb,trivial⟩ ⟨ykp,trivial⟩
theorem zfk:FOk Tryz.prog z0u:=yln.1
def z36:Nat->(List yz1)->Option (List yz1)
 |0,_=>none
 |n+1,a0=>
  (zzs n a0).bind λy0=>
  (z2m n y0.re).bind λy1=>
  some y1.args
def zyp:LSh:=⟨[(2,(.d (.sl (.st 2))))],[],0,7,[]⟩
noncomputable def za1:FI dat:=FI.of dat 27 7 0 [(.d (.sl (.st 2)))] [] [(.d (.sl (.st 2)))] [] true zyp (R:=List yz1) (λx=>x.1) (λr=>(r,())) (λn x=>z36 n x.1)
 (λn=>[]) (ann [] (Tryz.f27.body.getD .skip) 0).1
noncomputable def y0b:List (FI dat):=[z4b,z0u]
theorem zxq:(za1).Good Tryz.prog dat (tb y0b):=FI.kz4 (hD:=kz2 _) Tryz.func27 Tryz.ntmps27 Tryz.call27 (by kernel_rfl) (Qac (by kernel_rfl)) (by kernel_rfl) (λn=>by kernel_rfl) (λx=>by kernel_rfl) (λ_=>rfl) trivial
 (λn=>λx=>(z36.eq_2 _ n).trans (by kernel_rfl))
 (λn=>trivial)
 (λx=>.inl rfl)
theorem zxm:OkL Tryz.prog [za1]:=kz7 (kz2 _) (bs:=[z4b,z0u]) ⟨zju,zfk,trivial⟩ zxq
theorem zxc:FOk Tryz.prog za1:=zxm.1
mutual
def z0y:Nat->yz3->Option ((List UInt8)×(List (List UInt8))×(List yz4))
 |0,_=>none
 |n+1,a0=>
  (ext [] a0.params).bind λx0=>
  z1i n 0 a0 a0.name x0 [] [] [] []
def z1i:Nat->Int->yz3->(List UInt8)->(List (List UInt8))->(List UInt8)->(List yz4)->(List (List UInt8))->(List yz4)->Option ((List UInt8)×(List (List UInt8))×(List yz4))
 |0,_,_,_,_,_,_,_,_=>none
 |n+1,a0,a1,a2,a3,a4,a5,a6,a7=>
  pIf (decide (a0<(a1.cases.length:Int)))
   ((ix a1.cases a0).bind λx1=>
   (ix a1.cases a0).bind λx2=>
   (z2m n x2.when_.re).bind λy3=>
   z1l n 0 a0 x1.weight y3.op y3.value.kind y3.value.num.num y3.value.num.den y3.value.truth y3.value.str y3.value.list y3.name y3.args a1 a2 a3 a4 [] a5 a6 a7)
   (some (a2,a3,a5))
def z1l:Nat->Int->Int->Int->Int->Int->Int->Int->Bool->(List UInt8)->(List kz1)->(List UInt8)->(List yz1)->yz3->(List UInt8)->(List (List UInt8))->(List UInt8)->(List zz3)->(List yz4)->(List (List UInt8))->(List yz4)->Option ((List UInt8)×(List (List UInt8))×(List yz4))
 |0,_,_,_,_,_,_,_,_,_,_,_,_,_,_,_,_,_,_,_,_=>none
 |n+1,a0,a1,a2,a3,a4,a5,a6,a7,a8,a9,a10,a11,a12,a13,a14,a15,a16,a17,a18,a19=>
  (ix a12.cases a1).bind λx4=>
  pIf (decide (a0<(x4.do_.length:Int)))
   ((ix a12.cases a1).bind λx5=>
   (ix x5.do_ a0).bind λx6=>
   (z36 n x6.args).bind λy7=>
   z13 n 0 a1 a0 x6.kind x6.axis x6.name y7 x6 a2 a3 a4 a5 a6 a7 a8 a9 a10 a11 a12 a13 a14 a15 [] a16 a17 a18 a19)
   ((ext a17 [(yz4.mk a2 (yz1.mk a3 (kz1.mk a4 (kz6.mk a5 a6) a7 a8 a9) a10 a11) [])]).bind λx8=>
   (ix x8 (a17.length:Int)).bind λx9=>
   z1i n (IntKind.i64.wrap (a1+1)) a12 a13 a14 a15 (x8.set (Int.toNat (a17.length:Int)) (yz4.mk x9.weight x9.when_.re a16)) a18 a19)
def z13:Nat->Int->Int->Int->Int->Int->(List UInt8)->(List yz1)->zz3->Int->Int->Int->Int->Int->Bool->(List UInt8)->(List kz1)->(List UInt8)->(List yz1)->yz3->(List UInt8)->(List (List UInt8))->(List UInt8)->(List yz7)->(List zz3)->(List yz4)->(List (List UInt8))->(List yz4)->Option ((List UInt8)×(List (List UInt8))×(List yz4))
 |0,_,_,_,_,_,_,_,_,_,_,_,_,_,_,_,_,_,_,_,_,_,_,_,_,_,_,_=>none
 |n+1,a0,a1,a2,a3,a4,a5,a6,a7,a8,a9,a10,a11,a12,a13,a14,a15,a16,a17,a18,a19,a20,a21,a22,a23,a24,a25,a26=>
  pIf (decide (a0<(a7.items.length:Int)))
   ((ix a7.items a0).bind λx10=>
   (ix a7.items a0).bind λx11=>
   (ix a7.items a0).bind λx12=>
   (z36 n x12.args).bind λy13=>
   (ext a22 [(yz7.mk x10.kind x11.name y13)]).bind λx14=>
   z13 n (IntKind.i64.wrap (a0+1)) a1 a2 a3 a4 a5 a6 a7 a8 a9 a10 a11 a12 a13 a14 a15 a16 a17 a18 a19 a20 a21 x14 a23 a24 a25 a26)
   ((ext a23 [(zz3.mk a3 a4 a5 a6 [])]).bind λx15=>
   (ix x15 (a23.length:Int)).bind λx16=>
   z1l n (IntKind.i64.wrap (a2+1)) a1 a8 a9 a10 a11 a12 a13 a14 a15 a16 a17 a18 a19 a20 a21 (x15.set (Int.toNat (a23.length:Int)) (zz3.mk x16.kind x16.axis x16.name x16.args a22)) a24 a25 a26)
end
def y2b:LSh:=⟨[(2,(.ptr 0 0))],[(.cells [(.d .str),(.d (.sl .str)),(.own 1)]),(.deep 55 6)],0,113,[]⟩
noncomputable def z1p:FI dat:=FI.of dat 13 113 0 [(.d (.st 7))] [] [(.agg [(.d .str),(.d (.sl .str)),(.own 1)])] [(.cells [(.d .str),(.d (.sl .str)),(.own 1)]),(.deep 55 6)] false y2b (R:=(List UInt8)×(List (List UInt8))×(List yz4)) (λx=>(x.1,x.2.1,x.2.2.1)) (λr=>(r.1,r.2.1,r.1,r.2.1,r.2.2,())) (λn x=>z0y n x.1)
 (λn=>[(0,⟨⟨[(4,(.d (.int .i64))),(1,(.ptr 0 0)),(3,(.ptr 1 0)),(2,(.ptr 2 0))],[(.st 7),(.cells [(.d .str),(.d (.sl .str)),(.own 3)]),(.cells [(.d .str),(.own 4),(.own 5)]),(.deep 55 6),(.acc 9 .str true),(.deep 55 6)],0,113,[]⟩,λx=>z1i n x.1 x.2.1 x.2.2.1 x.2.2.2.1 x.2.2.2.2.1 x.2.2.2.2.2.1 x.2.2.2.2.2.2.1 x.2.2.2.2.2.2.2.1⟩),(1,⟨⟨[(6,(.d (.int .i64))),(5,(.ptr 0 0)),(4,(.d (.int .i64))),(1,(.ptr 1 0)),(3,(.ptr 2 0)),(2,(.ptr 3 0))],[(.cells [(.d (.int .i64)),(.d (.int .u8)),(.d (.int .u8)),(.d (.int .i64)),(.d (.int .i64)),(.d .bool),(.d .str),(.d (.sl (.st 1))),(.d .str),(.d (.sl (.st 2))),(.own 4)]),(.st 7),(.cells [(.d .str),(.d (.sl .str)),(.own 5)]),(.cells [(.d .str),(.own 6),(.own 7)]),(.deep 73 5),(.deep 55 6),(.acc 9 .str true),(.deep 55 6)],0,113,[]⟩,λx=>z1l n x.1 x.2.1 x.2.2.1 x.2.2.2.1 x.2.2.2.2.1 x.2.2.2.2.2.1 x.2.2.2.2.2.2.1 x.2.2.2.2.2.2.2.1 x.2.2.2.2.2.2.2.2.1 x.2.2.2.2.2.2.2.2.2.1 x.2.2.2.2.2.2.2.2.2.2.1 x.2.2.2.2.2.2.2.2.2.2.2.1 x.2.2.2.2.2.2.2.2.2.2.2.2.1 x.2.2.2.2.2.2.2.2.2.2.2.2.2.1 x.2.2.2.2.2.2.2.2.2.2.2.2.2.2.1 x.2.2.2.2.2.2.2.2.2.2.2.2.2.2.2.1 x.2.2.2.2.2.2.2.2.2.2.2.2.2.2.2.2.1 x.2.2.2.2.2.2.2.2.2.2.2.2.2.2.2.2.2.1 x.2.2.2.2.2.2.2.2.2.2.2.2.2.2.2.2.2.2.1 x.2.2.2.2.2.2.2.2.2.2.2.2.2.2.2.2.2.2.2.1⟩),(2,⟨⟨[(9,(.d (.int .i64))),(8,(.ptr 0 0)),(7,(.ptr 1 0)),(5,(.ptr 2 0)),(4,(.d (.int .i64))),(1,(.ptr 3 0)),(3,(.ptr 4 0)),(2,(.ptr 5 0)),(6,(.d (.int .i64)))],[(.cells [(.d (.int .u8)),(.d (.int .u8)),(.d .str),(.d (.sl (.st 2))),(.own 6)]),(.st 5),(.cells [(.d (.int .i64)),(.d (.int .u8)),(.d (.int .u8)),(.d (.int .i64)),(.d (.int .i64)),(.d .bool),(.d .str),(.d (.sl (.st 1))),(.d .str),(.d (.sl (.st 2))),(.own 7)]),(.st 7),(.cells [(.d .str),(.d (.sl .str)),(.own 8)]),(.cells [(.d .str),(.own 9),(.own 10)]),(.acc 75 (.st 4) true),(.deep 73 5),(.deep 55 6),(.acc 9 .str true),(.deep 55 6)],0,113,[]⟩,λx=>z13 n x.1 x.2.1 x.2.2.1 x.2.2.2.1 x.2.2.2.2.1 x.2.2.2.2.2.1 x.2.2.2.2.2.2.1 x.2.2.2.2.2.2.2.1 x.2.2.2.2.2.2.2.2.1 x.2.2.2.2.2.2.2.2.2.1 x.2.2.2.2.2.2.2.2.2.2.1 x.2.2.2.2.2.2.2.2.2.2.2.1 x.2.2.2.2.2.2.2.2.2.2.2.2.1 x.2.2.2.2.2.2.2.2.2.2.2.2.2.1 x.2.2.2.2.2.2.2.2.2.2.2.2.2.2.1 x.2.2.2.2.2.2.2.2.2.2.2.2.2.2.2.1 x.2.2.2.2.2.2.2.2.2.2.2.2.2.2.2.2.1 x.2.2.2.2.2.2.2.2.2.2.2.2.2.2.2.2.2.1 x.2.2.2.2.2.2.2.2.2.2.2.2.2.2.2.2.2.2.1 x.2.2.2.2.2.2.2.2.2.2.2.2.2.2.2.2.2.2.2.1 x.2.2.2.2.2.2.2.2.2.2.2.2.2.2.2.2.2.2.2.2.1 x.2.2.2.2.2.2.2.2.2.2.2.2.2.2.2.2.2.2.2.2.2.1 x.2.2.2.2.2.2.2.2.2.2.2.2.2.2.2.2.2.2.2.2.2.2.1 x.2.2.2.2.2.2.2.2.2.2.2.2.2.2.2.2.2.2.2.2.2.2.2.1 x.2.2.2.2.2.2.2.2.2.2.2.2.2.2.2.2.2.2.2.2.2.2.2.2.1 x.2.2.2.2.2.2.2.2.2.2.2.2.2.2.2.2.2.2.2.2.2.2.2.2.2.1 x.2.2.2.2.2.2.2.2.2.2.2.2.2.2.2.2.2.2.2.2.2.2.2.2.2.2.1⟩)]) (ann [(8,0),(23,1),(40,2)] (Tryz.f13.body.getD .skip) 0).1
noncomputable def y1f:List (FI dat):=[z0u,za1]
theorem y1j:(z1p).Good Tryz.prog dat (tb y1f):=FI.kz4 (hD:=kz2 _) Tryz.func13 Tryz.ntmps13 Tryz.call13 (by kernel_rfl) (Qac (by kernel_rfl)) (by kernel_rfl) (λn=>by kernel_rfl) (λx=>by kernel_rfl) (λ_=>rfl) ⟨λ_=>rfl,λ_=>rfl,λ_=>rfl,trivial⟩
 (λn=>λx=>(z0y.eq_2 _ n).trans (by kernel_rfl))
 (λn=>⟨λx=>(z1i.eq_2 _ _ _ _ _ _ _ _ n).trans (by kernel_rfl),
  λx=>(z1l.eq_2 _ _ _ _ _ _ _ _ _ _ _ _ _ _ _ _ _ _ _ _ n).trans (by kernel_rfl),
  λx=>(z13.eq_2 _ _ _ _ _ _ _ _ _ _ _ _ _ _ _ _ _ _ _ _ _ _ _ _ _ _ _ n).trans (by kernel_rfl),
  trivial⟩)
 (λx=>.inr (by kernel_rfl))
theorem y1n:OkL Tryz.prog [z1p]:=kz7 (kz2 _) (bs:=[z0u,za1]) ⟨zfk,zxc,trivial⟩ y1j
theorem zi5:FOk Tryz.prog z1p:=y1n.1
mutual
def zah:Nat->zz0->Option zz0
 |0,_=>none
 |n+1,a0=>
  z69 n 0 a0 [] [] [] []
def z69:Nat->Int->zz0->(List yz5)->(List yz3)->(List yz5)->(List yz3)->Option zz0
 |0,_,_,_,_,_,_=>none
 |n+1,a0,a1,a2,a3,a4,a5=>
  pIf (decide (a0<(a1.attrs.length:Int)))
   ((ix a1.attrs a0).bind λx0=>
   (ix a1.attrs a0).bind λx1=>
   (z2m n x1.value.re).bind λy2=>
   (ext a2 [(yz5.mk x0.name y2.re)]).bind λx3=>
   z69 n (IntKind.i64.wrap (a0+1)) a1 x3 a3 a4 a5)
   (z5p n 0 a1 a2 a3 a4 a5)
def z5p:Nat->Int->zz0->(List yz5)->(List yz3)->(List yz5)->(List yz3)->Option zz0
 |0,_,_,_,_,_,_=>none
 |n+1,a0,a1,a2,a3,a4,a5=>
  pIf (decide (a0<(a1.rules.length:Int)))
   ((ix a1.rules a0).bind λx4=>
   (z0y n x4).bind λy5=>
   (ext a3 [(yz3.mk y5.1 y5.2.1 [])]).bind λx6=>
   (ix x6 (a3.length:Int)).bind λx7=>
   z5p n (IntKind.i64.wrap (a0+1)) a1 a2 (x6.set (Int.toNat (a3.length:Int)) (yz3.mk x7.name x7.params y5.2.2)) a4 a5)
   (some (zz0.mk a2 a3))
end
def yng:LSh:=⟨[(2,(.ptr 0 0))],[(.st 8)],0,51,[]⟩
noncomputable def zc1:FI dat:=FI.of dat 6 51 0 [(.d (.st 8))] [] [(.d (.st 8))] [] true yng (R:=zz0) (λx=>x.1) (λr=>(r,())) (λn x=>zah n x.1)
 (λn=>[(0,⟨⟨[(4,(.d (.int .i64))),(3,(.ptr 0 0)),(1,(.ptr 1 0)),(2,(.ptr 2 0))],[(.cells [(.own 3),(.own 4)]),(.st 8),(.cells [(.own 5),(.own 6)]),(.acc 47 (.st 3) true),(.deep 51 7),(.acc 47 (.st 3) true),(.deep 51 7)],0,51,[]⟩,λx=>z69 n x.1 x.2.1 x.2.2.1 x.2.2.2.1 x.2.2.2.2.1 x.2.2.2.2.2.1⟩),(1,⟨⟨[(5,(.d (.int .i64))),(3,(.ptr 0 0)),(1,(.ptr 1 0)),(2,(.ptr 2 0))],[(.cells [(.own 3),(.own 4)]),(.st 8),(.cells [(.own 5),(.own 6)]),(.acc 47 (.st 3) true),(.deep 51 7),(.acc 47 (.st 3) true),(.deep 51 7)],0,51,[]⟩,λx=>z5p n x.1 x.2.1 x.2.2.1 x.2.2.2.1 x.2.2.2.2.1 x.2.2.2.2.2.1⟩)]) (ann [(8,0),(23,1)] (Tryz.f6.body.getD .skip) 0).1
noncomputable def yoa:List (FI dat):=[z1p,z0u]
theorem yn9:(zc1).Good Tryz.prog dat (tb yoa):=FI.kz4 (hD:=kz2 _) Tryz.func6 Tryz.ntmps6 Tryz.call6 (by kernel_rfl) (Qac (by kernel_rfl)) (by kernel_rfl) (λn=>by kernel_rfl) (λx=>by kernel_rfl) (λ_=>rfl) ⟨λ_=>rfl,λ_=>rfl,trivial⟩
 (λn=>λx=>(zah.eq_2 _ n).trans (by kernel_rfl))
 (λn=>⟨λx=>(z69.eq_2 _ _ _ _ _ _ n).trans (by kernel_rfl),
  λx=>(z5p.eq_2 _ _ _ _ _ _ n).trans (by kernel_rfl),
  trivial⟩)
 (λx=>.inl rfl)
theorem yma:OkL Tryz.prog [zc1]:=kz7 (kz2 _) (bs:=[z1p,z0u]) ⟨zi5,zfk,trivial⟩ yn9
theorem zva:FOk Tryz.prog zc1:=yma.1
def z9p:Nat->zz3->Option Bool
 |0,_=>none
 |n+1,a0=>
  some (decide ((a0.items.length:Int)>10))
def y8v:LSh:=⟨[(2,(.d .bool))],[],0,7,[]⟩
noncomputable def ze5:FI dat:=FI.of dat 61 7 0 [(.d (.st 5))] [] [(.d .bool)] [] true y8v (R:=Bool) (λx=>x.1) (λr=>(r,())) (λn x=>z9p n x.1)
 (λn=>[]) (ann [] (Tryz.f61.body.getD .skip) 0).1
noncomputable def yab:List (FI dat):=[]
theorem ybu:(ze5).Good Tryz.prog dat (tb yab):=FI.kz4 (hD:=kz2 _) Tryz.func61 Tryz.ntmps61 Tryz.call61 (by kernel_rfl) (Qac (by kernel_rfl)) (by kernel_rfl) (λn=>by kernel_rfl) (λx=>by kernel_rfl) (λ_=>rfl) trivial
 (λn=>λx=>(z9p.eq_2 _ n).trans (by kernel_rfl))
 (λn=>trivial)
 (λx=>.inl rfl)
theorem y9d:OkL Tryz.prog [ze5]:=kz7 (kz2 _) (bs:=[]) trivial ybu
theorem y4e:FOk Tryz.prog ze5:=y9d.1
mutual
def kzg:Nat->(List zz3)->Option Int
 |0,_=>none
 |n+1,a0=>
  yzb n 0 a0 (a0.length:Int)
def yzb:Nat->Int->(List zz3)->Int->Option Int
 |0,_,_,_=>none
 |n+1,a0,a1,a2=>
  pIf (decide (a0<a2))
   ((ix a1 a0).bind λx0=>
   (z9p n x0).bind λy1=>
   pIf y1
    (some a0)
    (yzb n (IntKind.i64.wrap (a0+1)) a1 a2))
   (some (-1))
end
def zd4:LSh:=⟨[(4,(.d (.int .i64)))],[],0,19,[]⟩
noncomputable def kzi:FI dat:=FI.of dat 91 19 0 [(.d (.sl (.st 5))),(.fn 61 [] [])] [] [(.d (.int .i64))] [] true zd4 (R:=Int) (λx=>x.1) (λr=>(r,())) (λn x=>kzg n x.1)
 (λn=>[(0,⟨⟨[(8,(.d (.int .i64))),(0,(.d (.sl (.st 5)))),(1,(.fn 61 [] [])),(7,(.d (.int .i64)))],[],0,19,[]⟩,λx=>yzb n x.1 x.2.1 x.2.2.1⟩)]) (ann [(6,0)] (Tryz.f91.body.getD .skip) 0).1
noncomputable def zdb:List (FI dat):=[ze5]
theorem zd8:(kzi).Good Tryz.prog dat (tb zdb):=FI.kz4 (hD:=kz2 _) Tryz.func91 Tryz.ntmps91 Tryz.call91 (by kernel_rfl) (Qac (by kernel_rfl)) (by kernel_rfl) (λn=>by kernel_rfl) (λx=>by kernel_rfl) (λ_=>rfl) ⟨λ_=>rfl,trivial⟩
 (λn=>λx=>(kzg.eq_2 _ n).trans (by kernel_rfl))
 (λn=>⟨λx=>(yzb.eq_2 _ _ _ n).trans (by kernel_rfl),
  trivial⟩)
 (λx=>.inl rfl)
theorem zdc:OkL Tryz.prog [kzi]:=kz7 (kz2 _) (bs:=[ze5]) ⟨y4e,trivial⟩ zd8
theorem zcp:FOk Tryz.prog kzi:=zdc.1
def zzb:Nat->(List zz3)->Option Bool
 |0,_=>none
 |n+1,a0=>
  (kzg n a0).bind λy0=>
  some (decide (y0>=0))
def zbs:LSh:=⟨[(4,(.d .bool))],[],0,9,[]⟩
noncomputable def kze:FI dat:=FI.of dat 60 9 0 [(.d (.sl (.st 5))),(.fn 61 [] [])] [] [(.d .bool)] [] true zbs (R:=Bool) (λx=>x.1) (λr=>(r,())) (λn x=>zzb n x.1)
 (λn=>[]) (ann [] (Tryz.f60.body.getD .skip) 0).1
noncomputable def zbt:List (FI dat):=[kzi]
theorem zbu:(kze).Good Tryz.prog dat (tb zbt):=FI.kz4 (hD:=kz2 _) Tryz.func60 Tryz.ntmps60 Tryz.call60 (by kernel_rfl) (Qac (by kernel_rfl)) (by kernel_rfl) (λn=>by kernel_rfl) (λx=>by kernel_rfl) (λ_=>rfl) trivial
 (λn=>λx=>(zzb.eq_2 _ n).trans (by kernel_rfl))
 (λn=>trivial)
 (λx=>.inl rfl)
theorem zbv:OkL Tryz.prog [kze]:=kz7 (kz2 _) (bs:=[kzi]) ⟨zcp,trivial⟩ zbu
theorem zb0:FOk Tryz.prog kze:=zbv.1
mutual
def zcx:Nat->zz0->Option Bool
 |0,_=>none
 |n+1,a0=>
  pIf (decide ((a0.attrs.length:Int)>20))
   (z63 n true a0)
   (z63 n (decide ((a0.rules.length:Int)>40)) a0)
def z63:Nat->Bool->zz0->Option Bool
 |0,_,_=>none
 |n+1,a0,a1=>
  pIf a0
   (some true)
   (z3f n 0 a1.rules (a1.rules.length:Int))
def z3f:Nat->Int->(List yz3)->Int->Option Bool
 |0,_,_,_=>none
 |n+1,a0,a1,a2=>
  pIf (decide (a0<a2))
   ((ix a1 a0).bind λx0=>
   pIf (decide ((x0.params.length:Int)>4))
    (z5j n a1 a2 a0 true x0)
    (z5j n a1 a2 a0 (decide ((x0.cases.length:Int)>6)) x0))
   (some false)
def z5j:Nat->(List yz3)->Int->Int->Bool->yz3->Option Bool
 |0,_,_,_,_,_=>none
 |n+1,a0,a1,a2,a3,a4=>
  pIf a3
   (some true)
   (z3e n 0 a4.cases a0 a1 a2 (a4.cases.length:Int))
def z3e:Nat->Int->(List yz4)->(List yz3)->Int->Int->Int->Option Bool
 |0,_,_,_,_,_,_=>none
 |n+1,a0,a1,a2,a3,a4,a5=>
  pIf (decide (a0<a5))
   ((ix a1 a0).bind λx1=>
   pIf (decide ((x1.do_.length:Int)>10))
    (z65 n a1 a2 a3 a4 a5 a0 true)
    ((zzb n x1.do_).bind λy2=>
    z65 n a1 a2 a3 a4 a5 a0 y2))
   (z3f n (IntKind.i64.wrap (a4+1)) a2 a3)
def z65:Nat->(List yz4)->(List yz3)->Int->Int->Int->Int->Bool->Option Bool
 |0,_,_,_,_,_,_,_=>none
 |n+1,a0,a1,a2,a3,a4,a5,a6=>
  pIf a6
   (some true)
   (z3e n (IntKind.i64.wrap (a5+1)) a0 a1 a2 a3 a4)
end
def yj8:LSh:=⟨[(2,(.d .bool))],[],0,52,[]⟩
noncomputable def zhp:FI dat:=FI.of dat 28 52 0 [(.d (.st 8))] [] [(.d .bool)] [] true yj8 (R:=Bool) (λx=>x.1) (λr=>(r,())) (λn x=>zcx n x.1)
 (λn=>[(0,⟨⟨[(1,(.ptr 0 0)),(16,(.d .bool))],[(.st 8)],0,52,[]⟩,λx=>z63 n x.1 x.2.1⟩),(1,⟨⟨[(20,(.d (.int .i64))),(18,(.d (.sl (.st 7)))),(19,(.d (.int .i64)))],[],0,52,[]⟩,λx=>z3f n x.1 x.2.1 x.2.2.1⟩),(2,⟨⟨[(18,(.d (.sl (.st 7)))),(19,(.d (.int .i64))),(20,(.d (.int .i64))),(4,(.ptr 0 0)),(33,(.d .bool))],[(.st 7)],0,52,[]⟩,λx=>z5j n x.1 x.2.1 x.2.2.1 x.2.2.2.1 x.2.2.2.2.1⟩),(3,⟨⟨[(37,(.d (.int .i64))),(35,(.d (.sl (.st 6)))),(18,(.d (.sl (.st 7)))),(19,(.d (.int .i64))),(20,(.d (.int .i64))),(36,(.d (.int .i64)))],[],0,52,[]⟩,λx=>z3e n x.1 x.2.1 x.2.2.1 x.2.2.2.1 x.2.2.2.2.1 x.2.2.2.2.2.1⟩),(4,⟨⟨[(35,(.d (.sl (.st 6)))),(18,(.d (.sl (.st 7)))),(19,(.d (.int .i64))),(20,(.d (.int .i64))),(36,(.d (.int .i64))),(37,(.d (.int .i64))),(49,(.d .bool))],[],0,52,[]⟩,λx=>z65 n x.1 x.2.1 x.2.2.1 x.2.2.2.1 x.2.2.2.2.1 x.2.2.2.2.2.1 x.2.2.2.2.2.2.1⟩)]) (ann [(5,0),(14,1),(28,2),(36,3),(49,4)] (Tryz.f28.body.getD .skip) 0).1
noncomputable def yl2:List (FI dat):=[kze]
theorem yoe:(zhp).Good Tryz.prog dat (tb yl2):=FI.kz4 (hD:=kz2 _) Tryz.func28 Tryz.ntmps28 Tryz.call28 (by kernel_rfl) (Qac (by kernel_rfl)) (by kernel_rfl) (λn=>by kernel_rfl) (λx=>by kernel_rfl) (λ_=>rfl) ⟨λ_=>rfl,λ_=>rfl,λ_=>rfl,λ_=>rfl,λ_=>rfl,trivial⟩
 (λn=>λx=>(zcx.eq_2 _ n).trans (by kernel_rfl))
 (λn=>⟨λx=>(z63.eq_2 _ _ n).trans (by kernel_rfl),
  λx=>(z3f.eq_2 _ _ _ n).trans (by kernel_rfl),
  λx=>(z5j.eq_2 _ _ _ _ _ n).trans (by kernel_rfl),
  λx=>(z3e.eq_2 _ _ _ _ _ _ n).trans (by kernel_rfl),
  λx=>(z65.eq_2 _ _ _ _ _ _ _ n).trans (by kernel_rfl),
  trivial⟩)
 (λx=>.inl rfl)
theorem yn2:OkL Tryz.prog [zhp]:=kz7 (kz2 _) (bs:=[kze]) ⟨zb0,trivial⟩ yoe
theorem yfk:FOk Tryz.prog zhp:=yn2.1
mutual
def zap:Nat->(List UInt8)->Option Bool
 |0,_=>none
 |n+1,a0=>
  pIf ((a0.length:Int)==0)
   (z8u n a0 true)
   (z8u n a0 (decide ((a0.length:Int)>40)))
def z8u:Nat->(List UInt8)->Bool->Option Bool
 |0,_,_=>none
 |n+1,a0,a1=>
  pIf a1
   (some false)
   (z0g n a0 0)
def z0g:Nat->(List UInt8)->Nat->Option Bool
 |0,_,_=>none
 |n+1,a0,a1=>
  pIf (decide (a1<a0.length))
   (pIf (decide (((zl9 a0 a1).1:Int)>=97))
     (z6u n ((zl9 a0 a1).1:Int) (a1:Int) (decide (((zl9 a0 a1).1:Int)<=122)) a0 (a1+(zl9 a0 a1).2))
     (z6u n ((zl9 a0 a1).1:Int) (a1:Int) false a0 (a1+(zl9 a0 a1).2)))
   (some true)
def z6u:Nat->Int->Int->Bool->(List UInt8)->Nat->Option Bool
 |0,_,_,_,_,_=>none
 |n+1,a0,a1,a2,a3,a4=>
  pIf (!a2)
   (pIf (a1==0)
     (zzz n true a3 a4)
     (pIf (a0 != 45)
       (pIf (decide (a0<48))
         (zzz n true a3 a4)
         (zzz n (decide (a0>57)) a3 a4))
       (zzz n false a3 a4)))
   (zzz n false a3 a4)
def zzz:Nat->Bool->(List UInt8)->Nat->Option Bool
 |0,_,_,_=>none
 |n+1,a0,a1,a2=>
  pIf a0
   (some false)
   (z0g n a1 a2)
end
def ymy:LSh:=⟨[(2,(.d .bool))],[],0,44,[]⟩
noncomputable def zc5:FI dat:=FI.of dat 92 44 0 [(.d .str)] [] [(.d .bool)] [] true ymy (R:=Bool) (λx=>x.1) (λr=>(r,())) (λn x=>zap n x.1)
 (λn=>[(0,⟨⟨[(0,(.d .str)),(13,(.d .bool))],[],0,44,[]⟩,λx=>z8u n x.1 x.2.1⟩),(1,⟨⟨[(15,(.ptr 0 0))],[.siter],0,44,[]⟩,λx=>z0g n x.1 x.2.1⟩),(2,⟨⟨[(15,(.ptr 0 0)),(4,(.d (.int .i32))),(3,(.d (.int .i64))),(5,(.d .bool))],[.siter],0,44,[]⟩,λx=>z6u n x.1 x.2.1 x.2.2.1 x.2.2.2.1 x.2.2.2.2.1⟩),(3,⟨⟨[(15,(.ptr 0 0)),(43,(.d .bool))],[.siter],0,44,[]⟩,λx=>zzz n x.1 x.2.1 x.2.2.1⟩)]) (ann [(5,0),(14,1),(26,2),(28,3)] (Tryz.f92.body.getD .skip) 0).1
noncomputable def yog:List (FI dat):=[]
theorem ylz:(zc5).Good Tryz.prog dat (tb yog):=FI.kz4 (hD:=kz2 _) Tryz.func92 Tryz.ntmps92 Tryz.call92 (by kernel_rfl) (Qac (by kernel_rfl)) (by kernel_rfl) (λn=>by kernel_rfl) (λx=>by kernel_rfl) (λ_=>rfl) ⟨λ_=>rfl,λ_=>rfl,λ_=>rfl,λ_=>rfl,trivial⟩
 (λn=>λx=>(zap.eq_2 _ n).trans (by kernel_rfl))
 (λn=>⟨λx=>(z8u.eq_2 _ _ n).trans (by kernel_rfl),
  λx=>(z0g.eq_2 _ _ n).trans (by kernel_rfl),
  λx=>(z6u.eq_2 _ _ _ _ _ n).trans (by kernel_rfl),
  λx=>(zzz.eq_2 _ _ _ n).trans (by kernel_rfl),
  trivial⟩)
 (λx=>.inl rfl)
theorem ykj:OkL Tryz.prog [zc5]:=kz7 (kz2 _) (bs:=[]) trivial ylz
theorem zvn:FOk Tryz.prog zc5:=ykj.1
mutual
def kzk:Nat->(List (List UInt8))->(List UInt8)->Option Int
 |0,_,_=>none
 |n+1,a0,a1=>
  yzc n 0 a0 a1 (a0.length:Int)
def yzc:Nat->Int->(List (List UInt8))->(List UInt8)->Int->Option Int
 |0,_,_,_,_=>none
 |n+1,a0,a1,a2,a3=>
  pIf (decide (a0<a3))
   ((ix a1 a0).bind λx0=>
   pIf (a2==x0)
    (some a0)
    (yzc n (IntKind.i64.wrap (a0+1)) a1 a2 a3))
   (some (-1))
end
def zkt:LSh:=⟨[(4,(.d (.int .i64)))],[],0,19,[]⟩
noncomputable def zzm:FI dat:=FI.of dat 31 19 0 [(.d (.sl .str)),(.d .str)] [] [(.d (.int .i64))] [] true zkt (R:=Int) (λx=>x.1) (λr=>(r,())) (λn x=>kzk n x.1 x.2.1)
 (λn=>[(0,⟨⟨[(8,(.d (.int .i64))),(0,(.d (.sl .str))),(1,(.d .str)),(7,(.d (.int .i64)))],[],0,19,[]⟩,λx=>yzc n x.1 x.2.1 x.2.2.1 x.2.2.2.1⟩)]) (ann [(6,0)] (Tryz.f31.body.getD .skip) 0).1
noncomputable def zkk:List (FI dat):=[]
theorem zkr:(zzm).Good Tryz.prog dat (tb zkk):=FI.kz4 (hD:=kz2 _) Tryz.func31 Tryz.ntmps31 Tryz.call31 (by kernel_rfl) (Qac (by kernel_rfl)) (by kernel_rfl) (λn=>by kernel_rfl) (λx=>by kernel_rfl) (λ_=>rfl) ⟨λ_=>rfl,trivial⟩
 (λn=>λx=>(kzk.eq_2 _ _ n).trans (by kernel_rfl))
 (λn=>⟨λx=>(yzc.eq_2 _ _ _ _ n).trans (by kernel_rfl),
  trivial⟩)
 (λx=>.inl rfl)
theorem zko:OkL Tryz.prog [zzm]:=kz7 (kz2 _) (bs:=[]) trivial zkr
theorem zbx:FOk Tryz.prog zzm:=zko.1
def zzl:Nat->(List (List UInt8))->(List UInt8)->Option Bool
 |0,_,_=>none
 |n+1,a0,a1=>
  (kzk n a0 a1).bind λy0=>
  some (decide (y0>=0))
def zis:LSh:=⟨[(4,(.d .bool))],[],0,9,[]⟩
noncomputable def yzv:FI dat:=FI.of dat 93 9 0 [(.d (.sl .str)),(.d .str)] [] [(.d .bool)] [] true zis (R:=Bool) (λx=>x.1) (λr=>(r,())) (λn x=>zzl n x.1 x.2.1)
 (λn=>[]) (ann [] (Tryz.f93.body.getD .skip) 0).1
noncomputable def zit:List (FI dat):=[zzm]
theorem ziu:(yzv).Good Tryz.prog dat (tb zit):=FI.kz4 (hD:=kz2 _) Tryz.func93 Tryz.ntmps93 Tryz.call93 (by kernel_rfl) (Qac (by kernel_rfl)) (by kernel_rfl) (λn=>by kernel_rfl) (λx=>by kernel_rfl) (λ_=>rfl) trivial
 (λn=>λx=>(zzl.eq_2 _ _ n).trans (by kernel_rfl))
 (λn=>trivial)
 (λx=>.inl rfl)
theorem ziy:OkL Tryz.prog [yzv]:=kz7 (kz2 _) (bs:=[zzm]) ⟨zbx,trivial⟩ ziu
theorem zib:FOk Tryz.prog yzv:=ziy.1
def z2n:Nat->(List UInt8)->Option Bool
 |0,_=>none
 |n+1,a0=>
  (zap n a0).bind λy0=>
  pIf y0
   ((zzl n [[116,114,117,101],[102,97,108,115,101],[115,120],[115,121],[115,122]] a0).bind λy1=>
   some (!y1))
   (some false)
def ygg:LSh:=⟨[(2,(.d .bool))],[],0,11,[]⟩
noncomputable def z73:FI dat:=FI.of dat 62 11 0 [(.d .str)] [] [(.d .bool)] [] true ygg (R:=Bool) (λx=>x.1) (λr=>(r,())) (λn x=>z2n n x.1)
 (λn=>[]) (ann [] (Tryz.f62.body.getD .skip) 0).1
noncomputable def yee:List (FI dat):=[zc5,yzv]
theorem yf7:(z73).Good Tryz.prog dat (tb yee):=FI.kz4 (hD:=kz2 _) Tryz.func62 Tryz.ntmps62 Tryz.call62 (by kernel_rfl) (Qac (by kernel_rfl)) (by kernel_rfl) (λn=>by kernel_rfl) (λx=>by kernel_rfl) (λ_=>rfl) trivial
 (λn=>λx=>(z2n.eq_2 _ n).trans (by kernel_rfl))
 (λn=>trivial)
 (λx=>.inl rfl)
theorem yfr:OkL Tryz.prog [z73]:=kz7 (kz2 _) (bs:=[zc5,yzv]) ⟨zvn,zib,trivial⟩ yf7
theorem zmf:FOk Tryz.prog z73:=yfr.1
mutual
def z7p:Nat->yz1->Option (Int×Int)
 |0,_=>none
 |n+1,a0=>
  z34 n 0 1 1 a0.args (a0.args.length:Int)
def z34:Nat->Int->Int->Int->(List yz1)->Int->Option (Int×Int)
 |0,_,_,_,_,_=>none
 |n+1,a0,a1,a2,a3,a4=>
  pIf (decide (a0<a4))
   ((ix a3 a0).bind λx0=>
   (z7p n x0.re).bind λy1=>
   z34 n (IntKind.i64.wrap (a0+1)) (mxI a1 (IntKind.i64.wrap (y1.2+1))) (IntKind.i64.wrap (a2+y1.1)) a3 a4)
   (some (a2,a1))
end
def y6j:LSh:=⟨[(2,(.d (.int .i64))),(3,(.d (.int .i64)))],[],0,30,[]⟩
noncomputable def zbl:FI dat:=FI.of dat 94 30 0 [(.d (.st 2))] [] [(.d (.int .i64)),(.d (.int .i64))] [] true y6j (R:=Int×Int) (λx=>(x.1,x.2.1)) (λr=>(r.1,r.2,())) (λn x=>z7p n x.1)
 (λn=>[(0,⟨⟨[(11,(.d (.int .i64))),(3,(.d (.int .i64))),(2,(.d (.int .i64))),(9,(.d (.sl (.st 2)))),(10,(.d (.int .i64)))],[],0,30,[]⟩,λx=>z34 n x.1 x.2.1 x.2.2.1 x.2.2.2.1 x.2.2.2.2.1⟩)]) (ann [(8,0)] (Tryz.f94.body.getD .skip) 0).1
noncomputable def y8z:List (FI dat):=[zbl]++[]
theorem yam:(zbl).Good Tryz.prog dat (tb y8z):=FI.kz4 (hD:=kz2 _) Tryz.func94 Tryz.ntmps94 Tryz.call94 (by kernel_rfl) (Qac (by kernel_rfl)) (by kernel_rfl) (λn=>by kernel_rfl) (λx=>by kernel_rfl) (λ_=>rfl) ⟨λ_=>rfl,trivial⟩
 (λn=>λx=>(z7p.eq_2 _ n).trans (by kernel_rfl))
 (λn=>⟨λx=>(z34.eq_2 _ _ _ _ _ n).trans (by kernel_rfl),
  trivial⟩)
 (λx=>.inl rfl)
theorem yaq:OkL Tryz.prog [zbl]:=z5f (kz2 _) (bs:=[]) trivial ⟨yam,trivial⟩
theorem y4f:FOk Tryz.prog zbl:=yaq.1
mutual
def zcz:Nat->Int->Option Int
 |0,_=>none
 |n+1,a0=>
  pIf (a0==12)
   (z0d n 3)
   (pIf (a0==3)
     (zzt n (-2) a0 true)
     (pIf (a0==4)
       (zzt n (-2) a0 true)
       (pIf (a0==5)
         (zzt n (-2) a0 true)
         (pIf (a0==6)
           (zzt n (-2) a0 true)
           (pIf (a0==7)
             (zzt n (-2) a0 true)
             (pIf (a0==8)
               (zzt n (-2) a0 true)
               (pIf (a0==9)
                 (zzt n (-2) a0 true)
                 (zzt n (-2) a0 (a0==10)))))))))
def zzt:Nat->Int->Int->Bool->Option Int
 |0,_,_,_=>none
 |n+1,a0,a1,a2=>
  pIf a2
   (z8t n)
   (pIf (a1==13)
     (z6b n a0 a1 true)
     (pIf (a1==14)
       (z6b n a0 a1 true)
       (z6b n a0 a1 (a1==17))))
def z6b:Nat->Int->Int->Bool->Option Int
 |0,_,_,_=>none
 |n+1,a0,a1,a2=>
  pIf a2
   (z8t n)
   (pIf (a1==11)
     (z5m n a0 a1 true)
     (pIf (a1==15)
       (z5m n a0 a1 true)
       (z5m n a0 a1 (a1==16))))
def z5m:Nat->Int->Int->Bool->Option Int
 |0,_,_,_=>none
 |n+1,a0,a1,a2=>
  pIf a2
   (z0d n 1)
   (pIf (a1==1)
     (z8n n a0 a1 true)
     (z8n n a0 a1 (a1==2)))
def z8n:Nat->Int->Int->Bool->Option Int
 |0,_,_,_=>none
 |n+1,a0,a1,a2=>
  pIf a2
   (z0d n 0)
   (pIf (a1==18)
     (z0d n (-1))
     (z0d n a0))
def z8t:Nat->Option Int
 |0=>none
 |n+1=>
  z0d n 2
def z0d:Nat->Int->Option Int
 |0,_=>none
 |n+1,a0=>
  some a0
end
def yk9:LSh:=⟨[(2,(.d (.int .i64)))],[],0,30,[]⟩
noncomputable def zi6:FI dat:=FI.of dat 106 30 0 [(.d (.int .u8))] [] [(.d (.int .i64))] [] true yk9 (R:=Int) (λx=>x.1) (λr=>(r,())) (λn x=>zcz n x.1)
 (λn=>[(0,⟨⟨[(3,(.d (.int .i64))),(4,(.d (.int .u8))),(7,(.d .bool))],[],0,30,[]⟩,λx=>zzt n x.1 x.2.1 x.2.2.1⟩),(1,⟨⟨[(3,(.d (.int .i64))),(4,(.d (.int .u8))),(16,(.d .bool))],[],0,30,[]⟩,λx=>z6b n x.1 x.2.1 x.2.2.1⟩),(2,⟨⟨[(3,(.d (.int .i64))),(4,(.d (.int .u8))),(20,(.d .bool))],[],0,30,[]⟩,λx=>z5m n x.1 x.2.1 x.2.2.1⟩),(3,⟨⟨[(3,(.d (.int .i64))),(4,(.d (.int .u8))),(24,(.d .bool))],[],0,30,[]⟩,λx=>z8n n x.1 x.2.1 x.2.2.1⟩),(4,⟨⟨[],[],0,30,[]⟩,λx=>z8t n⟩),(5,⟨⟨[(3,(.d (.int .i64)))],[],0,30,[]⟩,λx=>z0d n x.1⟩)]) (ann [(57,0),(71,1),(85,2),(95,3),(107,4),(119,5)] (Tryz.f106.body.getD .skip) 0).1
noncomputable def yne:List (FI dat):=[]
theorem ylo:(zi6).Good Tryz.prog dat (tb yne):=FI.kz4 (hD:=kz2 _) Tryz.func106 Tryz.ntmps106 Tryz.call106 (by kernel_rfl) (Qac (by kernel_rfl)) (by kernel_rfl) (λn=>by kernel_rfl) (λx=>by kernel_rfl) (λ_=>rfl) ⟨λ_=>rfl,λ_=>rfl,λ_=>rfl,λ_=>rfl,λ_=>rfl,λ_=>rfl,trivial⟩
 (λn=>λx=>(zcz.eq_2 _ n).trans (by kernel_rfl))
 (λn=>⟨λx=>(zzt.eq_2 _ _ _ n).trans (by kernel_rfl),
  λx=>(z6b.eq_2 _ _ _ n).trans (by kernel_rfl),
  λx=>(z5m.eq_2 _ _ _ n).trans (by kernel_rfl),
  λx=>(z8n.eq_2 _ _ _ n).trans (by kernel_rfl),
  λx=>(z8t.eq_2 n).trans (by kernel_rfl),
  λx=>(z0d.eq_2 _ n).trans (by kernel_rfl),
  trivial⟩)
 (λx=>.inl rfl)
theorem ykh:OkL Tryz.prog [zi6]:=kz7 (kz2 _) (bs:=[]) trivial ylo
theorem yhm:FOk Tryz.prog zi6:=ykh.1
mutual
def z5v:Nat->kz1->Option (Int×Int)
 |0,_=>none
 |n+1,a0=>
  pIf (a0.kind==4)
   (z1r n 0 1 1 a0.list (a0.list.length:Int))
   (z1w n 1 1)
def z1r:Nat->Int->Int->Int->(List kz1)->Int->Option (Int×Int)
 |0,_,_,_,_,_=>none
 |n+1,a0,a1,a2,a3,a4=>
  pIf (decide (a0<a4))
   ((ix a3 a0).bind λx0=>
   (z5v n x0.re).bind λy1=>
   z1r n (IntKind.i64.wrap (a0+1)) (mxI a1 (IntKind.i64.wrap (y1.2+1))) (IntKind.i64.wrap (a2+y1.1)) a3 a4)
   (z1w n a1 a2)
def z1w:Nat->Int->Int->Option (Int×Int)
 |0,_,_=>none
 |n+1,a0,a1=>
  some (a1,a0)
end
def y5y:LSh:=⟨[(2,(.d (.int .i64))),(3,(.d (.int .i64)))],[],0,33,[]⟩
noncomputable def z9l:FI dat:=FI.of dat 118 33 0 [(.d (.st 1))] [] [(.d (.int .i64)),(.d (.int .i64))] [] true y5y (R:=Int×Int) (λx=>(x.1,x.2.1)) (λr=>(r.1,r.2,())) (λn x=>z5v n x.1)
 (λn=>[(0,⟨⟨[(14,(.d (.int .i64))),(3,(.d (.int .i64))),(2,(.d (.int .i64))),(12,(.d (.sl (.st 1)))),(13,(.d (.int .i64)))],[],0,33,[]⟩,λx=>z1r n x.1 x.2.1 x.2.2.1 x.2.2.2.1 x.2.2.2.2.1⟩),(1,⟨⟨[(3,(.d (.int .i64))),(2,(.d (.int .i64)))],[],0,33,[]⟩,λx=>z1w n x.1 x.2.1⟩)]) (ann [(11,0),(29,1)] (Tryz.f118.body.getD .skip) 0).1
noncomputable def y52:List (FI dat):=[z9l]++[]
theorem y5e:(z9l).Good Tryz.prog dat (tb y52):=FI.kz4 (hD:=kz2 _) Tryz.func118 Tryz.ntmps118 Tryz.call118 (by kernel_rfl) (Qac (by kernel_rfl)) (by kernel_rfl) (λn=>by kernel_rfl) (λx=>by kernel_rfl) (λ_=>rfl) ⟨λ_=>rfl,λ_=>rfl,trivial⟩
 (λn=>λx=>(z5v.eq_2 _ n).trans (by kernel_rfl))
 (λn=>⟨λx=>(z1r.eq_2 _ _ _ _ _ n).trans (by kernel_rfl),
  λx=>(z1w.eq_2 _ _ n).trans (by kernel_rfl),
  trivial⟩)
 (λx=>.inl rfl)
theorem y5j:OkL Tryz.prog [z9l]:=z5f (kz2 _) (bs:=[]) trivial ⟨y5e,trivial⟩
theorem y26:FOk Tryz.prog z9l:=y5j.1
def zal:Nat->Int->Option Int
 |0,_=>none
 |n+1,a0=>
  pIf (decide (a0<0))
   (some (IntKind.u64.wrap (0-(IntKind.u64.wrap a0))))
   (some (IntKind.u64.wrap a0))
def yl3:LSh:=⟨[(2,(.d (.int .u64)))],[],0,10,[]⟩
noncomputable def zid:FI dat:=FI.of dat 141 10 0 [(.d (.int .i64))] [] [(.d (.int .u64))] [] true yl3 (R:=Int) (λx=>x.1) (λr=>(r,())) (λn x=>zal n x.1)
 (λn=>[]) (ann [] (Tryz.f141.body.getD .skip) 0).1
noncomputable def yl4:List (FI dat):=[]
theorem ykg:(zid).Good Tryz.prog dat (tb yl4):=FI.kz4 (hD:=kz2 _) Tryz.func141 Tryz.ntmps141 Tryz.call141 (by kernel_rfl) (Qac (by kernel_rfl)) (by kernel_rfl) (λn=>by kernel_rfl) (λx=>by kernel_rfl) (λ_=>rfl) trivial
 (λn=>λx=>(zal.eq_2 _ n).trans (by kernel_rfl))
 (λn=>trivial)
 (λx=>.inl rfl)
theorem ykv:OkL Tryz.prog [zid]:=kz7 (kz2 _) (bs:=[]) trivial ykg
theorem ygy:FOk Tryz.prog zid:=ykv.1
mutual
def zee:Nat->Int->Int->Option Int
 |0,_,_=>none
 |n+1,a0,a1=>
  z7k n a1 a0
def z7k:Nat->Int->Int->Option Int
 |0,_,_=>none
 |n+1,a0,a1=>
  pIf (a0 != 0)
   ((rem .u64 a1 a0).bind λx0=>
   z7k n x0 a0)
   (some a1)
end
def yr4:LSh:=⟨[(4,(.d (.int .u64)))],[],0,12,[]⟩
noncomputable def zjz:FI dat:=FI.of dat 142 12 0 [(.d (.int .u64)),(.d (.int .u64))] [] [(.d (.int .u64))] [] true yr4 (R:=Int) (λx=>x.1) (λr=>(r,())) (λn x=>zee n x.1 x.2.1)
 (λn=>[(0,⟨⟨[(1,(.d (.int .u64))),(0,(.d (.int .u64)))],[],0,12,[]⟩,λx=>z7k n x.1 x.2.1⟩)]) (ann [(4,0)] (Tryz.f142.body.getD .skip) 0).1
noncomputable def ypo:List (FI dat):=[]
theorem yqc:(zjz).Good Tryz.prog dat (tb ypo):=FI.kz4 (hD:=kz2 _) Tryz.func142 Tryz.ntmps142 Tryz.call142 (by kernel_rfl) (Qac (by kernel_rfl)) (by kernel_rfl) (λn=>by kernel_rfl) (λx=>by kernel_rfl) (λ_=>rfl) ⟨λ_=>rfl,trivial⟩
 (λn=>λx=>(zee.eq_2 _ _ n).trans (by kernel_rfl))
 (λn=>⟨λx=>(z7k.eq_2 _ _ n).trans (by kernel_rfl),
  trivial⟩)
 (λx=>.inl rfl)
theorem yq5:OkL Tryz.prog [zjz]:=kz7 (kz2 _) (bs:=[]) trivial yqc
theorem yku:FOk Tryz.prog zjz:=yq5.1
mutual
def zbd:Nat->kz6->Option Int
 |0,_=>none
 |n+1,a0=>
  pIf (decide (a0.den<1))
   (z0v n true)
   (pIf (decide (a0.den>1000000000))
     (z0v n true)
     ((zal n a0.num).bind λy0=>
     pIf (decide (y0>1000000000))
      (z0v n true)
      ((zal n a0.num).bind λy1=>
      (zee n y1 (IntKind.u64.wrap a0.den)).bind λy2=>
      z0v n (y2 != 1))))
def z0v:Nat->Bool->Option Int
 |0,_=>none
 |n+1,a0=>
  pIf a0
   (some 8)
   (some 0)
end
def yg8:LSh:=⟨[(2,(.d (.int .i64)))],[],0,27,[]⟩
noncomputable def zfl:FI dat:=FI.of dat 133 27 0 [(.d (.st 0))] [] [(.d (.int .i64))] [] true yg8 (R:=Int) (λx=>x.1) (λr=>(r,())) (λn x=>zbd n x.1)
 (λn=>[(0,⟨⟨[(26,(.d .bool))],[],0,27,[]⟩,λx=>z0v n x.1⟩)]) (ann [(5,0)] (Tryz.f133.body.getD .skip) 0).1
noncomputable def yep:List (FI dat):=[zid,zjz]
theorem yfz:(zfl).Good Tryz.prog dat (tb yep):=FI.kz4 (hD:=kz2 _) Tryz.func133 Tryz.ntmps133 Tryz.call133 (by kernel_rfl) (Qac (by kernel_rfl)) (by kernel_rfl) (λn=>by kernel_rfl) (λx=>by kernel_rfl) (λ_=>rfl) ⟨λ_=>rfl,trivial⟩
 (λn=>λx=>(zbd.eq_2 _ n).trans (by kernel_rfl))
 (λn=>⟨λx=>(z0v.eq_2 _ n).trans (by kernel_rfl),
  trivial⟩)
 (λx=>.inl rfl)
theorem yck:OkL Tryz.prog [zfl]:=kz7 (kz2 _) (bs:=[zid,zjz]) ⟨ygy,yku,trivial⟩ yfz
theorem ya3:FOk Tryz.prog zfl:=yck.1
mutual
def zad:Nat->kz1->Option Bool
 |0,_=>none
 |n+1,a0=>
  pIf (a0.kind==1)
   ((zbd n a0.num).bind λy0=>
   pIf (y0 != 0)
    (some false)
    (z1o n (kz1.mk a0.kind (kz6.mk 0 0) a0.truth a0.str a0.list)))
   (pIf (a0.kind==2)
     (z1o n (kz1.mk a0.kind a0.num false a0.str a0.list))
     (pIf (a0.kind==3)
       (pIf (decide ((a0.str.length:Int)>60))
         (some false)
         (z6w n 0 a0.re (kz1.mk a0.kind a0.num a0.truth [] a0.list)))
       (pIf (a0.kind==4)
         (z64 n 0 a0.list (a0.list.length:Int) (kz1.mk a0.kind a0.num a0.truth a0.str []))
         (some false))))
def z6w:Nat->Int->kz1->kz1->Option Bool
 |0,_,_,_=>none
 |n+1,a0,a1,a2=>
  pIf (decide (a0<(a1.str.length:Int)))
   ((ix a1.str a0).bind λx1=>
   pIf (decide ((x1.toNat:Int)<32))
    (z5i n a0 true a1.re a2.re)
    ((ix a1.str a0).bind λx2=>
    z5i n a0 (decide ((x2.toNat:Int)>126)) a1.re a2.re))
   (z1o n a2.re)
def z5i:Nat->Int->Bool->kz1->kz1->Option Bool
 |0,_,_,_,_=>none
 |n+1,a0,a1,a2,a3=>
  pIf a1
   (some false)
   (z6w n (IntKind.i64.wrap (a0+1)) a2.re a3.re)
def z64:Nat->Int->(List kz1)->Int->kz1->Option Bool
 |0,_,_,_,_=>none
 |n+1,a0,a1,a2,a3=>
  pIf (decide (a0<a2))
   ((ix a1 a0).bind λx3=>
   (zad n x3.re).bind λy4=>
   pIf (!y4)
    (some false)
    (z64 n (IntKind.i64.wrap (a0+1)) a1 a2 a3.re))
   (z1o n a3.re)
def z1o:Nat->kz1->Option Bool
 |0,_=>none
 |n+1,a0=>
  pIf ((a0.num.num==0)&&((a0.num.den==0)&&true))
   (pIf (!a0.truth)
     (pIf (a0.str==[])
       (some ((a0.list.length:Int)==0))
       (some false))
     (some false))
   (some false)
end
def ylh:LSh:=⟨[(2,(.d .bool))],[],0,81,[]⟩
noncomputable def zej:FI dat:=FI.of dat 119 81 0 [(.d (.st 1))] [] [(.d .bool)] [] true ylh (R:=Bool) (λx=>x.1) (λr=>(r,())) (λn x=>zad n x.1)
 (λn=>[(0,⟨⟨[(4,(.d (.int .i64))),(1,(.ptr 0 0)),(3,(.ptr 1 0))],[(.st 1),(.st 1)],0,81,[]⟩,λx=>z6w n x.1 x.2.1 x.2.2.1⟩),(1,⟨⟨[(1,(.ptr 0 0)),(3,(.ptr 1 0)),(4,(.d (.int .i64))),(46,(.d .bool))],[(.st 1),(.st 1)],0,81,[]⟩,λx=>z5i n x.1 x.2.1 x.2.2.1 x.2.2.2.1⟩),(2,⟨⟨[(53,(.d (.int .i64))),(51,(.d (.sl (.st 1)))),(3,(.ptr 0 0)),(52,(.d (.int .i64)))],[(.st 1)],0,81,[]⟩,λx=>z64 n x.1 x.2.1 x.2.2.1 x.2.2.2.1⟩),(3,⟨⟨[(3,(.ptr 0 0))],[(.st 1)],0,81,[]⟩,λx=>z1o n x.1⟩)]) (ann [(40,0),(51,1),(65,2),(87,3)] (Tryz.f119.body.getD .skip) 0).1
noncomputable def yl0:List (FI dat):=[zej]++[zfl]
theorem yoo:(zej).Good Tryz.prog dat (tb yl0):=FI.kz4 (hD:=kz2 _) Tryz.func119 Tryz.ntmps119 Tryz.call119 (by kernel_rfl) (Qac (by kernel_rfl)) (by kernel_rfl) (λn=>by kernel_rfl) (λx=>by kernel_rfl) (λ_=>rfl) ⟨λ_=>rfl,λ_=>rfl,λ_=>rfl,λ_=>rfl,trivial⟩
 (λn=>λx=>(zad.eq_2 _ n).trans (by kernel_rfl))
 (λn=>⟨λx=>(z6w.eq_2 _ _ _ n).trans (by kernel_rfl),
  λx=>(z5i.eq_2 _ _ _ _ n).trans (by kernel_rfl),
  λx=>(z64.eq_2 _ _ _ _ n).trans (by kernel_rfl),
  λx=>(z1o.eq_2 _ n).trans (by kernel_rfl),
  trivial⟩)
 (λx=>.inl rfl)
theorem yll:OkL Tryz.prog [zej]:=z5f (kz2 _) (bs:=[zfl]) ⟨ya3,trivial⟩ ⟨yoo,trivial⟩
theorem yc1:FOk Tryz.prog zej:=yll.1
mutual
def zau:Nat->kz1->Option Int
 |0,_=>none
 |n+1,a0=>
  (z5v n a0.re).bind λy0=>
  pIf (decide (y0.1>100))
   (z43 n true a0.re)
   (z43 n (decide (y0.2>6)) a0.re)
def z43:Nat->Bool->kz1->Option Int
 |0,_,_=>none
 |n+1,a0,a1=>
  pIf a0
   (some 4)
   ((zad n a1.re).bind λy1=>
   pIf (!y1)
    (some 8)
    (some 0))
end
def ye8:LSh:=⟨[(2,(.d (.int .i64)))],[],0,19,[]⟩
noncomputable def zgl:FI dat:=FI.of dat 107 19 0 [(.d (.st 1))] [] [(.d (.int .i64))] [] true ye8 (R:=Int) (λx=>x.1) (λr=>(r,())) (λn x=>zau n x.1)
 (λn=>[(0,⟨⟨[(1,(.ptr 0 0)),(15,(.d .bool))],[(.st 1)],0,19,[]⟩,λx=>z43 n x.1 x.2.1⟩)]) (ann [(7,0)] (Tryz.f107.body.getD .skip) 0).1
noncomputable def yhk:List (FI dat):=[z9l,zej]
theorem ygx:(zgl).Good Tryz.prog dat (tb yhk):=FI.kz4 (hD:=kz2 _) Tryz.func107 Tryz.ntmps107 Tryz.call107 (by kernel_rfl) (Qac (by kernel_rfl)) (by kernel_rfl) (λn=>by kernel_rfl) (λx=>by kernel_rfl) (λ_=>rfl) ⟨λ_=>rfl,trivial⟩
 (λn=>λx=>(zau.eq_2 _ n).trans (by kernel_rfl))
 (λn=>⟨λx=>(z43.eq_2 _ _ n).trans (by kernel_rfl),
  trivial⟩)
 (λx=>.inl rfl)
theorem yfu:OkL Tryz.prog [zgl]:=kz7 (kz2 _) (bs:=[z9l,zej]) ⟨y26,yc1,trivial⟩ ygx
theorem yb7:FOk Tryz.prog zgl:=yfu.1
def zcw:Nat->(List UInt8)->Option Bool
 |0,_=>none
 |n+1,a0=>
  (zap n a0).bind λy0=>
  pIf y0
   (pIf (!(a0==[116,114,117,101]))
     (some (!(a0==[102,97,108,115,101])))
     (some false))
   (some false)
def ynv:LSh:=⟨[(2,(.d .bool))],[],0,13,[]⟩
noncomputable def zi0:FI dat:=FI.of dat 108 13 0 [(.d .str)] [] [(.d .bool)] [] true ynv (R:=Bool) (λx=>x.1) (λr=>(r,())) (λn x=>zcw n x.1)
 (λn=>[]) (ann [] (Tryz.f108.body.getD .skip) 0).1
noncomputable def ymi:List (FI dat):=[zc5]
theorem yj0:(zi0).Good Tryz.prog dat (tb ymi):=FI.kz4 (hD:=kz2 _) Tryz.func108 Tryz.ntmps108 Tryz.call108 (by kernel_rfl) (Qac (by kernel_rfl)) (by kernel_rfl) (λn=>by kernel_rfl) (λx=>by kernel_rfl) (λ_=>rfl) trivial
 (λn=>λx=>(zcw.eq_2 _ n).trans (by kernel_rfl))
 (λn=>trivial)
 (λx=>.inl rfl)
theorem yo6:OkL Tryz.prog [zi0]:=kz7 (kz2 _) (bs:=[zc5]) ⟨zvn,trivial⟩ yj0
theorem yel:FOk Tryz.prog zi0:=yo6.1
mutual
def z2k:Nat->kz1->kz1->Option Bool
 |0,_,_=>none
 |n+1,a0,a1=>
  pIf (a0.kind != a1.kind)
   (z0f n true a1.re a0.re)
   (pIf (!((a0.num.num==a1.num.num)&&((a0.num.den==a1.num.den)&&true)))
     (z0f n true a1.re a0.re)
     (pIf (!(a0.truth==a1.truth))
       (z0f n true a1.re a0.re)
       (pIf (!(a0.str==a1.str))
         (z0f n true a1.re a0.re)
         (z0f n ((a0.list.length:Int) != (a1.list.length:Int)) a1.re a0.re))))
def z0f:Nat->Bool->kz1->kz1->Option Bool
 |0,_,_,_=>none
 |n+1,a0,a1,a2=>
  pIf a0
   (some false)
   (z5o n 0 (a2.list.length:Int) a1.re a2.re)
def z5o:Nat->Int->Int->kz1->kz1->Option Bool
 |0,_,_,_,_=>none
 |n+1,a0,a1,a2,a3=>
  pIf (decide (a0<a1))
   ((ix a3.list a0).bind λx0=>
   (ix a2.list a0).bind λx1=>
   (z2k n x0.re x1.re).bind λy2=>
   pIf (!y2)
    (some false)
    (z5o n (IntKind.i64.wrap (a0+1)) a1 a2.re a3.re))
   (some true)
end
def yks:LSh:=⟨[(4,(.d .bool))],[],0,60,[]⟩
noncomputable def z9q:FI dat:=FI.of dat 75 60 0 [(.d (.st 1)),(.d (.st 1))] [] [(.d .bool)] [] true yks (R:=Bool) (λx=>x.1) (λr=>(r,())) (λn x=>z2k n x.1 x.2.1)
 (λn=>[(0,⟨⟨[(3,(.ptr 0 0)),(2,(.ptr 1 0)),(40,(.d .bool))],[(.st 1),(.st 1)],0,60,[]⟩,λx=>z0f n x.1 x.2.1 x.2.2.1⟩),(1,⟨⟨[(44,(.d (.int .i64))),(3,(.ptr 0 0)),(2,(.ptr 1 0)),(43,(.d (.int .i64)))],[(.st 1),(.st 1)],0,60,[]⟩,λx=>z5o n x.1 x.2.1 x.2.2.1 x.2.2.2.1⟩)]) (ann [(5,0),(14,1)] (Tryz.f75.body.getD .skip) 0).1
noncomputable def yke:List (FI dat):=[z9q]++[]
theorem yn7:(z9q).Good Tryz.prog dat (tb yke):=FI.kz4 (hD:=kz2 _) Tryz.func75 Tryz.ntmps75 Tryz.call75 (by kernel_rfl) (Qac (by kernel_rfl)) (by kernel_rfl) (λn=>by kernel_rfl) (λx=>by kernel_rfl) (λ_=>rfl) ⟨λ_=>rfl,λ_=>rfl,trivial⟩
 (λn=>λx=>(z2k.eq_2 _ _ n).trans (by kernel_rfl))
 (λn=>⟨λx=>(z0f.eq_2 _ _ _ n).trans (by kernel_rfl),
  λx=>(z5o.eq_2 _ _ _ _ n).trans (by kernel_rfl),
  trivial⟩)
 (λx=>.inl rfl)
theorem ynw:OkL Tryz.prog [z9q]:=z5f (kz2 _) (bs:=[]) trivial ⟨yn7,trivial⟩
theorem zvr:FOk Tryz.prog z9q:=ynw.1
mutual
def zc6:Nat->yz1->Option Bool
 |0,_=>none
 |n+1,a0=>
  (zcz n a0.op).bind λy0=>
  pIf (y0==(-2))
   (z5c n true a0.re)
   (pIf (decide (y0>=0))
     (z5c n ((a0.args.length:Int) != y0) a0.re)
     (z5c n false a0.re))
def z5c:Nat->Bool->yz1->Option Bool
 |0,_,_=>none
 |n+1,a0,a1=>
  pIf a0
   (some false)
   (pIf (a1.op==1)
     ((zau n a1.value.re).bind λy1=>
     pIf (y1 != 0)
      (z5d n true a1.re)
      (pIf (a1.value.kind==4)
        (z5d n true a1.re)
        (z5d n (!(a1.name==[])) a1.re)))
     (pIf (a1.op==2)
       ((zcw n a1.name).bind λy2=>
       pIf (!y2)
        (z7x n true a1.re)
        ((z2k n a1.value.re (kz1.mk 0 (kz6.mk 0 0) false [] [])).bind λy3=>
        z7x n (!y3) a1.re))
       (pIf (!(a1.name==[]))
         (z7m n true a1.re)
         ((z2k n a1.value.re (kz1.mk 0 (kz6.mk 0 0) false [] [])).bind λy4=>
         z7m n (!y4) a1.re))))
def z5d:Nat->Bool->yz1->Option Bool
 |0,_,_=>none
 |n+1,a0,a1=>
  pIf a0
   (some false)
   (z5b n a1.re)
def z7x:Nat->Bool->yz1->Option Bool
 |0,_,_=>none
 |n+1,a0,a1=>
  pIf a0
   (some false)
   (z5b n a1.re)
def z7m:Nat->Bool->yz1->Option Bool
 |0,_,_=>none
 |n+1,a0,a1=>
  pIf a0
   (some false)
   (z5b n a1.re)
def z5b:Nat->yz1->Option Bool
 |0,_=>none
 |n+1,a0=>
  (kzb n a0.args).bind λy5=>
  some (!y5)
def kzb:Nat->(List yz1)->Option Bool
 |0,_=>none
 |n+1,a0=>
  (kzc n a0).bind λy0=>
  some (decide (y0>=0))
def kzc:Nat->(List yz1)->Option Int
 |0,_=>none
 |n+1,a0=>
  kz8 n 0 a0 (a0.length:Int)
def kz8:Nat->Int->(List yz1)->Int->Option Int
 |0,_,_,_=>none
 |n+1,a0,a1,a2=>
  pIf (decide (a0<a2))
   ((ix a1 a0).bind λx0=>
   (zbb n x0.re).bind λy1=>
   pIf y1
    (some a0)
    (kz8 n (IntKind.i64.wrap (a0+1)) a1 a2))
   (some (-1))
def zbb:Nat->yz1->Option Bool
 |0,_=>none
 |n+1,a0=>
  (zc6 n a0.re).bind λy0=>
  some (!y0)
end
def yp8:LSh:=⟨[(2,(.d .bool))],[],0,66,[]⟩
noncomputable def zh9:FI dat:=FI.of dat 95 66 0 [(.d (.st 2))] [] [(.d .bool)] [] true yp8 (R:=Bool) (λx=>x.1) (λr=>(r,())) (λn x=>zc6 n x.1)
 (λn=>[(0,⟨⟨[(1,(.ptr 0 0)),(19,(.d .bool))],[(.st 2)],0,66,[]⟩,λx=>z5c n x.1 x.2.1⟩),(1,⟨⟨[(1,(.ptr 0 0)),(48,(.d .bool))],[(.st 2)],0,66,[]⟩,λx=>z5d n x.1 x.2.1⟩),(2,⟨⟨[(1,(.ptr 0 0)),(61,(.d .bool))],[(.st 2)],0,66,[]⟩,λx=>z7x n x.1 x.2.1⟩),(3,⟨⟨[(1,(.ptr 0 0)),(31,(.d .bool))],[(.st 2)],0,66,[]⟩,λx=>z7m n x.1 x.2.1⟩),(4,⟨⟨[(1,(.ptr 0 0))],[(.st 2)],0,66,[]⟩,λx=>z5b n x.1⟩)]) (ann [(7,0),(21,1),(31,2),(38,3),(43,4)] (Tryz.f95.body.getD .skip) 0).1
def zc8:LSh:=⟨[(4,(.d .bool))],[],0,9,[]⟩
noncomputable def z05:FI dat:=FI.of dat 32 9 0 [(.d (.sl (.st 2))),(.fn 109 [] [])] [] [(.d .bool)] [] true zc8 (R:=Bool) (λx=>x.1) (λr=>(r,())) (λn x=>kzb n x.1)
 (λn=>[]) (ann [] (Tryz.f32.body.getD .skip) 0).1
def zdn:LSh:=⟨[(4,(.d (.int .i64)))],[],0,19,[]⟩
noncomputable def z0z:FI dat:=FI.of dat 69 19 0 [(.d (.sl (.st 2))),(.fn 109 [] [])] [] [(.d (.int .i64))] [] true zdn (R:=Int) (λx=>x.1) (λr=>(r,())) (λn x=>kzc n x.1)
 (λn=>[(0,⟨⟨[(8,(.d (.int .i64))),(0,(.d (.sl (.st 2)))),(1,(.fn 109 [] [])),(7,(.d (.int .i64)))],[],0,19,[]⟩,λx=>kz8 n x.1 x.2.1 x.2.2.1⟩)]) (ann [(6,0)] (Tryz.f69.body.getD .skip) 0).1
def yfb:LSh:=⟨[(2,(.d .bool))],[],0,6,[]⟩
noncomputable def zpa:FI dat:=FI.of dat 109 6 0 [(.d (.st 2))] [] [(.d .bool)] [] true yfb (R:=Bool) (λx=>x.1) (λr=>(r,())) (λn x=>zbb n x.1)
 (λn=>[]) (ann [] (Tryz.f109.body.getD .skip) 0).1
noncomputable def zoe:List (FI dat):=[zh9,z05,z0z,zpa]++[zi6,zgl,zi0,z9q]
theorem ypg:(zh9).Good Tryz.prog dat (tb zoe):=FI.kz4 (hD:=kz2 _) Tryz.func95 Tryz.ntmps95 Tryz.call95 (by kernel_rfl) (Qac (by kernel_rfl)) (by kernel_rfl) (λn=>by kernel_rfl) (λx=>by kernel_rfl) (λ_=>rfl) ⟨λ_=>rfl,λ_=>rfl,λ_=>rfl,λ_=>rfl,λ_=>rfl,trivial⟩
 (λn=>λx=>(zc6.eq_2 _ n).trans (by kernel_rfl))
 (λn=>⟨λx=>(z5c.eq_2 _ _ n).trans (by kernel_rfl),
  λx=>(z5d.eq_2 _ _ n).trans (by kernel_rfl),
  λx=>(z7x.eq_2 _ _ n).trans (by kernel_rfl),
  λx=>(z7m.eq_2 _ _ n).trans (by kernel_rfl),
  λx=>(z5b.eq_2 _ n).trans (by kernel_rfl),
  trivial⟩)
 (λx=>.inl rfl)
theorem zcf:(z05).Good Tryz.prog dat (tb zoe):=FI.kz4 (hD:=kz2 _) Tryz.func32 Tryz.ntmps32 Tryz.call32 (by kernel_rfl) (Qac (by kernel_rfl)) (by kernel_rfl) (λn=>by kernel_rfl) (λx=>by kernel_rfl) (λ_=>rfl) trivial
 (λn=>λx=>(kzb.eq_2 _ n).trans (by kernel_rfl))
 (λn=>trivial)
 (λx=>.inl rfl)
theorem zdi:(z0z).Good Tryz.prog dat (tb zoe):=FI.kz4 (hD:=kz2 _) Tryz.func69 Tryz.ntmps69 Tryz.call69 (by kernel_rfl) (Qac (by kernel_rfl)) (by kernel_rfl) (λn=>by kernel_rfl) (λx=>by kernel_rfl) (λ_=>rfl) ⟨λ_=>rfl,trivial⟩
 (λn=>λx=>(kzc.eq_2 _ n).trans (by kernel_rfl))
 (λn=>⟨λx=>(kz8.eq_2 _ _ _ n).trans (by kernel_rfl),
  trivial⟩)
 (λx=>.inl rfl)
theorem yei:(zpa).Good Tryz.prog dat (tb zoe):=FI.kz4 (hD:=kz2 _) Tryz.func109 Tryz.ntmps109 Tryz.call109 (by kernel_rfl) (Qac (by kernel_rfl)) (by kernel_rfl) (λn=>by kernel_rfl) (λx=>by kernel_rfl) (λ_=>rfl) trivial
 (λn=>λx=>(zbb.eq_2 _ n).trans (by kernel_rfl))
 (λn=>trivial)
 (λx=>.inl rfl)
theorem yrm:OkL Tryz.prog [zh9,z05,z0z,zpa]:=z5f (kz2 _) (bs:=[zi6,zgl,zi0,z9q]) ⟨yhm,yb7,yel,zvr,trivial⟩ ⟨ypg,zcf,zdi,yei,trivial⟩
theorem ymb:FOk Tryz.prog zh9:=yrm.1
mutual
def z2i:Nat->yz1->Option Int
 |0,_=>none
 |n+1,a0=>
  (z7p n a0.re).bind λy0=>
  pIf (decide (y0.1>100))
   (z5t n true a0.re)
   (z5t n (decide (y0.2>12)) a0.re)
def z5t:Nat->Bool->yz1->Option Int
 |0,_,_=>none
 |n+1,a0,a1=>
  pIf a0
   (some 4)
   ((zc6 n a1.re).bind λy1=>
   pIf (!y1)
    (some 8)
    (some 0))
end
def ynd:LSh:=⟨[(2,(.d (.int .i64)))],[],0,19,[]⟩
noncomputable def z8d:FI dat:=FI.of dat 63 19 0 [(.d (.st 2))] [] [(.d (.int .i64))] [] true ynd (R:=Int) (λx=>x.1) (λr=>(r,())) (λn x=>z2i n x.1)
 (λn=>[(0,⟨⟨[(1,(.ptr 0 0)),(15,(.d .bool))],[(.st 2)],0,19,[]⟩,λx=>z5t n x.1 x.2.1⟩)]) (ann [(7,0)] (Tryz.f63.body.getD .skip) 0).1
noncomputable def ynl:List (FI dat):=[zbl,zh9]
theorem ynx:(z8d).Good Tryz.prog dat (tb ynl):=FI.kz4 (hD:=kz2 _) Tryz.func63 Tryz.ntmps63 Tryz.call63 (by kernel_rfl) (Qac (by kernel_rfl)) (by kernel_rfl) (λn=>by kernel_rfl) (λx=>by kernel_rfl) (λ_=>rfl) ⟨λ_=>rfl,trivial⟩
 (λn=>λx=>(z2i.eq_2 _ n).trans (by kernel_rfl))
 (λn=>⟨λx=>(z5t.eq_2 _ _ n).trans (by kernel_rfl),
  trivial⟩)
 (λx=>.inl rfl)
theorem ylc:OkL Tryz.prog [z8d]:=kz7 (kz2 _) (bs:=[zbl,zh9]) ⟨y4f,ymb,trivial⟩ ynx
theorem zpc:FOk Tryz.prog z8d:=ylc.1
def z7i:Nat->(List UInt8)->Option Bool
 |0,_=>none
 |n+1,a0=>
  (z2n n a0).bind λy0=>
  some (!y0)
def y1c:LSh:=⟨[(2,(.d .bool))],[],0,6,[]⟩
noncomputable def zb5:FI dat:=FI.of dat 65 6 0 [(.d .str)] [] [(.d .bool)] [] true y1c (R:=Bool) (λx=>x.1) (λr=>(r,())) (λn x=>z7i n x.1)
 (λn=>[]) (ann [] (Tryz.f65.body.getD .skip) 0).1
noncomputable def y2x:List (FI dat):=[z73]
theorem y29:(zb5).Good Tryz.prog dat (tb y2x):=FI.kz4 (hD:=kz2 _) Tryz.func65 Tryz.ntmps65 Tryz.call65 (by kernel_rfl) (Qac (by kernel_rfl)) (by kernel_rfl) (λn=>by kernel_rfl) (λx=>by kernel_rfl) (λ_=>rfl) trivial
 (λn=>λx=>(z7i.eq_2 _ n).trans (by kernel_rfl))
 (λn=>trivial)
 (λx=>.inl rfl)
theorem y1x:OkL Tryz.prog [zb5]:=kz7 (kz2 _) (bs:=[z73]) ⟨zmf,trivial⟩ y29
theorem zyx:FOk Tryz.prog zb5:=y1x.1
mutual
def yzs:Nat->(List (List UInt8))->Option Int
 |0,_=>none
 |n+1,a0=>
  zzg n 0 a0 (a0.length:Int)
def zzg:Nat->Int->(List (List UInt8))->Int->Option Int
 |0,_,_,_=>none
 |n+1,a0,a1,a2=>
  pIf (decide (a0<a2))
   ((ix a1 a0).bind λx0=>
   (z7i n x0).bind λy1=>
   pIf y1
    (some a0)
    (zzg n (IntKind.i64.wrap (a0+1)) a1 a2))
   (some (-1))
end
def zik:LSh:=⟨[(4,(.d (.int .i64)))],[],0,19,[]⟩
noncomputable def kzt:FI dat:=FI.of dat 96 19 0 [(.d (.sl .str)),(.fn 65 [] [])] [] [(.d (.int .i64))] [] true zik (R:=Int) (λx=>x.1) (λr=>(r,())) (λn x=>yzs n x.1)
 (λn=>[(0,⟨⟨[(8,(.d (.int .i64))),(0,(.d (.sl .str))),(1,(.fn 65 [] [])),(7,(.d (.int .i64)))],[],0,19,[]⟩,λx=>zzg n x.1 x.2.1 x.2.2.1⟩)]) (ann [(6,0)] (Tryz.f96.body.getD .skip) 0).1
noncomputable def zii:List (FI dat):=[zb5]
theorem zim:(kzt).Good Tryz.prog dat (tb zii):=FI.kz4 (hD:=kz2 _) Tryz.func96 Tryz.ntmps96 Tryz.call96 (by kernel_rfl) (Qac (by kernel_rfl)) (by kernel_rfl) (λn=>by kernel_rfl) (λx=>by kernel_rfl) (λ_=>rfl) ⟨λ_=>rfl,trivial⟩
 (λn=>λx=>(yzs.eq_2 _ n).trans (by kernel_rfl))
 (λn=>⟨λx=>(zzg.eq_2 _ _ _ n).trans (by kernel_rfl),
  trivial⟩)
 (λx=>.inl rfl)
theorem zhn:OkL Tryz.prog [kzt]:=kz7 (kz2 _) (bs:=[zb5]) ⟨zyx,trivial⟩ zim
theorem zhi:FOk Tryz.prog kzt:=zhn.1
def yzg:Nat->(List (List UInt8))->Option Bool
 |0,_=>none
 |n+1,a0=>
  (yzs n a0).bind λy0=>
  some (decide (y0>=0))
def zfy:LSh:=⟨[(4,(.d .bool))],[],0,9,[]⟩
noncomputable def yzp:FI dat:=FI.of dat 64 9 0 [(.d (.sl .str)),(.fn 65 [] [])] [] [(.d .bool)] [] true zfy (R:=Bool) (λx=>x.1) (λr=>(r,())) (λn x=>yzg n x.1)
 (λn=>[]) (ann [] (Tryz.f64.body.getD .skip) 0).1
noncomputable def zg2:List (FI dat):=[kzt]
theorem zge:(yzp).Good Tryz.prog dat (tb zg2):=FI.kz4 (hD:=kz2 _) Tryz.func64 Tryz.ntmps64 Tryz.call64 (by kernel_rfl) (Qac (by kernel_rfl)) (by kernel_rfl) (λn=>by kernel_rfl) (λx=>by kernel_rfl) (λ_=>rfl) trivial
 (λn=>λx=>(yzg.eq_2 _ n).trans (by kernel_rfl))
 (λn=>trivial)
 (λx=>.inl rfl)
theorem zgc:OkL Tryz.prog [yzp]:=kz7 (kz2 _) (bs:=[kzt]) ⟨zhi,trivial⟩ zge
theorem zf9:FOk Tryz.prog yzp:=zgc.1
def z77:Nat->(List yz1)->Option yz1
 |0,_=>none
 |n+1,a0=>
  some (yz1.mk 18 (kz1.mk 0 (kz6.mk 0 0) false [] []) [] a0)
def yjr:LSh:=⟨[(2,(.ptr 0 0))],[(.st 2)],0,5,[]⟩
noncomputable def zcb:FI dat:=FI.of dat 74 5 0 [(.d (.sl (.st 2)))] [] [(.d (.st 2))] [] true yjr (R:=yz1) (λx=>x.1) (λr=>(r,())) (λn x=>z77 n x.1)
 (λn=>[]) (ann [] (Tryz.f74.body.getD .skip) 0).1
noncomputable def yo0:List (FI dat):=[]
theorem yjb:(zcb).Good Tryz.prog dat (tb yo0):=FI.kz4 (hD:=kz2 _) Tryz.func74 Tryz.ntmps74 Tryz.call74 (by kernel_rfl) (Qac (by kernel_rfl)) (by kernel_rfl) (λn=>by kernel_rfl) (λx=>by kernel_rfl) (λ_=>rfl) trivial
 (λn=>λx=>(z77.eq_2 _ n).trans (by kernel_rfl))
 (λn=>trivial)
 (λx=>.inl rfl)
theorem ykl:OkL Tryz.prog [zcb]:=kz7 (kz2 _) (bs:=[]) trivial yjb
theorem zvf:FOk Tryz.prog zcb:=ykl.1
mutual
def z9s:Nat->Int->Option Int
 |0,_=>none
 |n+1,a0=>
  pIf (a0==2)
   (z7z n a0 true)
   (z7z n a0 (a0==3))
def z7z:Nat->Int->Bool->Option Int
 |0,_,_=>none
 |n+1,a0,a1=>
  pIf a1
   (some 3)
   (pIf (a0==4)
     (z7l n true)
     (z7l n (a0==6)))
def z7l:Nat->Bool->Option Int
 |0,_=>none
 |n+1,a0=>
  pIf a0
   (some 1)
   (some 0)
end
def yqk:LSh:=⟨[(2,(.d (.int .i64)))],[],0,10,[]⟩
noncomputable def zdx:FI dat:=FI.of dat 70 10 0 [(.d (.int .u8))] [] [(.d (.int .i64))] [] true yqk (R:=Int) (λx=>x.1) (λr=>(r,())) (λn x=>z9s n x.1)
 (λn=>[(0,⟨⟨[(3,(.d (.int .u8))),(4,(.d .bool))],[],0,10,[]⟩,λx=>z7z n x.1 x.2.1⟩),(1,⟨⟨[(7,(.d .bool))],[],0,10,[]⟩,λx=>z7l n x.1⟩)]) (ann [(12,0),(22,1)] (Tryz.f70.body.getD .skip) 0).1
noncomputable def yrt:List (FI dat):=[]
theorem yp6:(zdx).Good Tryz.prog dat (tb yrt):=FI.kz4 (hD:=kz2 _) Tryz.func70 Tryz.ntmps70 Tryz.call70 (by kernel_rfl) (Qac (by kernel_rfl)) (by kernel_rfl) (λn=>by kernel_rfl) (λx=>by kernel_rfl) (λ_=>rfl) ⟨λ_=>rfl,λ_=>rfl,trivial⟩
 (λn=>λx=>(z9s.eq_2 _ n).trans (by kernel_rfl))
 (λn=>⟨λx=>(z7z.eq_2 _ _ n).trans (by kernel_rfl),
  λx=>(z7l.eq_2 _ n).trans (by kernel_rfl),
  trivial⟩)
 (λx=>.inl rfl)
theorem yox:OkL Tryz.prog [zdx]:=kz7 (kz2 _) (bs:=[]) trivial yp6
theorem zxp:FOk Tryz.prog zdx:=yox.1
mutual
def z57:Nat->zz3->Option Bool
 |0,_=>none
 |n+1,a0=>
  pIf (decide (a0.kind>=1))
   (z07 n (decide (a0.kind<=4)) a0)
   (z07 n false a0)
def z07:Nat->Bool->zz3->Option Bool
 |0,_,_=>none
 |n+1,a0,a1=>
  pIf (a1.kind==4)
   (z08 n a0 0 true a1)
   (z08 n a0 0 (a1.kind==5) a1)
def z08:Nat->Bool->Int->Bool->zz3->Option Bool
 |0,_,_,_,_=>none
 |n+1,a0,a1,a2,a3=>
  pIf a2
   (z09 n a0 2 a3)
   (z09 n a0 a1 a3)
def z09:Nat->Bool->Int->zz3->Option Bool
 |0,_,_,_=>none
 |n+1,a0,a1,a2=>
  pIf (decide (a2.kind<1))
   (yzu n a0 true a2)
   (pIf (decide (a2.kind>6))
     (yzu n a0 true a2)
     (yzu n a0 (decide (a2.axis>a1)) a2))
def yzu:Nat->Bool->Bool->zz3->Option Bool
 |0,_,_,_=>none
 |n+1,a0,a1,a2=>
  pIf a1
   (some false)
   ((z2n n a2.name).bind λy0=>
   pIf (!(a0==y0))
    (zzu n a0 true a2)
    (pIf (!a0)
      (zzu n a0 (!(a2.name==[])) a2)
      (zzu n a0 false a2)))
def zzu:Nat->Bool->Bool->zz3->Option Bool
 |0,_,_,_=>none
 |n+1,a0,a1,a2=>
  pIf a1
   (some false)
   ((z77 n a2.args).bind λy1=>
   (z2i n y1.re).bind λy2=>
   pIf (y2 != 0)
    (yzo n true a2)
    ((z9s n a2.kind).bind λy3=>
    pIf (decide ((a2.args.length:Int)<y3))
     (yzo n true a2)
     (pIf (!a0)
       ((z9s n a2.kind).bind λy4=>
       yzo n ((a2.args.length:Int) != y4) a2)
       (yzo n false a2))))
def yzo:Nat->Bool->zz3->Option Bool
 |0,_,_=>none
 |n+1,a0,a1=>
  pIf a0
   (some false)
   (pIf (!((a1.kind==5)==(decide ((a1.items.length:Int)>0))))
     (some false)
     (kzu n 0 a1.items (a1.items.length:Int)))
def kzu:Nat->Int->(List yz7)->Int->Option Bool
 |0,_,_,_=>none
 |n+1,a0,a1,a2=>
  pIf (decide (a0<a2))
   ((ix a1 a0).bind λx5=>
   pIf (decide (x5.kind<1))
    (zzk n a1 a2 a0 true)
    (pIf (decide (x5.kind>3))
      (zzk n a1 a2 a0 true)
      ((z2n n x5.name).bind λy6=>
      pIf (!y6)
       (zzk n a1 a2 a0 true)
       (pIf ((x5.args.length:Int)==0)
         (zzk n a1 a2 a0 true)
         ((z77 n x5.args).bind λy7=>
         (z2i n y7.re).bind λy8=>
         zzk n a1 a2 a0 (y8 != 0))))))
   (some true)
def zzk:Nat->(List yz7)->Int->Int->Bool->Option Bool
 |0,_,_,_,_=>none
 |n+1,a0,a1,a2,a3=>
  pIf a3
   (some false)
   (kzu n (IntKind.i64.wrap (a2+1)) a0 a1)
end
def zx7:LSh:=⟨[(2,(.d .bool))],[],0,125,[]⟩
noncomputable def z95:FI dat:=FI.of dat 66 125 0 [(.d (.st 5))] [] [(.d .bool)] [] true zx7 (R:=Bool) (λx=>x.1) (λr=>(r,())) (λn x=>z57 n x.1)
 (λn=>[(0,⟨⟨[(1,(.ptr 0 0)),(3,(.d .bool))],[(.st 5)],0,125,[]⟩,λx=>z07 n x.1 x.2.1⟩),(1,⟨⟨[(1,(.ptr 0 0)),(3,(.d .bool)),(4,(.d (.int .u8))),(22,(.d .bool))],[(.st 5)],0,125,[]⟩,λx=>z08 n x.1 x.2.1 x.2.2.1 x.2.2.2.1⟩),(2,⟨⟨[(1,(.ptr 0 0)),(3,(.d .bool)),(4,(.d (.int .u8)))],[(.st 5)],0,125,[]⟩,λx=>z09 n x.1 x.2.1 x.2.2.1⟩),(3,⟨⟨[(1,(.ptr 0 0)),(3,(.d .bool)),(23,(.d .bool))],[(.st 5)],0,125,[]⟩,λx=>yzu n x.1 x.2.1 x.2.2.1⟩),(4,⟨⟨[(1,(.ptr 0 0)),(3,(.d .bool)),(38,(.d .bool))],[(.st 5)],0,125,[]⟩,λx=>zzu n x.1 x.2.1 x.2.2.1⟩),(5,⟨⟨[(1,(.ptr 0 0)),(53,(.d .bool))],[(.st 5)],0,125,[]⟩,λx=>yzo n x.1 x.2.1⟩),(6,⟨⟨[(93,(.d (.int .i64))),(91,(.d (.sl (.st 4)))),(92,(.d (.int .i64)))],[],0,125,[]⟩,λx=>kzu n x.1 x.2.1 x.2.2.1⟩),(7,⟨⟨[(91,(.d (.sl (.st 4)))),(92,(.d (.int .i64))),(93,(.d (.int .i64))),(123,(.d .bool))],[],0,125,[]⟩,λx=>zzk n x.1 x.2.1 x.2.2.1 x.2.2.2.1⟩)]) (ann [(4,0),(9,1),(12,2),(16,3),(22,4),(28,5),(43,6),(56,7)] (Tryz.f66.body.getD .skip) 0).1
noncomputable def zx2:List (FI dat):=[z73,zcb,z8d,zdx]
theorem zxd:(z95).Good Tryz.prog dat (tb zx2):=FI.kz4 (hD:=kz2 _) Tryz.func66 Tryz.ntmps66 Tryz.call66 (by kernel_rfl) (Qac (by kernel_rfl)) (by kernel_rfl) (λn=>by kernel_rfl) (λx=>by kernel_rfl) (λ_=>rfl) ⟨λ_=>rfl,λ_=>rfl,λ_=>rfl,λ_=>rfl,λ_=>rfl,λ_=>rfl,λ_=>rfl,λ_=>rfl,trivial⟩
 (λn=>λx=>(z57.eq_2 _ n).trans (by kernel_rfl))
 (λn=>⟨λx=>(z07.eq_2 _ _ n).trans (by kernel_rfl),
  λx=>(z08.eq_2 _ _ _ _ n).trans (by kernel_rfl),
  λx=>(z09.eq_2 _ _ _ n).trans (by kernel_rfl),
  λx=>(yzu.eq_2 _ _ _ n).trans (by kernel_rfl),
  λx=>(zzu.eq_2 _ _ _ n).trans (by kernel_rfl),
  λx=>(yzo.eq_2 _ _ n).trans (by kernel_rfl),
  λx=>(kzu.eq_2 _ _ _ n).trans (by kernel_rfl),
  λx=>(zzk.eq_2 _ _ _ _ n).trans (by kernel_rfl),
  trivial⟩)
 (λx=>.inl rfl)
theorem zwp:OkL Tryz.prog [z95]:=kz7 (kz2 _) (bs:=[z73,zcb,z8d,zdx]) ⟨zmf,zvf,zpc,zxp,trivial⟩ zxd
theorem zuw:FOk Tryz.prog z95:=zwp.1
end Go.Proofs.YtomdnlaakelghaaGreat
