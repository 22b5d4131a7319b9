/-
  THE GO STRUCTS AS LEAN STRUCTURES, by a program of this repo (types.py).
-/
import Derived.Test.YtahcjggdcmgpkaaGreatLib2
import Derived.Test.YtahcjggdcmgpkaaGreatLib3
import Derived.Test.YtahcjggdcmgpkaaGreatLib6
import Derived.Shelf.Sort.Plain
import Derived.Shelf.Slices.In.SortNone
import Derived.Shelf.SlIter.Sorted
import Derived.Shelf.Spec.SlicesGrow
import Derived.Ground.GgzProg
import Derived.Ground.NamesProg
import Derived.Ground.Names8Prog
import Derived.Test.YtahcjggdcmgpkaaGreatProg
import Derived.Test.YtahcjggdcmgpkaaGreatLib8
import Derived.Shelf.RegionOpenPlain
import Derived.WalkKit
import Derived.Deep.LoopGhost
import Derived.Lib.Walk
import Derived.Lib.SliceRun
import Derived.Test.YtahcjggdcmgpkaaGreatLib7
import Derived.KernelRfl
namespace Go.Ab
open Go
set_option linter.unusedVariables false
set_option linter.unusedSimpArgs false
structure kz6 where
 num:Int
 den:Int
def kz6.el (x:kz6):V:=.agg [.int .i64 x.num,.int .i64 x.den]
def kz6.size (x:kz6):Nat:=1+1+1
def kz6.wf (x:kz6):Prop:=(IntKind.i64.min<=x.num∧x.num<=IntKind.i64.max)∧(IntKind.i64.min<=x.den∧x.den<=IntKind.i64.max)
theorem kz6.yz7 (x:kz6):x.el = .agg [.int .i64 x.num,.int .i64 x.den]:=by rw [kz6.el]
theorem kz6.size_eq (x:kz6):x.size=1+1+1:=by rw [kz6.size]
theorem kz6.z5t (x:kz6):x.wf=((IntKind.i64.min<=x.num∧x.num<=IntKind.i64.max)∧(IntKind.i64.min<=x.den∧x.den<=IntKind.i64.max)):=by rw [kz6.wf]
theorem kz6.z1p (x:kz6):x.el.cells.length=2:=by rw [kz6.yz7];rfl
theorem kz6.zr0 (x:kz6):x.el = .agg x.el.cells:=by rw [kz6.yz7];rfl
theorem kz6.kin {D:Nat->Nat->Prop} (x:kz6):V.kin D x.el:=by rw [kz6.yz7];simp only [V.kin,V.zhv,and_true,true_and]
def kz6.ty:Ty kz6:=⟨kz6.el,2,kz6.size,kz6.wf,kz6.z1p⟩
structure yz2 where
 kind:Int
 num:kz6
 truth:Bool
 str:List UInt8
 list:List yz2
theorem yz2.y3x {x y:yz2} (h:y∈x.list):SizeOf.sizeOf y<SizeOf.sizeOf x:=by cases x;have:=List.sizeOf_lt_of_mem h;simp at this ⊢;omega
def yz2.el (x:yz2):V:=.agg [.int .u8 x.kind,.int .i64 x.num.num,.int .i64 x.num.den,.bool x.truth,.str x.str,.sl 6 (x.list.map yz2.el) false]
 termination_by x
 decreasing_by all_goals first|exact yz2.y3x ‹_›
def yz2.size (x:yz2):Nat:=1+x.num.size+1+(x.str.length+1)+((x.list.map yz2.size).sum+1)+1
 termination_by x
 decreasing_by all_goals first|exact yz2.y3x ‹_›
def yz2.wf (x:yz2):Prop:=(IntKind.u8.min<=x.kind∧x.kind<=IntKind.u8.max)∧x.num.wf∧True∧True∧(∀y∈x.list,y.wf)
 termination_by x
 decreasing_by all_goals first|exact yz2.y3x ‹_›
theorem yz2.yz7 (x:yz2):x.el = .agg [.int .u8 x.kind,.int .i64 x.num.num,.int .i64 x.num.den,.bool x.truth,.str x.str,.sl 6 (x.list.map yz2.el) false]:=by rw [yz2.el]
theorem yz2.size_eq (x:yz2):x.size=1+x.num.size+1+(x.str.length+1)+((x.list.map yz2.size).sum+1)+1:=by rw [yz2.size]
theorem yz2.z5t (x:yz2):x.wf=((IntKind.u8.min<=x.kind∧x.kind<=IntKind.u8.max)∧x.num.wf∧True∧True∧(∀y∈x.list,y.wf)):=by rw [yz2.wf]
theorem yz2.z1p (x:yz2):x.el.cells.length=6:=by rw [yz2.yz7];rfl
theorem yz2.zr0 (x:yz2):x.el = .agg x.el.cells:=by rw [yz2.yz7];rfl
theorem yz2.kin {D:Nat->Nat->Prop} (x:yz2):V.kin D x.el:=by rw [yz2.yz7];simp only [V.kin,V.zhv,and_true,true_and];exact zbs λy hy=>yz2.kin y
 termination_by x
 decreasing_by all_goals first|exact yz2.y3x ‹_›
def yz2.ty:Ty yz2:=⟨yz2.el,6,yz2.size,yz2.wf,yz2.z1p⟩
structure zz1 where
 op:Int
 value:yz2
 name:List UInt8
 args:List zz1
theorem zz1.y3h {x y:zz1} (h:y∈x.args):SizeOf.sizeOf y<SizeOf.sizeOf x:=by cases x;have:=List.sizeOf_lt_of_mem h;simp at this ⊢;omega
def zz1.el (x:zz1):V:=.agg [.int .u8 x.op,.int .u8 x.value.kind,.int .i64 x.value.num.num,.int .i64 x.value.num.den,.bool x.value.truth,.str x.value.str,.sl 6 (x.value.list.map yz2.el) false,.str x.name,.sl 9 (x.args.map zz1.el) false]
 termination_by x
 decreasing_by all_goals first|exact zz1.y3h ‹_›
def zz1.size (x:zz1):Nat:=1+x.value.size+(x.name.length+1)+((x.args.map zz1.size).sum+1)+1
 termination_by x
 decreasing_by all_goals first|exact zz1.y3h ‹_›
def zz1.wf (x:zz1):Prop:=(IntKind.u8.min<=x.op∧x.op<=IntKind.u8.max)∧x.value.wf∧True∧(∀y∈x.args,y.wf)
 termination_by x
 decreasing_by all_goals first|exact zz1.y3h ‹_›
theorem zz1.yz7 (x:zz1):x.el = .agg [.int .u8 x.op,.int .u8 x.value.kind,.int .i64 x.value.num.num,.int .i64 x.value.num.den,.bool x.value.truth,.str x.value.str,.sl 6 (x.value.list.map yz2.el) false,.str x.name,.sl 9 (x.args.map zz1.el) false]:=by rw [zz1.el]
theorem zz1.size_eq (x:zz1):x.size=1+x.value.size+(x.name.length+1)+((x.args.map zz1.size).sum+1)+1:=by rw [zz1.size]
theorem zz1.z5t (x:zz1):x.wf=((IntKind.u8.min<=x.op∧x.op<=IntKind.u8.max)∧x.value.wf∧True∧(∀y∈x.args,y.wf)):=by rw [zz1.wf]
theorem zz1.z1p (x:zz1):x.el.cells.length=9:=by rw [zz1.yz7];rfl
theorem zz1.zr0 (x:zz1):x.el = .agg x.el.cells:=by rw [zz1.yz7];rfl
theorem zz1.kin {D:Nat->Nat->Prop} (x:zz1):V.kin D x.el:=by rw [zz1.yz7];simp only [V.kin,V.zhv,and_true,true_and];exact ⟨zbs λy hy=>yz2.kin y,zbs λy hy=>zz1.kin y⟩
 termination_by x
 decreasing_by all_goals first|exact zz1.y3h ‹_›
def zz1.ty:Ty zz1:=⟨zz1.el,9,zz1.size,zz1.wf,zz1.z1p⟩
structure zz7 where
 name:List UInt8
 value:zz1
def zz7.el (x:zz7):V:=.agg [.str x.name,.int .u8 x.value.op,.int .u8 x.value.value.kind,.int .i64 x.value.value.num.num,.int .i64 x.value.value.num.den,.bool x.value.value.truth,.str x.value.value.str,.sl 6 (x.value.value.list.map yz2.el) false,.str x.value.name,.sl 9 (x.value.args.map zz1.el) false]
def zz7.size (x:zz7):Nat:=(x.name.length+1)+x.value.size+1
def zz7.wf (x:zz7):Prop:=True∧x.value.wf
theorem zz7.yz7 (x:zz7):x.el = .agg [.str x.name,.int .u8 x.value.op,.int .u8 x.value.value.kind,.int .i64 x.value.value.num.num,.int .i64 x.value.value.num.den,.bool x.value.value.truth,.str x.value.value.str,.sl 6 (x.value.value.list.map yz2.el) false,.str x.value.name,.sl 9 (x.value.args.map zz1.el) false]:=by rw [zz7.el]
theorem zz7.size_eq (x:zz7):x.size=(x.name.length+1)+x.value.size+1:=by rw [zz7.size]
theorem zz7.z5t (x:zz7):x.wf=(True∧x.value.wf):=by rw [zz7.wf]
theorem zz7.z1p (x:zz7):x.el.cells.length=10:=by rw [zz7.yz7];rfl
theorem zz7.zr0 (x:zz7):x.el = .agg x.el.cells:=by rw [zz7.yz7];rfl
theorem zz7.kin {D:Nat->Nat->Prop} (x:zz7):V.kin D x.el:=by rw [zz7.yz7];simp only [V.kin,V.zhv,and_true,true_and];exact ⟨zbs λy hy=>yz2.kin y,zbs λy hy=>zz1.kin y⟩
def zz7.ty:Ty zz7:=⟨zz7.el,10,zz7.size,zz7.wf,zz7.z1p⟩
structure yza where
 kind:Int
 name:List UInt8
 args:List zz1
def yza.el (x:yza):V:=.agg [.int .u8 x.kind,.str x.name,.sl 9 (x.args.map zz1.el) false]
def yza.size (x:yza):Nat:=1+(x.name.length+1)+((x.args.map zz1.size).sum+1)+1
def yza.wf (x:yza):Prop:=(IntKind.u8.min<=x.kind∧x.kind<=IntKind.u8.max)∧True∧(∀y∈x.args,y.wf)
theorem yza.yz7 (x:yza):x.el = .agg [.int .u8 x.kind,.str x.name,.sl 9 (x.args.map zz1.el) false]:=by rw [yza.el]
theorem yza.size_eq (x:yza):x.size=1+(x.name.length+1)+((x.args.map zz1.size).sum+1)+1:=by rw [yza.size]
theorem yza.z5t (x:yza):x.wf=((IntKind.u8.min<=x.kind∧x.kind<=IntKind.u8.max)∧True∧(∀y∈x.args,y.wf)):=by rw [yza.wf]
theorem yza.z1p (x:yza):x.el.cells.length=3:=by rw [yza.yz7];rfl
theorem yza.zr0 (x:yza):x.el = .agg x.el.cells:=by rw [yza.yz7];rfl
theorem yza.kin {D:Nat->Nat->Prop} (x:yza):V.kin D x.el:=by rw [yza.yz7];simp only [V.kin,V.zhv,and_true,true_and];exact zbs λy hy=>zz1.kin y
def yza.ty:Ty yza:=⟨yza.el,3,yza.size,yza.wf,yza.z1p⟩
structure zz3 where
 kind:Int
 axis:Int
 name:List UInt8
 args:List zz1
 items:List yza
def zz3.el (x:zz3):V:=.agg [.int .u8 x.kind,.int .u8 x.axis,.str x.name,.sl 9 (x.args.map zz1.el) false,.sl 3 (x.items.map yza.el) false]
def zz3.size (x:zz3):Nat:=1+1+(x.name.length+1)+((x.args.map zz1.size).sum+1)+((x.items.map yza.size).sum+1)+1
def zz3.wf (x:zz3):Prop:=(IntKind.u8.min<=x.kind∧x.kind<=IntKind.u8.max)∧(IntKind.u8.min<=x.axis∧x.axis<=IntKind.u8.max)∧True∧(∀y∈x.args,y.wf)∧(∀y∈x.items,y.wf)
theorem zz3.yz7 (x:zz3):x.el = .agg [.int .u8 x.kind,.int .u8 x.axis,.str x.name,.sl 9 (x.args.map zz1.el) false,.sl 3 (x.items.map yza.el) false]:=by rw [zz3.el]
theorem zz3.size_eq (x:zz3):x.size=1+1+(x.name.length+1)+((x.args.map zz1.size).sum+1)+((x.items.map yza.size).sum+1)+1:=by rw [zz3.size]
theorem zz3.z5t (x:zz3):x.wf=((IntKind.u8.min<=x.kind∧x.kind<=IntKind.u8.max)∧(IntKind.u8.min<=x.axis∧x.axis<=IntKind.u8.max)∧True∧(∀y∈x.args,y.wf)∧(∀y∈x.items,y.wf)):=by rw [zz3.wf]
theorem zz3.z1p (x:zz3):x.el.cells.length=5:=by rw [zz3.yz7];rfl
theorem zz3.zr0 (x:zz3):x.el = .agg x.el.cells:=by rw [zz3.yz7];rfl
theorem zz3.kin {D:Nat->Nat->Prop} (x:zz3):V.kin D x.el:=by rw [zz3.yz7];simp only [V.kin,V.zhv,and_true,true_and];exact ⟨zbs λy hy=>zz1.kin y,zbs λy hy=>yza.kin y⟩
def zz3.ty:Ty zz3:=⟨zz3.el,5,zz3.size,zz3.wf,zz3.z1p⟩
structure kz5 where
 weight:Int
 when_:zz1
 do_:List zz3
def kz5.el (x:kz5):V:=.agg [.int .i64 x.weight,.int .u8 x.when_.op,.int .u8 x.when_.value.kind,.int .i64 x.when_.value.num.num,.int .i64 x.when_.value.num.den,.bool x.when_.value.truth,.str x.when_.value.str,.sl 6 (x.when_.value.list.map yz2.el) false,.str x.when_.name,.sl 9 (x.when_.args.map zz1.el) false,.sl 5 (x.do_.map zz3.el) false]
def kz5.size (x:kz5):Nat:=1+x.when_.size+((x.do_.map zz3.size).sum+1)+1
def kz5.wf (x:kz5):Prop:=(IntKind.i64.min<=x.weight∧x.weight<=IntKind.i64.max)∧x.when_.wf∧(∀y∈x.do_,y.wf)
theorem kz5.yz7 (x:kz5):x.el = .agg [.int .i64 x.weight,.int .u8 x.when_.op,.int .u8 x.when_.value.kind,.int .i64 x.when_.value.num.num,.int .i64 x.when_.value.num.den,.bool x.when_.value.truth,.str x.when_.value.str,.sl 6 (x.when_.value.list.map yz2.el) false,.str x.when_.name,.sl 9 (x.when_.args.map zz1.el) false,.sl 5 (x.do_.map zz3.el) false]:=by rw [kz5.el]
theorem kz5.size_eq (x:kz5):x.size=1+x.when_.size+((x.do_.map zz3.size).sum+1)+1:=by rw [kz5.size]
theorem kz5.z5t (x:kz5):x.wf=((IntKind.i64.min<=x.weight∧x.weight<=IntKind.i64.max)∧x.when_.wf∧(∀y∈x.do_,y.wf)):=by rw [kz5.wf]
theorem kz5.z1p (x:kz5):x.el.cells.length=11:=by rw [kz5.yz7];rfl
theorem kz5.zr0 (x:kz5):x.el = .agg x.el.cells:=by rw [kz5.yz7];rfl
theorem kz5.kin {D:Nat->Nat->Prop} (x:kz5):V.kin D x.el:=by rw [kz5.yz7];simp only [V.kin,V.zhv,and_true,true_and];exact ⟨zbs λy hy=>yz2.kin y,zbs λy hy=>zz1.kin y,zbs λy hy=>zz3.kin y⟩
def kz5.ty:Ty kz5:=⟨kz5.el,11,kz5.size,kz5.wf,kz5.z1p⟩
structure kz4 where
 name:List UInt8
 params:List (List UInt8)
 cases:List kz5
def kz4.el (x:kz4):V:=.agg [.str x.name,.sl 1 (x.params.map V.str) false,.sl 11 (x.cases.map kz5.el) false]
def kz4.size (x:kz4):Nat:=(x.name.length+1)+((x.params.map (λs=>s.length+1)).sum+1)+((x.cases.map kz5.size).sum+1)+1
def kz4.wf (x:kz4):Prop:=True∧(∀y∈x.params,True)∧(∀y∈x.cases,y.wf)
theorem kz4.yz7 (x:kz4):x.el = .agg [.str x.name,.sl 1 (x.params.map V.str) false,.sl 11 (x.cases.map kz5.el) false]:=by rw [kz4.el]
theorem kz4.size_eq (x:kz4):x.size=(x.name.length+1)+((x.params.map (λs=>s.length+1)).sum+1)+((x.cases.map kz5.size).sum+1)+1:=by rw [kz4.size]
theorem kz4.z5t (x:kz4):x.wf=(True∧(∀y∈x.params,True)∧(∀y∈x.cases,y.wf)):=by rw [kz4.wf]
theorem kz4.z1p (x:kz4):x.el.cells.length=3:=by rw [kz4.yz7];rfl
theorem kz4.zr0 (x:kz4):x.el = .agg x.el.cells:=by rw [kz4.yz7];rfl
theorem kz4.kin {D:Nat->Nat->Prop} (x:kz4):V.kin D x.el:=by rw [kz4.yz7];simp only [V.kin,V.zhv,and_true,true_and];exact ⟨zbs λ_ _=>by simp [V.kin],zbs λy hy=>kz5.kin y⟩
def kz4.ty:Ty kz4:=⟨kz4.el,3,kz4.size,kz4.wf,kz4.z1p⟩
structure zz0 where
 attrs:List zz7
 rules:List kz4
def zz0.el (x:zz0):V:=.agg [.sl 10 (x.attrs.map zz7.el) false,.sl 3 (x.rules.map kz4.el) false]
def zz0.size (x:zz0):Nat:=((x.attrs.map zz7.size).sum+1)+((x.rules.map kz4.size).sum+1)+1
def zz0.wf (x:zz0):Prop:=(∀y∈x.attrs,y.wf)∧(∀y∈x.rules,y.wf)
theorem zz0.yz7 (x:zz0):x.el = .agg [.sl 10 (x.attrs.map zz7.el) false,.sl 3 (x.rules.map kz4.el) false]:=by rw [zz0.el]
theorem zz0.size_eq (x:zz0):x.size=((x.attrs.map zz7.size).sum+1)+((x.rules.map kz4.size).sum+1)+1:=by rw [zz0.size]
theorem zz0.z5t (x:zz0):x.wf=((∀y∈x.attrs,y.wf)∧(∀y∈x.rules,y.wf)):=by rw [zz0.wf]
theorem zz0.z1p (x:zz0):x.el.cells.length=2:=by rw [zz0.yz7];rfl
theorem zz0.zr0 (x:zz0):x.el = .agg x.el.cells:=by rw [zz0.yz7];rfl
theorem zz0.kin {D:Nat->Nat->Prop} (x:zz0):V.kin D x.el:=by rw [zz0.yz7];simp only [V.kin,V.zhv,and_true,true_and];exact ⟨zbs λy hy=>zz7.kin y,zbs λy hy=>kz4.kin y⟩
def zz0.ty:Ty zz0:=⟨zz0.el,2,zz0.size,zz0.wf,zz0.z1p⟩
structure zzq where
 name:List UInt8
 many:Int
def zzq.el (x:zzq):V:=.agg [.str x.name,.int .i64 x.many]
def zzq.size (x:zzq):Nat:=(x.name.length+1)+1+1
def zzq.wf (x:zzq):Prop:=True∧(IntKind.i64.min<=x.many∧x.many<=IntKind.i64.max)
theorem zzq.yz7 (x:zzq):x.el = .agg [.str x.name,.int .i64 x.many]:=by rw [zzq.el]
theorem zzq.size_eq (x:zzq):x.size=(x.name.length+1)+1+1:=by rw [zzq.size]
theorem zzq.z5t (x:zzq):x.wf=(True∧(IntKind.i64.min<=x.many∧x.many<=IntKind.i64.max)):=by rw [zzq.wf]
theorem zzq.z1p (x:zzq):x.el.cells.length=2:=by rw [zzq.yz7];rfl
theorem zzq.zr0 (x:zzq):x.el = .agg x.el.cells:=by rw [zzq.yz7];rfl
theorem zzq.kin {D:Nat->Nat->Prop} (x:zzq):V.kin D x.el:=by rw [zzq.yz7];simp only [V.kin,V.zhv,and_true,true_and]
def zzq.ty:Ty zzq:=⟨zzq.el,2,zzq.size,zzq.wf,zzq.z1p⟩
structure z0q where
 name:List UInt8
 many:Int
def z0q.el (x:z0q):V:=.agg [.str x.name,.int .i64 x.many]
def z0q.size (x:z0q):Nat:=(x.name.length+1)+1+1
def z0q.wf (x:z0q):Prop:=True∧(IntKind.i64.min<=x.many∧x.many<=IntKind.i64.max)
theorem z0q.yz7 (x:z0q):x.el = .agg [.str x.name,.int .i64 x.many]:=by rw [z0q.el]
theorem z0q.size_eq (x:z0q):x.size=(x.name.length+1)+1+1:=by rw [z0q.size]
theorem z0q.z5t (x:z0q):x.wf=(True∧(IntKind.i64.min<=x.many∧x.many<=IntKind.i64.max)):=by rw [z0q.wf]
theorem z0q.z1p (x:z0q):x.el.cells.length=2:=by rw [z0q.yz7];rfl
theorem z0q.zr0 (x:z0q):x.el = .agg x.el.cells:=by rw [z0q.yz7];rfl
theorem z0q.kin {D:Nat->Nat->Prop} (x:z0q):V.kin D x.el:=by rw [z0q.yz7];simp only [V.kin,V.zhv,and_true,true_and]
def z0q.ty:Ty z0q:=⟨z0q.el,2,z0q.size,z0q.wf,z0q.z1p⟩
end Go.Ab
namespace Go.Ab
open Go
set_option linter.unusedVariables false
def yz2.re (x:yz2):yz2:=⟨x.kind,x.num,x.truth,x.str,x.list⟩
@[simp] theorem yz2.yz5 (x:yz2):x.re=x:=by cases x;simp [yz2.re]
def zz1.re (x:zz1):zz1:=⟨x.op,x.value.re,x.name,x.args⟩
@[simp] theorem zz1.yz5 (x:zz1):x.re=x:=by cases x;simp [zz1.re]
def zz7.re (x:zz7):zz7:=⟨x.name,x.value.re⟩
@[simp] theorem zz7.yz5 (x:zz7):x.re=x:=by cases x;simp [zz7.re]
def kz5.re (x:kz5):kz5:=⟨x.weight,x.when_.re,x.do_⟩
@[simp] theorem kz5.yz5 (x:kz5):x.re=x:=by cases x;simp [kz5.re]
def datT:Nat->Type
 |0=>kz6
 |1=>yz2
 |2=>zz1
 |3=>zz7
 |4=>yza
 |5=>zz3
 |6=>kz5
 |7=>kz4
 |8=>zz0
 |9=>zzq
 |10=>z0q
 |_=>Unit
def zx7:Nat->List DTy
 |0=>[.int .i64,.int .i64]
 |1=>[.int .u8,.int .i64,.int .i64,.bool,.str,.sl (.st 1)]
 |2=>[.int .u8,.int .u8,.int .i64,.int .i64,.bool,.str,.sl (.st 1),.str,.sl (.st 2)]
 |3=>[.str,.int .u8,.int .u8,.int .i64,.int .i64,.bool,.str,.sl (.st 1),.str,.sl (.st 2)]
 |4=>[.int .u8,.str,.sl (.st 2)]
 |5=>[.int .u8,.int .u8,.str,.sl (.st 2),.sl (.st 4)]
 |6=>[.int .i64,.int .u8,.int .u8,.int .i64,.int .i64,.bool,.str,.sl (.st 1),.str,.sl (.st 2),.sl (.st 5)]
 |7=>[.str,.sl .str,.sl (.st 6)]
 |8=>[.sl (.st 3),.sl (.st 7)]
 |9=>[.str,.int .i64]
 |10=>[.str,.int .i64]
 |_=>[]
def z03x:List (Nat×DTy):=[(2,.int .i64),(3,.int .i64),(4,.bool),(5,.int .u8),(6,.int .u8),(9,.str),(10,.str),(11,.str),(12,.int .u64),(21,.int .i32),(22,.sl (.st 3)),(23,.sl (.st 7)),(25,.st 8),(27,.sl .str),(28,.int .i64),(37,.st 0),(38,.sl (.st 1)),(40,.st 1),(41,.sl (.st 2)),(43,.st 2),(45,.st 3),(46,.sl (.st 6)),(48,.st 7),(50,.sl (.st 5)),(52,.st 6),(69,.sl (.st 4)),(71,.st 5),(73,.st 4),(95,.sl (.st 9)),(98,.st 9),(101,.sl (.st 10)),(104,.st 10),(110,.sl (.sl (.st 3))),(116,.sl (.sl (.st 7))),(129,.int .u64),(145,.int .i64),(153,.int .u32),(155,.int .u64),(163,.int .u64),(186,.int .u8),(187,.int .u8),(190,.int .i32),(191,.int .i32)]
def dat:Dat where
 T:=datT
 fl:=zx7
 get:=λi=>match i with
  |0=>λ(x:kz6)=>(x.num,x.den,())
  |1=>λ(x:yz2)=>(x.kind,x.num.num,x.num.den,x.truth,x.str,x.list,())
  |2=>λ(x:zz1)=>(x.op,x.value.kind,x.value.num.num,x.value.num.den,x.value.truth,x.value.str,x.value.list,x.name,x.args,())
  |3=>λ(x:zz7)=>(x.name,x.value.op,x.value.value.kind,x.value.value.num.num,x.value.value.num.den,x.value.value.truth,x.value.value.str,x.value.value.list,x.value.name,x.value.args,())
  |4=>λ(x:yza)=>(x.kind,x.name,x.args,())
  |5=>λ(x:zz3)=>(x.kind,x.axis,x.name,x.args,x.items,())
  |6=>λ(x:kz5)=>(x.weight,x.when_.op,x.when_.value.kind,x.when_.value.num.num,x.when_.value.num.den,x.when_.value.truth,x.when_.value.str,x.when_.value.list,x.when_.name,x.when_.args,x.do_,())
  |7=>λ(x:kz4)=>(x.name,x.params,x.cases,())
  |8=>λ(x:zz0)=>(x.attrs,x.rules,())
  |9=>λ(x:zzq)=>(x.name,x.many,())
  |10=>λ(x:z0q)=>(x.name,x.many,())
  |_+11=>λ_=>()
 make:=λi=>match i with
  |0=>λx=>kz6.mk x.1 x.2.1
  |1=>λx=>yz2.mk x.1 (kz6.mk x.2.1 x.2.2.1) x.2.2.2.1 x.2.2.2.2.1 x.2.2.2.2.2.1
  |2=>λx=>zz1.mk x.1 (yz2.mk x.2.1 (kz6.mk x.2.2.1 x.2.2.2.1) x.2.2.2.2.1 x.2.2.2.2.2.1 x.2.2.2.2.2.2.1) x.2.2.2.2.2.2.2.1 x.2.2.2.2.2.2.2.2.1
  |3=>λx=>zz7.mk x.1 (zz1.mk x.2.1 (yz2.mk x.2.2.1 (kz6.mk x.2.2.2.1 x.2.2.2.2.1) x.2.2.2.2.2.1 x.2.2.2.2.2.2.1 x.2.2.2.2.2.2.2.1) x.2.2.2.2.2.2.2.2.1 x.2.2.2.2.2.2.2.2.2.1)
  |4=>λx=>yza.mk x.1 x.2.1 x.2.2.1
  |5=>λx=>zz3.mk x.1 x.2.1 x.2.2.1 x.2.2.2.1 x.2.2.2.2.1
  |6=>λx=>kz5.mk x.1 (zz1.mk x.2.1 (yz2.mk x.2.2.1 (kz6.mk x.2.2.2.1 x.2.2.2.2.1) x.2.2.2.2.2.1 x.2.2.2.2.2.2.1 x.2.2.2.2.2.2.2.1) x.2.2.2.2.2.2.2.2.1 x.2.2.2.2.2.2.2.2.2.1) x.2.2.2.2.2.2.2.2.2.2.1
  |7=>λx=>kz4.mk x.1 x.2.1 x.2.2.1
  |8=>λx=>zz0.mk x.1 x.2.1
  |9=>λx=>zzq.mk x.1 x.2.1
  |10=>λx=>z0q.mk x.1 x.2.1
  |_+11=>λ_=>()
 enc:=λi=>match i with
  |0=>kz6.el
  |1=>yz2.el
  |2=>zz1.el
  |3=>zz7.el
  |4=>yza.el
  |5=>zz3.el
  |6=>kz5.el
  |7=>kz4.el
  |8=>zz0.el
  |9=>zzq.el
  |10=>z0q.el
  |_+11=>λ_=>.agg []
 ty:=fnd z03x
end Go.Ab
namespace Go.Ab
open Go
set_option linter.unusedVariables false
theorem zz2 (P:Program):dat.Ok P where
 enc:=λi=>match i with
  |0=>λx=>kz6.yz7 x
  |1=>λx=>yz2.yz7 x
  |2=>λx=>zz1.yz7 x
  |3=>λx=>zz7.yz7 x
  |4=>λx=>yza.yz7 x
  |5=>λx=>zz3.yz7 x
  |6=>λx=>kz5.yz7 x
  |7=>λx=>kz4.yz7 x
  |8=>λx=>zz0.yz7 x
  |9=>λx=>zzq.yz7 x
  |10=>λx=>z0q.yz7 x
  |_+11=>λ_=>rfl
 getMake:=λi=>match i with
  |0=>λx=>rfl
  |1=>λx=>rfl
  |2=>λx=>rfl
  |3=>λx=>rfl
  |4=>λx=>rfl
  |5=>λx=>rfl
  |6=>λx=>rfl
  |7=>λx=>rfl
  |8=>λx=>rfl
  |9=>λx=>rfl
  |10=>λx=>rfl
  |_+11=>λ_=>rfl
 flat:=λi=>match i with
  |0=>λt h=>by simp only [dat,zx7,List.mem_cons,List.not_mem_nil,or_false] at h;rcases h with rfl|rfl <;> trivial
  |1=>λt h=>by simp only [dat,zx7,List.mem_cons,List.not_mem_nil,or_false] at h;rcases h with rfl|rfl|rfl|rfl|rfl|rfl <;> trivial
  |2=>λt h=>by simp only [dat,zx7,List.mem_cons,List.not_mem_nil,or_false] at h;rcases h with rfl|rfl|rfl|rfl|rfl|rfl|rfl|rfl|rfl <;> trivial
  |3=>λt h=>by simp only [dat,zx7,List.mem_cons,List.not_mem_nil,or_false] at h;rcases h with rfl|rfl|rfl|rfl|rfl|rfl|rfl|rfl|rfl|rfl <;> trivial
  |4=>λt h=>by simp only [dat,zx7,List.mem_cons,List.not_mem_nil,or_false] at h;rcases h with rfl|rfl|rfl <;> trivial
  |5=>λt h=>by simp only [dat,zx7,List.mem_cons,List.not_mem_nil,or_false] at h;rcases h with rfl|rfl|rfl|rfl|rfl <;> trivial
  |6=>λt h=>by simp only [dat,zx7,List.mem_cons,List.not_mem_nil,or_false] at h;rcases h with rfl|rfl|rfl|rfl|rfl|rfl|rfl|rfl|rfl|rfl|rfl <;> trivial
  |7=>λt h=>by simp only [dat,zx7,List.mem_cons,List.not_mem_nil,or_false] at h;rcases h with rfl|rfl|rfl <;> trivial
  |8=>λt h=>by simp only [dat,zx7,List.mem_cons,List.not_mem_nil,or_false] at h;rcases h with rfl|rfl <;> trivial
  |9=>λt h=>by simp only [dat,zx7,List.mem_cons,List.not_mem_nil,or_false] at h;rcases h with rfl|rfl <;> trivial
  |10=>λt h=>by simp only [dat,zx7,List.mem_cons,List.not_mem_nil,or_false] at h;rcases h with rfl|rfl <;> trivial
  |_+11=>λt h=>by cases h
 ty:=λe t h=>by
  have:=zc6 h
  simp only [z03x,List.mem_cons,Prod.mk.injEq,List.not_mem_nil,or_false] at this
  rcases this with ⟨_,rfl⟩|⟨_,rfl⟩|⟨_,rfl⟩|⟨_,rfl⟩|⟨_,rfl⟩|⟨_,rfl⟩|⟨_,rfl⟩|⟨_,rfl⟩|⟨_,rfl⟩|⟨_,rfl⟩|⟨_,rfl⟩|⟨_,rfl⟩|⟨_,rfl⟩|⟨_,rfl⟩|⟨_,rfl⟩|⟨_,rfl⟩|⟨_,rfl⟩|⟨_,rfl⟩|⟨_,rfl⟩|⟨_,rfl⟩|⟨_,rfl⟩|⟨_,rfl⟩|⟨_,rfl⟩|⟨_,rfl⟩|⟨_,rfl⟩|⟨_,rfl⟩|⟨_,rfl⟩|⟨_,rfl⟩|⟨_,rfl⟩|⟨_,rfl⟩|⟨_,rfl⟩|⟨_,rfl⟩|⟨_,rfl⟩|⟨_,rfl⟩|⟨_,rfl⟩|⟨_,rfl⟩|⟨_,rfl⟩|⟨_,rfl⟩|⟨_,rfl⟩|⟨_,rfl⟩|⟨_,rfl⟩|⟨_,rfl⟩|⟨_,rfl⟩ <;> simp
 kin:=λi=>match i with
  |0=>λx _=>kz6.kin x
  |1=>λx _=>yz2.kin x
  |2=>λx _=>zz1.kin x
  |3=>λx _=>zz7.kin x
  |4=>λx _=>yza.kin x
  |5=>λx _=>zz3.kin x
  |6=>λx _=>kz5.kin x
  |7=>λx _=>kz4.kin x
  |8=>λx _=>zz0.kin x
  |9=>λx _=>zzq.kin x
  |10=>λx _=>z0q.kin x
  |_+11=>λ_ _=>by simp only [dat,V.kin,V.zhv]
end Go.Ab
namespace Go.Proofs
open Go.Shelf
def Tryz.ywe:Go.Shelf.Ren:=⟨λ|190=>51|125=>93|258=>92|128=>126|129=>127|302=>117|303=>118|304=>119|305=>120|306=>121|307=>122|308=>123|309=>124|310=>125|333=>142|329=>143|330=>144|334=>145|335=>146|336=>147|344=>157|n=>n,λ|31=>27|9=>9|3=>3|46=>129|0=>0|51=>153|53=>155|4=>4|183=>146|182=>145|131=>107|5=>5|218=>163|222=>167|228=>171|229=>158|n=>n,λ|n=>n⟩
theorem Tryz.yb9:Go.Proofs.Lays.n190 Tryz.prog Tryz.ywe:={
 mixed:=by kernel_rfl
 f125:=Tryz.func93.trans (congrArg some (by kernel_rfl))
 f128:=Tryz.func126.trans (congrArg some (by kernel_rfl))
 f129:=Tryz.func127.trans (congrArg some (by kernel_rfl))
 f190:=Tryz.func51.trans (congrArg some (by kernel_rfl))
 f258:=Tryz.func92.trans (congrArg some (by kernel_rfl))
 f302:=Tryz.func117.trans (congrArg some (by kernel_rfl))
 f303:=Tryz.func118.trans (congrArg some (by kernel_rfl))
 f304:=Tryz.func119.trans (congrArg some (by kernel_rfl))
 f305:=Tryz.func120.trans (congrArg some (by kernel_rfl))
 f306:=Tryz.func121.trans (congrArg some (by kernel_rfl))
 f307:=Tryz.func122.trans (congrArg some (by kernel_rfl))
 f308:=Tryz.func123.trans (congrArg some (by kernel_rfl))
 f309:=Tryz.func124.trans (congrArg some (by kernel_rfl))
 f310:=Tryz.func125.trans (congrArg some (by kernel_rfl))
 f329:=Tryz.func143.trans (congrArg some (by kernel_rfl))
 f330:=Tryz.func144.trans (congrArg some (by kernel_rfl))
 f333:=Tryz.func142.trans (congrArg some (by kernel_rfl))
 f334:=Tryz.func145.trans (congrArg some (by kernel_rfl))
 f335:=Tryz.func146.trans (congrArg some (by kernel_rfl))
 f336:=Tryz.func147.trans (congrArg some (by kernel_rfl))
 f344:=Tryz.func157.trans (congrArg some (by kernel_rfl))
 t0:=Tryz.underlying0
 a0:=Tryz.isAgg0
 z0:=Tryz.sizeOf0
 v0:=Tryz.zeroValue0
 t3:=Tryz.underlying3
 a3:=Tryz.isAgg3
 z3:=Tryz.sizeOf3
 v3:=Tryz.zeroValue3
 t4:=Tryz.underlying4
 a4:=Tryz.isAgg4
 z4:=Tryz.sizeOf4
 v4:=Tryz.zeroValue4
 t5:=Tryz.underlying5
 a5:=Tryz.isAgg5
 z5:=Tryz.sizeOf5
 v5:=Tryz.zeroValue5
 t9:=Tryz.underlying9
 a9:=Tryz.isAgg9
 z9:=Tryz.sizeOf9
 v9:=Tryz.zeroValue9
 t31:=Tryz.underlying27
 a31:=Tryz.isAgg27
 z31:=Tryz.sizeOf27
 v31:=Tryz.zeroValue27
 t46:=Tryz.underlying129
 a46:=Tryz.isAgg129
 z46:=Tryz.sizeOf129
 v46:=Tryz.zeroValue129
 t51:=Tryz.underlying153
 a51:=Tryz.isAgg153
 z51:=Tryz.sizeOf153
 v51:=Tryz.zeroValue153
 t53:=Tryz.underlying155
 a53:=Tryz.isAgg155
 z53:=Tryz.sizeOf155
 v53:=Tryz.zeroValue155
 t131:=Tryz.underlying107
 a131:=Tryz.isAgg107
 z131:=Tryz.sizeOf107
 v131:=Tryz.zeroValue107
 t182:=Tryz.underlying145
 a182:=Tryz.isAgg145
 z182:=Tryz.sizeOf145
 v182:=Tryz.zeroValue145
 t183:=Tryz.underlying146
 a183:=Tryz.isAgg146
 z183:=Tryz.sizeOf146
 v183:=Tryz.zeroValue146
 t218:=Tryz.underlying163
 a218:=Tryz.isAgg163
 z218:=Tryz.sizeOf163
 v218:=Tryz.zeroValue163
 t222:=Tryz.underlying167
 a222:=Tryz.isAgg167
 z222:=Tryz.sizeOf167
 v222:=Tryz.zeroValue167
 t228:=Tryz.underlying171
 a228:=Tryz.isAgg171
 z228:=Tryz.sizeOf171
 v228:=Tryz.zeroValue171
 t229:=Tryz.underlying158
 a229:=Tryz.isAgg158
 z229:=Tryz.sizeOf158
 v229:=Tryz.zeroValue158}
def Tryz.yn1:Go.Shelf.Ren:=⟨λ|7=>33|10=>64|n=>n,λ|23=>55|26=>9|3=>4|28=>77|0=>0|27=>76|33=>61|4=>4|n=>n,λ|n=>n⟩
theorem Tryz.z07m:Go.Proofs.SlLaysZ.n7 Tryz.prog Tryz.yn1:={
 mixed:=by kernel_rfl
 f7:=⟨Tryz.f33.name,by decide,Tryz.func33.trans (congrArg some (by kernel_rfl))⟩
 f10:=⟨Tryz.f64.name,by decide,Tryz.func64.trans (congrArg some (by kernel_rfl))⟩
 t0:=Tryz.underlying0
 a0:=Tryz.isAgg0
 z0:=Tryz.sizeOf0
 v0:=Tryz.zeroValue0
 t4:=Tryz.underlying4
 a4:=Tryz.isAgg4
 z4:=Tryz.sizeOf4
 v4:=Tryz.zeroValue4
 t23:=Tryz.underlying55
 a23:=Tryz.isAgg55
 z23:=Tryz.sizeOf55
 v23:=Tryz.zeroValue55
 t26:=Tryz.underlying9
 a26:=Tryz.isAgg9
 z26:=Tryz.sizeOf9
 v26:=Tryz.zeroValue9
 t27:=Tryz.underlying76
 a27:=Tryz.isAgg76
 z27:=Tryz.sizeOf76
 v27:=Tryz.zeroValue76
 t28:=Tryz.underlying77
 a28:=Tryz.isAgg77
 z28:=Tryz.sizeOf77
 v28:=Tryz.zeroValue77
 t33:=Tryz.underlying61
 a33:=Tryz.isAgg61
 z33:=Tryz.sizeOf61
 v33:=Tryz.zeroValue61}
def Tryz.y8n:Go.Shelf.Ren:=⟨λ|6=>32|8=>63|9=>51|11=>105|13=>93|12=>92|23=>126|24=>127|14=>117|15=>118|16=>119|17=>120|18=>121|19=>122|20=>123|21=>124|22=>125|25=>142|26=>143|27=>144|28=>145|29=>146|30=>147|31=>157|n=>n,λ|26=>9|28=>77|24=>27|0=>0|3=>3|37=>129|48=>153|50=>155|4=>4|40=>146|39=>145|45=>107|5=>5|9=>9|51=>163|55=>167|57=>171|58=>158|33=>61|n=>n,λ|n=>n⟩
theorem Tryz.z073:Go.Proofs.SlLaysZ.n6 Tryz.prog Tryz.y8n:={
 mixed:=by kernel_rfl
 f6:=⟨Tryz.f32.name,by decide,Tryz.func32.trans (congrArg some (by kernel_rfl))⟩
 f8:=⟨Tryz.f63.name,by decide,Tryz.func63.trans (congrArg some (by kernel_rfl))⟩
 f11:=⟨Tryz.f105.name,by decide,Tryz.func105.trans (congrArg some (by kernel_rfl))⟩
 t0:=Tryz.underlying0
 a0:=Tryz.isAgg0
 z0:=Tryz.sizeOf0
 v0:=Tryz.zeroValue0
 t24:=Tryz.underlying27
 a24:=Tryz.isAgg27
 z24:=Tryz.sizeOf27
 v24:=Tryz.zeroValue27
 t26:=Tryz.underlying9
 a26:=Tryz.isAgg9
 z26:=Tryz.sizeOf9
 v26:=Tryz.zeroValue9
 t28:=Tryz.underlying77
 a28:=Tryz.isAgg77
 z28:=Tryz.sizeOf77
 v28:=Tryz.zeroValue77
 i26:=by kernel_rfl}
def Tryz.z024:Go.Shelf.Ren:=⟨λ|4=>65|n=>n,λ|22=>22|25=>45|3=>3|4=>4|9=>9|20=>20|0=>0|n=>n,λ|n=>n⟩
theorem Tryz.growA:Go.Proofs.Lays8.n4 Tryz.prog Tryz.z024:={
 mixed:=by kernel_rfl
 f4:=⟨Tryz.f65.name,by decide,Tryz.func65.trans (congrArg some (by kernel_rfl))⟩
 t0:=Tryz.underlying0
 a0:=Tryz.isAgg0
 z0:=Tryz.sizeOf0
 v0:=Tryz.zeroValue0
 t3:=Tryz.underlying3
 a3:=Tryz.isAgg3
 z3:=Tryz.sizeOf3
 v3:=Tryz.zeroValue3
 t4:=Tryz.underlying4
 a4:=Tryz.isAgg4
 z4:=Tryz.sizeOf4
 v4:=Tryz.zeroValue4
 t9:=Tryz.underlying9
 a9:=Tryz.isAgg9
 z9:=Tryz.sizeOf9
 v9:=Tryz.zeroValue9
 t20:=Tryz.underlying20
 a20:=Tryz.isAgg20
 z20:=Tryz.sizeOf20
 v20:=Tryz.zeroValue20
 t22:=Tryz.underlying22
 a22:=Tryz.isAgg22
 z22:=Tryz.sizeOf22
 v22:=Tryz.zeroValue22}
def Tryz.z02s:Go.Shelf.Ren:=⟨λ|4=>77|n=>n,λ|22=>23|25=>48|3=>3|4=>4|9=>9|20=>20|0=>0|n=>n,λ|n=>n⟩
theorem Tryz.growR:Go.Proofs.Lays8.n4 Tryz.prog Tryz.z02s:={
 mixed:=by kernel_rfl
 f4:=⟨Tryz.f77.name,by decide,Tryz.func77.trans (congrArg some (by kernel_rfl))⟩
 t0:=Tryz.underlying0
 a0:=Tryz.isAgg0
 z0:=Tryz.sizeOf0
 v0:=Tryz.zeroValue0
 t3:=Tryz.underlying3
 a3:=Tryz.isAgg3
 z3:=Tryz.sizeOf3
 v3:=Tryz.zeroValue3
 t4:=Tryz.underlying4
 a4:=Tryz.isAgg4
 z4:=Tryz.sizeOf4
 v4:=Tryz.zeroValue4
 t9:=Tryz.underlying9
 a9:=Tryz.isAgg9
 z9:=Tryz.sizeOf9
 v9:=Tryz.zeroValue9
 t20:=Tryz.underlying20
 a20:=Tryz.isAgg20
 z20:=Tryz.sizeOf20
 v20:=Tryz.zeroValue20
 t22:=Tryz.underlying23
 a22:=Tryz.isAgg23
 z22:=Tryz.sizeOf23
 v22:=Tryz.zeroValue23}
end Go.Proofs
namespace Go.Proofs
open Go.RowKit Go.Maps Go.Sort Go.Shelf Go.Lib
set_option linter.unusedVariables false
set_option linter.unusedSimpArgs false
theorem Tryz.z07t (m:Nat):AnyZ.SortsIn Tryz.prog Tryz.y8n Fence.wide m :=
 ⟨λblk off cap ss W hH hblk hsz=>callsIn_wide.2 (Any.slices_Sort_string Tryz.yb9 blk off cap ss W hH hblk hsz),
  λp cap W=>callsIn_wide.2 (Any.slices_Sort_string_none Tryz.yb9 p cap W)⟩
set_option maxHeartbeats 1000000 in
theorem Tryz.z06l:Ab.ysg Tryz.prog 15 9:=λb es clock w hb ft hsz=>by
 refine (callsIn_wide (n:=6)).1 ?_
 have hbl:b<w.heap.size:=(Array.getElem?_eq_some_iff.1 hb).1
 have hown:w.ownsMap Tryz.prog 9 (Ab.zwq (H:=Unit)) b es.size (DataW.map ((es.toList.map (WideElems.rg Tryz.prog 9 (Ab.zwq (H:=Unit)))).foldr DataW.insert [])):=⟨es,clock,hb,ft,Nat.le_refl _,rfl⟩
 have hlen:Maps.size (DataW.map ((es.toList.map (WideElems.rg Tryz.prog 9 (Ab.zwq (H:=Unit)))).foldr DataW.insert []))=es.size:=by
  rw [Maps.size_eq,(Ab.zw3 _).length_eq];simp
 generalize DataW.map ((es.toList.map (WideElems.rg Tryz.prog 9 (Ab.zwq (H:=Unit)))).foldr DataW.insert [])=D0 at hown hlen ⊢
 have hmax:Maps.size D0<=maxLen:=by rw [hlen];simp only [maxLen];omega
 have hbytes:Maps.size D0 * 16<=140737488355328:=by rw [hlen];omega
 have hseq:SeqGives Fence.wide 2 Tryz.prog 64 #[.pointer (some ⟨w.heap.size,0,none⟩)] encStr (λss=>ss.Perm (strKeys D0)) (Maps.size D0) (w.alloc (.cells #[.map (some b)] 55)) :=
  AnyZ.keys_gives (ρ:=Tryz.yn1) {Tryz.z07m with} Fence.wide _ trivial rfl (by omega) w.heap.size b es.size D0 _ (by simp) (by simp) (by
   obtain ⟨es',clock',hb',Ft,hs,hD⟩:=hown
   exact ⟨es',clock',(Below.heap_alloc _ _ b hbl).trans hb',Ft,hs,hD⟩)
 have cK:∀mb W,CallsIn Fence.wide 5 Tryz.prog 33 #[.map mb] W λe w'=>e = .returned (.func (.func 64) #[] #[.pointer (some ⟨W.heap.size,0,none⟩)])∧w'=W.alloc (.cells #[.map mb] 55):=λmb W=>AnyZ.keys_in Tryz.z07m Fence.wide 5 trivial rfl mb W
 have cS:=AnyZ.sorted_in Tryz.z073 Fence.wide 5 trivial trivial trivial trivial rfl (by omega) (Tryz.z07t _) (enters_of Tryz.func51 (by kernel_rfl) rfl) 64 #[.pointer (some ⟨w.heap.size,0,none⟩)] trivial (enters_of Tryz.func64 (by kernel_rfl) rfl) _ _ hmax hbytes _ hseq
 change CallsIn _ _ Tryz.prog 32 _ _ _ at cS
 have hfK:Fence.wide.fn 33:=trivial
 have hfS:Fence.wide.fn 32:=trivial
 refine callsIn_of_wp Tryz.func15 rfl trivial ?_ rfl
 simp only [Tryz.ntmps15,List.size_toArray,List.length_cons,List.length_nil,Nat.reduceAdd,Nat.reduceSub,Array.replicate_succ,Array.replicate_zero,List.push_toArray,List.append_toArray,List.nil_append,List.cons_append]
 gi_wp2_with (first
  |(gi_at_call 33;refine (cK _ _).mono ?_;rintro e w' ⟨rfl,rfl⟩)
  |(gi_at_call 32;refine cS.mono ?_;rintro e w' ⟨v,ss,rfl,hS,hrow,hnil,hb⟩))
 go_ret
 exact ⟨v,ss,rfl,hS,ownsRow_base_a hrow (by simp),((Below.refl _ w).alloc (Nat.le_refl _) _).trans (hb.mono (by simp))⟩
theorem z00u {P:Program} {e n b:Nat} (h:(P.info? e).map (λi=>(i.zero.map (·.cells.size),i.size,i.bytes))=some (some n,n,b)):∃i z,P.info? e=some i∧i.zero=some z∧i.size=n∧i.bytes=b∧z.cells.size=n:=by
 cases hi:P.info? e with
 |none=>rw [hi] at h;cases h
 |some i =>
  rw [hi] at h
  simp only [Option.map_some,Option.some.injEq,Prod.mk.injEq] at h
  obtain ⟨h1,h2,h3⟩:=h
  cases hz:i.zero with
  |none=>rw [hz] at h1;cases h1
  |some z =>
   rw [hz] at h1
   simp only [Option.map_some,Option.some.injEq] at h1
   exact ⟨i,z,rfl,hz,h2,h3,h1⟩
set_option maxHeartbeats 2000000 in
set_option maxRecDepth 100000 in
theorem Tryz.z055 (ad:Addr) (n c:Nat) (cells:List Value) (w:World) (hl:cells.length=n * 9) (hc:∀j u,cells[j]? = some u->w.cell? (ad.add j)=some u) (h1:∀u∈cells,u.oneCell'=true) (hn:n<=maxLen) (hb:n * 120<=140737488355328) :
  Calls Tryz.prog 87 #[.slice (some ad) n c] w λe w'=>∃v',e = .returned v'∧w'.ownsRow w.heap.size 43 9 v' n cells∧Below w.heap.size w w':=by
 have t41:Tryz.prog.underlying 41=some (.slice 43):=by kernel_rfl
 obtain ⟨i0,z,hi,hz0,hz1,hz2,hz3⟩:=z00u (P:=Tryz.prog) (e:=43) (n:=9) (b:=120) (by kernel_rfl)
 have q41:∀(w:World) (a:Option Addr) (n c n' c':Nat),(binOp .eql 41 (.slice a n c) (.slice none n' c')).run Tryz.prog w = .ok (.bool a.isNone) w:=λw a n c n' c'=>Lib.run_eql_slice_nil w _ _ a n c n' c' t41
 have A:Aside (∀j u,cells[j]? = some u->w.cell? (ad.add j)=some u):=hc
 have B:Aside (∀u∈cells,u.oneCell'=true):=h1
 clear hc h1
 go_enter Tryz.func87,Tryz.ntmps87
 go_wp2_with (at_builtin;refine wpList_append_own _ rfl _ _ 41 rfl w.heap.size 43 i0 z 9 120 t41 hi hz0 hz1 hz2 hz3 (by decide) _ _ _ rfl (World.ownsRow_made w #[] 0 (Nat.le_refl _) (Nat.zero_le _) rfl) ad n c cells rfl ?qc1 ?qc2 ?qc3 ?qc4 ?qc5 ?qc6 ?_)
 case qc1=>exact hl
 case qc2 =>
  intro j u hj
  exact Lib.cell?_alloc_some _ (A.out j u hj)
 case qc3=>exact B.out
 case qc4=>omega
 case qc5=>omega
 case qc6=>simp
 intro v' w1 hown hgrow hnil
 go_wp2
 go_ret
 refine ⟨v',rfl,by simpa using hown,?_⟩
 exact ((Below.refl _ w).alloc (Nat.le_refl _) _).grown hgrow (by simp) (by intro k hk;simp [Value.ownBlock] at hk;omega)
set_option maxHeartbeats 1000000 in
theorem Tryz.z02b (w:World):Calls Tryz.prog 87 #[.slice none 0 0] w λe w'=>e = .returned (.slice none 0 0)∧w'=w:=by
 have t41:Tryz.prog.underlying 41=some (.slice 43):=by kernel_rfl
 have q41:∀(w:World) (a:Option Addr) (n c n' c':Nat),(binOp .eql 41 (.slice a n c) (.slice none n' c')).run Tryz.prog w = .ok (.bool a.isNone) w:=λw a n c n' c'=>Lib.run_eql_slice_nil w _ _ a n c n' c' t41
 go_enter Tryz.func87,Tryz.ntmps87
 go_wp2
 go_ret
 exact ⟨rfl,rfl⟩
theorem ywc {P:Program} {ρ:Ren} (L:Lays8.n4 P ρ) {sz by':Nat} (hinf:(P.info? (ρ.t 25)).map (λi=>(i.zero.map (·.cells.size),i.size,i.bytes))=some (some sz,sz,by')) (hs0:0<sz) (hby:by'<=4096) (n:Nat) (w:World) (hn:n<=8388608) :
  Calls P (ρ.f 4) #[.slice none 0 0,.int .i64 n] w λe w'=>∃v',e = .returned v'∧w'.ownsRow w.heap.size (ρ.t 25) sz v' 0 []∧Below w.heap.size w w':=by
 obtain ⟨i0,z,hi,hz0,hz1,hz2,hz3⟩:=z00u hinf
 rcases Nat.eq_zero_or_pos n with h0|h0
 ·subst h0
  refine (Any8.slices_Grow_room L none 0 0 0 w (Nat.le_refl _) (by omega) (by omega) (by omega)).mono ?_
  rintro e w' ⟨rfl,rfl⟩
  exact ⟨_,rfl,⟨by simp,.inl ⟨rfl,rfl⟩⟩,.refl _ _⟩
 ·have hbig:(0+n) * i0.bytes<=140737488355328:=by
   rw [hz2]
   exact Nat.le_trans (Nat.mul_le_mul (show 0+n<=8388608 by omega) hby) (by decide)
  refine (Any8.slices_Grow_grow L i0 z hi hz0 (by omega) none 0 0 n [] w (Nat.le_refl _) (by omega) hbig (by omega) (by simp) (λ_=>rfl) (λa h=>by cases h)).mono ?_
  rintro e w' ⟨rfl,rfl⟩
  have h1:=grownCap_ge w (0+n) 0 (ρ.t 25)
  have h2:=grownCap_le_maxLen w (0+n) 0 (ρ.t 25) (by simp only [maxLen];omega)
  refine ⟨_,rfl,⟨by simp,.inr ⟨w.heap.size,_,_,rfl,Nat.le_refl _,heap_alloc_new w.drew _,Nat.zero_le _,h2,?_,by simp⟩⟩,((Below.refl _ w).drew).alloc (Nat.le_refl _) _⟩
  simp only [Array.size_append,List.size_toArray,List.length_nil,size_zeroCells,hz3,Nat.zero_add,Nat.sub_zero,<-Nat.add_mul]
  rw [Nat.zero_add] at h1
  congr 1
  omega
theorem Tryz.z05y (n:Nat) (w:World) (hn:n<=8388608):Calls Tryz.prog 65 #[.slice none 0 0,.int .i64 n] w λe w'=>∃v',e = .returned v'∧w'.ownsRow w.heap.size 45 10 v' 0 []∧Below w.heap.size w w' :=
 ywc Tryz.growA (sz:=10) (by':=136) (by kernel_rfl) (by decide) (by decide) n w hn
theorem Tryz.z03n (n:Nat) (w:World) (hn:n<=8388608):Calls Tryz.prog 77 #[.slice none 0 0,.int .i64 n] w λe w'=>∃v',e = .returned v'∧w'.ownsRow w.heap.size 48 3 v' 0 []∧Below w.heap.size w w' :=
 ywc Tryz.growR (sz:=3) (by':=64) (by kernel_rfl) (by decide) (by decide) n w hn
end Go.Proofs
namespace Go.Proofs.YtahcjggdcmgpkaaGreat
open Go Go.Ab
set_option linter.unusedVariables false
def z0k:Nat->List (List UInt8)->Option (List (List UInt8)):=λ_ xs=>if xs.length<4611686018427387904 then some (z01 xs) else none
noncomputable def z2d:FI dat:=yx8 dat 51 9 z0k
theorem zfs:FOk Tryz.prog z2d :=
 z06q (λ_ _=>Tryz.call51 _ _) (λblk cap ss w h1 h2 h3=>Any.slices_Sort_string Tryz.yb9 blk 0 cap ss w h1 h2 h3) (λp cap w=>Any.slices_Sort_string_none Tryz.yb9 p cap w)
def zbr:Nat->List (List UInt8)->List Bool->Option (List (List UInt8)×List (List UInt8)×List Bool):=λ_ ks vs=>if ks.Nodup∧ks.length=vs.length∧ks.length<=8388608∧(∀s∈ks,s.length<=8388608) then some (z01 ks,ks,vs) else none
noncomputable def zds:FI dat:=z00b dat 15 55 zbr
theorem zra:FOk Tryz.prog zds:=z06i (by kernel_rfl) (λ_ _=>Tryz.call15 _ _) Tryz.z06l
def z5k:Nat->List zz1->Option (List zz1):=λ_ xs=>if xs.length<=8388608 then some xs else none
noncomputable def z6x:FI dat:=yq8 dat 87 43 (.st 2) z5k
theorem zln:FOk Tryz.prog z6x :=
 z060 (zz2 _) (bytes:=120) (by decide) (by decide) (λ_ _=>Tryz.call87 _ _) (λa n c cells w h1 h2 h3 h4 h5=>Tryz.z055 a n c cells w h1 h2 h3 h4 h5) Tryz.z02b
def z6g:Nat->List zz7->Int->Option (List zz7):=λ_ _ n=>if 0<=n∧n<=8388608 then some [] else none
noncomputable def z7k:FI dat:=yo4 dat 65 45 (.st 3) (λn m=>z6g n [] m)
theorem zml:FOk Tryz.prog z7k:=z012 (by decide) (λ_ _=>Tryz.call65 _ _) (λn w h=>Tryz.z05y n w h)
def z6h:Nat->List kz4->Int->Option (List kz4):=λ_ _ n=>if 0<=n∧n<=8388608 then some [] else none
noncomputable def z7j:FI dat:=yo4 dat 77 48 (.st 7) (λn m=>z6h n [] m)
theorem zlz:FOk Tryz.prog z7j:=z012 (by decide) (λ_ _=>Tryz.call77 _ _) (λn w h=>Tryz.z03n n w h)
end Go.Proofs.YtahcjggdcmgpkaaGreat
namespace Go.Proofs.YtahcjggdcmgpkaaGreat
open Go Go.Ab
set_option linter.unusedVariables false
set_option maxRecDepth 100000
set_option maxHeartbeats 4000000
mutual
def zbz:Nat->yz2->Int->Option Bool
 |0,_,_=>none
 |n+1,a0,a1 =>
  pIf (a1==0)
   (z3t n a1 true a0.re)
   (pIf (decide ((a0.str.length:Int)>200))
     (z3t n a1 true a0.re)
     (z3t n a1 (decide ((a0.list.length:Int)>150)) a0.re))
def z3t:Nat->Int->Bool->yz2->Option Bool
 |0,_,_,_=>none
 |n+1,a0,a1,a2 =>
  pIf a1
   (some true)
   (z6v n 0 a0 a2.re)
def z6v:Nat->Int->Int->yz2->Option Bool
 |0,_,_,_=>none
 |n+1,a0,a1,a2 =>
  pIf (decide (a0<(a2.list.length:Int)))
   ((ix a2.list a0).bind λx0 =>
   (zbz n x0.re (IntKind.i64.wrap (a1-1))).bind λy1 =>
   pIf y1
    (some true)
    (z6v n (IntKind.i64.wrap (a0+1)) a1 a2.re))
   (some false)
end
def yl5:LSh:=⟨[(4,(.d .bool))],[],0,35⟩
noncomputable def zg6:FI dat:=FI.of dat 95 35 0 [(.d (.st 1)),(.d (.int .i64))] [] [(.d .bool)] [] true yl5 (R:=Bool) (λx=>x.1) (λr=>(r,())) (λn x=>zbz n x.1 x.2.1)
 (λn=>[(0,⟨⟨[(1,(.d (.int .i64))),(2,(.ptr 0 0)),(19,(.d .bool))],[(.st 1)],0,35⟩,λx=>z3t n x.1 x.2.1 x.2.2.1⟩),(1,⟨⟨[(5,(.d (.int .i64))),(1,(.d (.int .i64))),(2,(.ptr 0 0))],[(.st 1)],0,35⟩,λx=>z6v n x.1 x.2.1 x.2.2.1⟩)]) (ann [(5,0),(14,1)] (Tryz.f95.body.getD .skip) 0).1
noncomputable def yjf:List (FI dat):=[zg6]++[]
theorem yj8:(zg6).Good Tryz.prog dat (tb yjf):=FI.yz4 (hD:=zz2 _) Tryz.func95 Tryz.ntmps95 Tryz.call95 (by kernel_rfl) (of_decide_eq_true (by kernel_rfl)) (by kernel_rfl) (λn=>by kernel_rfl) (λx=>by kernel_rfl) (λ_=>rfl) ⟨λ_=>rfl,λ_=>rfl,trivial⟩
 (λn=>λx=>(zbz.eq_2 x.1 x.2.1 n).trans (by kernel_rfl))
 (λn=>⟨λx=>(z3t.eq_2 x.1 x.2.1 x.2.2.1 n).trans (by kernel_rfl),
  λx=>(z6v.eq_2 x.1 x.2.1 x.2.2.1 n).trans (by kernel_rfl),
  trivial⟩)
 (λx=>.inl rfl)
theorem yjd:OkL Tryz.prog [zg6]:=zc5 (zz2 _) (bs:=[]) trivial ⟨yj8,trivial⟩
theorem yfv:FOk Tryz.prog zg6:=yjd.1
mutual
def z9b:Nat->yz2->Option Int
 |0,_=>none
 |n+1,a0 =>
  z6d n 0 1 a0.re
def z6d:Nat->Int->Int->yz2->Option Int
 |0,_,_,_=>none
 |n+1,a0,a1,a2 =>
  pIf (decide (a0<(a2.list.length:Int)))
   (z5x n a0 a1 (a2.kind==4) a2.re)
   (z5x n a0 a1 false a2.re)
def z5x:Nat->Int->Int->Bool->yz2->Option Int
 |0,_,_,_,_=>none
 |n+1,a0,a1,a2,a3 =>
  pIf a2
   ((ix a3.list a0).bind λx0 =>
   (z9b n x0.re).bind λy1 =>
   z6d n (IntKind.i64.wrap (a0+1)) (IntKind.i64.wrap (a1+y1)) a3.re)
   (some a1)
end
def ym6:LSh:=⟨[(2,(.d (.int .i64)))],[],0,26⟩
noncomputable def zb8:FI dat:=FI.of dat 96 26 0 [(.d (.st 1))] [] [(.d (.int .i64))] [] true ym6 (R:=Int) (λx=>x.1) (λr=>(r,())) (λn x=>z9b n x.1)
 (λn=>[(0,⟨⟨[(4,(.d (.int .i64))),(1,(.ptr 0 0)),(3,(.d (.int .i64)))],[(.st 1)],0,26⟩,λx=>z6d n x.1 x.2.1 x.2.2.1⟩),(1,⟨⟨[(1,(.ptr 0 0)),(4,(.d (.int .i64))),(3,(.d (.int .i64))),(14,(.d .bool))],[(.st 1)],0,26⟩,λx=>z5x n x.1 x.2.1 x.2.2.1 x.2.2.2.1⟩)]) (ann [(8,0),(12,1)] (Tryz.f96.body.getD .skip) 0).1
noncomputable def yjp:List (FI dat):=[zb8]++[]
theorem yi9:(zb8).Good Tryz.prog dat (tb yjp):=FI.yz4 (hD:=zz2 _) Tryz.func96 Tryz.ntmps96 Tryz.call96 (by kernel_rfl) (of_decide_eq_true (by kernel_rfl)) (by kernel_rfl) (λn=>by kernel_rfl) (λx=>by kernel_rfl) (λ_=>rfl) ⟨λ_=>rfl,λ_=>rfl,trivial⟩
 (λn=>λx=>(z9b.eq_2 x.1 n).trans (by kernel_rfl))
 (λn=>⟨λx=>(z6d.eq_2 x.1 x.2.1 x.2.2.1 n).trans (by kernel_rfl),
  λx=>(z5x.eq_2 x.1 x.2.1 x.2.2.1 x.2.2.2.1 n).trans (by kernel_rfl),
  trivial⟩)
 (λx=>.inl rfl)
theorem ym0:OkL Tryz.prog [zb8]:=zc5 (zz2 _) (bs:=[]) trivial ⟨yi9,trivial⟩
theorem zxn:FOk Tryz.prog zb8:=ym0.1
def zej:Nat->yz2->Option Bool
 |0,_=>none
 |n+1,a0 =>
  (zbz n a0.re 10).bind λy0 =>
  pIf y0
   (some true)
   ((z9b n a0.re).bind λy1 =>
   some (decide (y1>150)))
def yl3:LSh:=⟨[(2,(.d .bool))],[],0,10⟩
noncomputable def zki:FI dat:=FI.of dat 55 10 0 [(.d (.st 1))] [] [(.d .bool)] [] true yl3 (R:=Bool) (λx=>x.1) (λr=>(r,())) (λn x=>zej n x.1)
 (λn=>[]) (ann [] (Tryz.f55.body.getD .skip) 0).1
noncomputable def yls:List (FI dat):=[zg6,zb8]
theorem yka:(zki).Good Tryz.prog dat (tb yls):=FI.yz4 (hD:=zz2 _) Tryz.func55 Tryz.ntmps55 Tryz.call55 (by kernel_rfl) (of_decide_eq_true (by kernel_rfl)) (by kernel_rfl) (λn=>by kernel_rfl) (λx=>by kernel_rfl) (λ_=>rfl) trivial
 (λn=>λx=>(zej.eq_2 x.1 n).trans (by kernel_rfl))
 (λn=>trivial)
 (λx=>.inl rfl)
theorem yk6:OkL Tryz.prog [zki]:=zz6 (zz2 _) (bs:=[zg6,zb8]) ⟨yfv,zxn,trivial⟩ yka
theorem ygp:FOk Tryz.prog zki:=yk6.1
mutual
def zbt:Nat->zz1->Int->Option Bool
 |0,_,_=>none
 |n+1,a0,a1 =>
  pIf (a1==0)
   (z2f n a1 true a0.re)
   (pIf (decide ((a0.args.length:Int)>150))
     (z2f n a1 true a0.re)
     (pIf (decide ((a0.name.length:Int)>200))
       (z2f n a1 true a0.re)
       ((zej n a0.value.re).bind λy0 =>
       z2f n a1 y0 a0.re)))
def z2f:Nat->Int->Bool->zz1->Option Bool
 |0,_,_,_=>none
 |n+1,a0,a1,a2 =>
  pIf a1
   (some true)
   (z63 n 0 a0 a2.re)
def z63:Nat->Int->Int->zz1->Option Bool
 |0,_,_,_=>none
 |n+1,a0,a1,a2 =>
  pIf (decide (a0<(a2.args.length:Int)))
   ((ix a2.args a0).bind λx1 =>
   (zbt n x1.re (IntKind.i64.wrap (a1-1))).bind λy2 =>
   pIf y2
    (some true)
    (z63 n (IntKind.i64.wrap (a0+1)) a1 a2.re))
   (some false)
end
def ym7:LSh:=⟨[(4,(.d .bool))],[],0,40⟩
noncomputable def zg4:FI dat:=FI.of dat 28 40 0 [(.d (.st 2)),(.d (.int .i64))] [] [(.d .bool)] [] true ym7 (R:=Bool) (λx=>x.1) (λr=>(r,())) (λn x=>zbt n x.1 x.2.1)
 (λn=>[(0,⟨⟨[(1,(.d (.int .i64))),(2,(.ptr 0 0)),(24,(.d .bool))],[(.st 2)],0,40⟩,λx=>z2f n x.1 x.2.1 x.2.2.1⟩),(1,⟨⟨[(5,(.d (.int .i64))),(1,(.d (.int .i64))),(2,(.ptr 0 0))],[(.st 2)],0,40⟩,λx=>z63 n x.1 x.2.1 x.2.2.1⟩)]) (ann [(5,0),(14,1)] (Tryz.f28.body.getD .skip) 0).1
noncomputable def yk1:List (FI dat):=[zg4]++[zki]
theorem yjw:(zg4).Good Tryz.prog dat (tb yk1):=FI.yz4 (hD:=zz2 _) Tryz.func28 Tryz.ntmps28 Tryz.call28 (by kernel_rfl) (of_decide_eq_true (by kernel_rfl)) (by kernel_rfl) (λn=>by kernel_rfl) (λx=>by kernel_rfl) (λ_=>rfl) ⟨λ_=>rfl,λ_=>rfl,trivial⟩
 (λn=>λx=>(zbt.eq_2 x.1 x.2.1 n).trans (by kernel_rfl))
 (λn=>⟨λx=>(z2f.eq_2 x.1 x.2.1 x.2.2.1 n).trans (by kernel_rfl),
  λx=>(z63.eq_2 x.1 x.2.1 x.2.2.1 n).trans (by kernel_rfl),
  trivial⟩)
 (λx=>.inl rfl)
theorem ylx:OkL Tryz.prog [zg4]:=zc5 (zz2 _) (bs:=[zki]) ⟨ygp,trivial⟩ ⟨yjw,trivial⟩
theorem ygq:FOk Tryz.prog zg4:=ylx.1
mutual
def z9f:Nat->zz1->Option Int
 |0,_=>none
 |n+1,a0 =>
  z6w n 0 1 a0.re
def z6w:Nat->Int->Int->zz1->Option Int
 |0,_,_,_=>none
 |n+1,a0,a1,a2 =>
  pIf (decide (a0<(a2.args.length:Int)))
   ((ix a2.args a0).bind λx0 =>
   (z9f n x0.re).bind λy1 =>
   z6w n (IntKind.i64.wrap (a0+1)) (IntKind.i64.wrap (a1+y1)) a2.re)
   (some a1)
end
def yjc:LSh:=⟨[(2,(.d (.int .i64)))],[],0,21⟩
noncomputable def zba:FI dat:=FI.of dat 29 21 0 [(.d (.st 2))] [] [(.d (.int .i64))] [] true yjc (R:=Int) (λx=>x.1) (λr=>(r,())) (λn x=>z9f n x.1)
 (λn=>[(0,⟨⟨[(4,(.d (.int .i64))),(1,(.ptr 0 0)),(3,(.d (.int .i64)))],[(.st 2)],0,21⟩,λx=>z6w n x.1 x.2.1 x.2.2.1⟩)]) (ann [(8,0)] (Tryz.f29.body.getD .skip) 0).1
noncomputable def yl1:List (FI dat):=[zba]++[]
theorem yie:(zba).Good Tryz.prog dat (tb yl1):=FI.yz4 (hD:=zz2 _) Tryz.func29 Tryz.ntmps29 Tryz.call29 (by kernel_rfl) (of_decide_eq_true (by kernel_rfl)) (by kernel_rfl) (λn=>by kernel_rfl) (λx=>by kernel_rfl) (λ_=>rfl) ⟨λ_=>rfl,trivial⟩
 (λn=>λx=>(z9f.eq_2 x.1 n).trans (by kernel_rfl))
 (λn=>⟨λx=>(z6w.eq_2 x.1 x.2.1 x.2.2.1 n).trans (by kernel_rfl),
  trivial⟩)
 (λx=>.inl rfl)
theorem ym8:OkL Tryz.prog [zba]:=zc5 (zz2 _) (bs:=[]) trivial ⟨yie,trivial⟩
theorem zxx:FOk Tryz.prog zba:=ym8.1
def z69:Nat->zz1->Option Bool
 |0,_=>none
 |n+1,a0 =>
  (zbt n a0.re 16).bind λy0 =>
  pIf y0
   (some true)
   ((z9f n a0.re).bind λy1 =>
   some (decide (y1>150)))
def ylb:LSh:=⟨[(2,(.d .bool))],[],0,10⟩
noncomputable def zdd:FI dat:=FI.of dat 12 10 0 [(.d (.st 2))] [] [(.d .bool)] [] true ylb (R:=Bool) (λx=>x.1) (λr=>(r,())) (λn x=>z69 n x.1)
 (λn=>[]) (ann [] (Tryz.f12.body.getD .skip) 0).1
noncomputable def yif:List (FI dat):=[zg4,zba]
theorem yk9:(zdd).Good Tryz.prog dat (tb yif):=FI.yz4 (hD:=zz2 _) Tryz.func12 Tryz.ntmps12 Tryz.call12 (by kernel_rfl) (of_decide_eq_true (by kernel_rfl)) (by kernel_rfl) (λn=>by kernel_rfl) (λx=>by kernel_rfl) (λ_=>rfl) trivial
 (λn=>λx=>(z69.eq_2 x.1 n).trans (by kernel_rfl))
 (λn=>trivial)
 (λx=>.inl rfl)
theorem yj7:OkL Tryz.prog [zdd]:=zz6 (zz2 _) (bs:=[zg4,zba]) ⟨ygq,zxx,trivial⟩ yk9
theorem zxr:FOk Tryz.prog zdd:=yj7.1
def z05:Nat->(List zz1)->Option zz1
 |0,_=>none
 |n+1,a0 =>
  some (zz1.mk 18 (yz2.mk 0 (kz6.mk 0 0) false [] []) [] a0)
def yr7:LSh:=⟨[(2,(.ptr 0 0))],[(.st 2)],0,5⟩
noncomputable def z6n:FI dat:=FI.of dat 30 5 0 [(.d (.sl (.st 2)))] [] [(.d (.st 2))] [] true yr7 (R:=zz1) (λx=>x.1) (λr=>(r,())) (λn x=>z05 n x.1)
 (λn=>[]) (ann [] (Tryz.f30.body.getD .skip) 0).1
noncomputable def ynx:List (FI dat):=[]
theorem yqa:(z6n).Good Tryz.prog dat (tb ynx):=FI.yz4 (hD:=zz2 _) Tryz.func30 Tryz.ntmps30 Tryz.call30 (by kernel_rfl) (of_decide_eq_true (by kernel_rfl)) (by kernel_rfl) (λn=>by kernel_rfl) (λx=>by kernel_rfl) (λ_=>rfl) trivial
 (λn=>λx=>(z05.eq_2 x.1 n).trans (by kernel_rfl))
 (λn=>trivial)
 (λx=>.inl rfl)
theorem yqb:OkL Tryz.prog [z6n]:=zz6 (zz2 _) (bs:=[]) trivial yqa
theorem zo0:FOk Tryz.prog z6n:=yqb.1
mutual
def z7q:Nat->kz5->Option Bool
 |0,_=>none
 |n+1,a0 =>
  pIf (decide ((a0.do_.length:Int)>15))
   (z1z n true a0.re)
   ((z69 n a0.when_.re).bind λy0 =>
   z1z n y0 a0.re)
def z1z:Nat->Bool->kz5->Option Bool
 |0,_,_=>none
 |n+1,a0,a1 =>
  pIf a0
   (some true)
   (z0x n 0 a1.re)
def z0x:Nat->Int->kz5->Option Bool
 |0,_,_=>none
 |n+1,a0,a1 =>
  pIf (decide (a0<(a1.do_.length:Int)))
   ((ix a1.do_ a0).bind λx1 =>
   (z05 n x1.args).bind λy2 =>
   (z69 n y2.re).bind λy3 =>
   pIf y3
    (z0v n a0 true a1.re)
    ((ix a1.do_ a0).bind λx4 =>
    pIf (decide ((x4.items.length:Int)>15))
     (z0v n a0 true a1.re)
     ((ix a1.do_ a0).bind λx5 =>
     z0v n a0 (decide ((x5.name.length:Int)>100)) a1.re)))
   (some false)
def z0v:Nat->Int->Bool->kz5->Option Bool
 |0,_,_,_=>none
 |n+1,a0,a1,a2 =>
  pIf a1
   (some true)
   (z0y n 0 a0 a2.re)
def z0y:Nat->Int->Int->kz5->Option Bool
 |0,_,_,_=>none
 |n+1,a0,a1,a2 =>
  (ix a2.do_ a1).bind λx6 =>
  pIf (decide (a0<(x6.items.length:Int)))
   ((ix a2.do_ a1).bind λx7 =>
   (ix x7.items a0).bind λx8 =>
   (z05 n x8.args).bind λy9 =>
   (z69 n y9.re).bind λy10 =>
   pIf y10
    (z1y n a1 a0 true a2.re)
    ((ix a2.do_ a1).bind λx11 =>
    (ix x11.items a0).bind λx12 =>
    z1y n a1 a0 (decide ((x12.name.length:Int)>100)) a2.re))
   (z0x n (IntKind.i64.wrap (a1+1)) a2.re)
def z1y:Nat->Int->Int->Bool->kz5->Option Bool
 |0,_,_,_,_=>none
 |n+1,a0,a1,a2,a3 =>
  pIf a2
   (some true)
   (z0y n (IntKind.i64.wrap (a1+1)) a0 a3.re)
end
def y50:LSh:=⟨[(2,(.d .bool))],[],0,86⟩
noncomputable def zcz:FI dat:=FI.of dat 13 86 0 [(.d (.st 6))] [] [(.d .bool)] [] true y50 (R:=Bool) (λx=>x.1) (λr=>(r,())) (λn x=>z7q n x.1)
 (λn=>[(0,⟨⟨[(1,(.ptr 0 0)),(13,(.d .bool))],[(.st 6)],0,86⟩,λx=>z1z n x.1 x.2.1⟩),(1,⟨⟨[(3,(.d (.int .i64))),(1,(.ptr 0 0))],[(.st 6)],0,86⟩,λx=>z0x n x.1 x.2.1⟩),(2,⟨⟨[(3,(.d (.int .i64))),(1,(.ptr 0 0)),(48,(.d .bool))],[(.st 6)],0,86⟩,λx=>z0v n x.1 x.2.1 x.2.2.1⟩),(3,⟨⟨[(4,(.d (.int .i64))),(3,(.d (.int .i64))),(1,(.ptr 0 0))],[(.st 6)],0,86⟩,λx=>z0y n x.1 x.2.1 x.2.2.1⟩),(4,⟨⟨[(3,(.d (.int .i64))),(1,(.ptr 0 0)),(4,(.d (.int .i64))),(85,(.d .bool))],[(.st 6)],0,86⟩,λx=>z1y n x.1 x.2.1 x.2.2.1 x.2.2.2.1⟩)]) (ann [(5,0),(14,1),(26,2),(34,3),(45,4)] (Tryz.f13.body.getD .skip) 0).1
noncomputable def y40:List (FI dat):=[zdd,z6n]
theorem y3d:(zcz).Good Tryz.prog dat (tb y40):=FI.yz4 (hD:=zz2 _) Tryz.func13 Tryz.ntmps13 Tryz.call13 (by kernel_rfl) (of_decide_eq_true (by kernel_rfl)) (by kernel_rfl) (λn=>by kernel_rfl) (λx=>by kernel_rfl) (λ_=>rfl) ⟨λ_=>rfl,λ_=>rfl,λ_=>rfl,λ_=>rfl,λ_=>rfl,trivial⟩
 (λn=>λx=>(z7q.eq_2 x.1 n).trans (by kernel_rfl))
 (λn=>⟨λx=>(z1z.eq_2 x.1 x.2.1 n).trans (by kernel_rfl),
  λx=>(z0x.eq_2 x.1 x.2.1 n).trans (by kernel_rfl),
  λx=>(z0v.eq_2 x.1 x.2.1 x.2.2.1 n).trans (by kernel_rfl),
  λx=>(z0y.eq_2 x.1 x.2.1 x.2.2.1 n).trans (by kernel_rfl),
  λx=>(z1y.eq_2 x.1 x.2.1 x.2.2.1 x.2.2.2.1 n).trans (by kernel_rfl),
  trivial⟩)
 (λx=>.inl rfl)
theorem y3i:OkL Tryz.prog [zcz]:=zz6 (zz2 _) (bs:=[zdd,z6n]) ⟨zxr,zo0,trivial⟩ y3d
theorem y2b:FOk Tryz.prog zcz:=y3i.1
mutual
def zc1:Nat->zz0->Option Bool
 |0,_=>none
 |n+1,a0 =>
  pIf (decide ((a0.attrs.length:Int)>25))
   (z6l n true a0)
   (z6l n (decide ((a0.rules.length:Int)>45)) a0)
def z6l:Nat->Bool->zz0->Option Bool
 |0,_,_=>none
 |n+1,a0,a1 =>
  pIf a0
   (some true)
   (z3y n 0 a1)
def z3y:Nat->Int->zz0->Option Bool
 |0,_,_=>none
 |n+1,a0,a1 =>
  pIf (decide (a0<(a1.attrs.length:Int)))
   ((ix a1.attrs a0).bind λx0 =>
   (z69 n x0.value.re).bind λy1 =>
   pIf y1
    (z6y n a0 true a1)
    ((ix a1.attrs a0).bind λx2 =>
    z6y n a0 (decide ((x2.name.length:Int)>100)) a1))
   (z3u n 0 a1)
def z6y:Nat->Int->Bool->zz0->Option Bool
 |0,_,_,_=>none
 |n+1,a0,a1,a2 =>
  pIf a1
   (some true)
   (z3y n (IntKind.i64.wrap (a0+1)) a2)
def z3u:Nat->Int->zz0->Option Bool
 |0,_,_=>none
 |n+1,a0,a1 =>
  pIf (decide (a0<(a1.rules.length:Int)))
   ((ix a1.rules a0).bind λx3 =>
   pIf (decide ((x3.params.length:Int)>10))
    (z3r n a0 true x3 a1)
    (pIf (decide ((x3.cases.length:Int)>10))
      (z3r n a0 true x3 a1)
      (z3r n a0 (decide ((x3.name.length:Int)>100)) x3 a1)))
   (some false)
def z3r:Nat->Int->Bool->kz4->zz0->Option Bool
 |0,_,_,_,_=>none
 |n+1,a0,a1,a2,a3 =>
  pIf a1
   (some true)
   (z3z n 0 a0 a2 a3)
def z3z:Nat->Int->Int->kz4->zz0->Option Bool
 |0,_,_,_,_=>none
 |n+1,a0,a1,a2,a3 =>
  pIf (decide (a0<(a2.params.length:Int)))
   ((ix a2.params a0).bind λx4 =>
   pIf (decide ((x4.length:Int)>100))
    (some true)
    (z3z n (IntKind.i64.wrap (a0+1)) a1 a2 a3))
   (z41 n 0 a1 a2 a3)
def z41:Nat->Int->Int->kz4->zz0->Option Bool
 |0,_,_,_,_=>none
 |n+1,a0,a1,a2,a3 =>
  pIf (decide (a0<(a2.cases.length:Int)))
   ((ix a2.cases a0).bind λx5 =>
   (z7q n x5.re).bind λy6 =>
   pIf y6
    (some true)
    (z41 n (IntKind.i64.wrap (a0+1)) a1 a2 a3))
   (z3u n (IntKind.i64.wrap (a1+1)) a3)
end
def yi4:LSh:=⟨[(2,(.d .bool))],[],0,97⟩
noncomputable def zjj:FI dat:=FI.of dat 4 97 0 [(.d (.st 8))] [] [(.d .bool)] [] true yi4 (R:=Bool) (λx=>x.1) (λr=>(r,())) (λn x=>zc1 n x.1)
 (λn=>[(0,⟨⟨[(1,(.ptr 0 0)),(17,(.d .bool))],[(.st 8)],0,97⟩,λx=>z6l n x.1 x.2.1⟩),(1,⟨⟨[(3,(.d (.int .i64))),(1,(.ptr 0 0))],[(.st 8)],0,97⟩,λx=>z3y n x.1 x.2.1⟩),(2,⟨⟨[(1,(.ptr 0 0)),(3,(.d (.int .i64))),(41,(.d .bool))],[(.st 8)],0,97⟩,λx=>z6y n x.1 x.2.1 x.2.2.1⟩),(3,⟨⟨[(4,(.d (.int .i64))),(1,(.ptr 0 0))],[(.st 8)],0,97⟩,λx=>z3u n x.1 x.2.1⟩),(4,⟨⟨[(5,(.ptr 0 0)),(1,(.ptr 1 0)),(4,(.d (.int .i64))),(69,(.d .bool))],[(.st 7),(.st 8)],0,97⟩,λx=>z3r n x.1 x.2.1 x.2.2.1 x.2.2.2.1⟩),(5,⟨⟨[(6,(.d (.int .i64))),(5,(.ptr 0 0)),(1,(.ptr 1 0)),(4,(.d (.int .i64)))],[(.st 7),(.st 8)],0,97⟩,λx=>z3z n x.1 x.2.1 x.2.2.1 x.2.2.2.1⟩),(6,⟨⟨[(7,(.d (.int .i64))),(5,(.ptr 0 0)),(1,(.ptr 1 0)),(4,(.d (.int .i64)))],[(.st 7),(.st 8)],0,97⟩,λx=>z41 n x.1 x.2.1 x.2.2.1 x.2.2.2.1⟩)]) (ann [(5,0),(14,1),(25,2),(35,3),(49,4),(58,5),(78,6)] (Tryz.f4.body.getD .skip) 0).1
noncomputable def yma:List (FI dat):=[zdd,zcz]
theorem yke:(zjj).Good Tryz.prog dat (tb yma):=FI.yz4 (hD:=zz2 _) Tryz.func4 Tryz.ntmps4 Tryz.call4 (by kernel_rfl) (of_decide_eq_true (by kernel_rfl)) (by kernel_rfl) (λn=>by kernel_rfl) (λx=>by kernel_rfl) (λ_=>rfl) ⟨λ_=>rfl,λ_=>rfl,λ_=>rfl,λ_=>rfl,λ_=>rfl,λ_=>rfl,λ_=>rfl,trivial⟩
 (λn=>λx=>(zc1.eq_2 x.1 n).trans (by kernel_rfl))
 (λn=>⟨λx=>(z6l.eq_2 x.1 x.2.1 n).trans (by kernel_rfl),
  λx=>(z3y.eq_2 x.1 x.2.1 n).trans (by kernel_rfl),
  λx=>(z6y.eq_2 x.1 x.2.1 x.2.2.1 n).trans (by kernel_rfl),
  λx=>(z3u.eq_2 x.1 x.2.1 n).trans (by kernel_rfl),
  λx=>(z3r.eq_2 x.1 x.2.1 x.2.2.1 x.2.2.2.1 n).trans (by kernel_rfl),
  λx=>(z3z.eq_2 x.1 x.2.1 x.2.2.1 x.2.2.2.1 n).trans (by kernel_rfl),
  λx=>(z41.eq_2 x.1 x.2.1 x.2.2.1 x.2.2.2.1 n).trans (by kernel_rfl),
  trivial⟩)
 (λx=>.inl rfl)
theorem ylg:OkL Tryz.prog [zjj]:=zz6 (zz2 _) (bs:=[zdd,zcz]) ⟨zxr,y2b,trivial⟩ yke
theorem yfr:FOk Tryz.prog zjj:=ylg.1
end Go.Proofs.YtahcjggdcmgpkaaGreat
namespace Go.Proofs.YtahcjggdcmgpkaaGreat
open Go Go.Ab
set_option linter.unusedVariables false
set_option maxRecDepth 100000
set_option maxHeartbeats 4000000
def zc8:Nat->zz3->Option Bool
 |0,_=>none
 |n+1,a0 =>
  some (decide ((a0.items.length:Int)>10))
def yeu:LSh:=⟨[(2,(.d .bool))],[],0,7⟩
noncomputable def zhh:FI dat:=FI.of dat 98 7 0 [(.d (.st 5))] [] [(.d .bool)] [] true yeu (R:=Bool) (λx=>x.1) (λr=>(r,())) (λn x=>zc8 n x.1)
 (λn=>[]) (ann [] (Tryz.f98.body.getD .skip) 0).1
noncomputable def yd2:List (FI dat):=[]
theorem yex:(zhh).Good Tryz.prog dat (tb yd2):=FI.yz4 (hD:=zz2 _) Tryz.func98 Tryz.ntmps98 Tryz.call98 (by kernel_rfl) (of_decide_eq_true (by kernel_rfl)) (by kernel_rfl) (λn=>by kernel_rfl) (λx=>by kernel_rfl) (λ_=>rfl) trivial
 (λn=>λx=>(zc8.eq_2 x.1 n).trans (by kernel_rfl))
 (λn=>trivial)
 (λx=>.inl rfl)
theorem yci:OkL Tryz.prog [zhh]:=zz6 (zz2 _) (bs:=[]) trivial yex
theorem ya3:FOk Tryz.prog zhh:=yci.1
mutual
def yzq:Nat->(List zz3)->Option Int
 |0,_=>none
 |n+1,a0 =>
  yzg n 0 a0 (a0.length:Int)
def yzg:Nat->Int->(List zz3)->Int->Option Int
 |0,_,_,_=>none
 |n+1,a0,a1,a2 =>
  pIf (decide (a0<a2))
   ((ix a1 a0).bind λx0 =>
   (zc8 n x0).bind λy1 =>
   pIf y1
    (some a0)
    (yzg n (IntKind.i64.wrap (a0+1)) a1 a2))
   (some (-1))
end
def zgi:LSh:=⟨[(4,(.d (.int .i64)))],[],0,19⟩
noncomputable def yzr:FI dat:=FI.of dat 128 19 0 [(.d (.sl (.st 5))),(.fn 98 [] [])] [] [(.d (.int .i64))] [] true zgi (R:=Int) (λx=>x.1) (λr=>(r,())) (λn x=>yzq n x.1)
 (λn=>[(0,⟨⟨[(8,(.d (.int .i64))),(0,(.d (.sl (.st 5)))),(1,(.fn 98 [] [])),(7,(.d (.int .i64)))],[],0,19⟩,λx=>yzg n x.1 x.2.1 x.2.2.1⟩)]) (ann [(6,0)] (Tryz.f128.body.getD .skip) 0).1
noncomputable def zg9:List (FI dat):=[zhh]
theorem zgk:(yzr).Good Tryz.prog dat (tb zg9):=FI.yz4 (hD:=zz2 _) Tryz.func128 Tryz.ntmps128 Tryz.call128 (by kernel_rfl) (of_decide_eq_true (by kernel_rfl)) (by kernel_rfl) (λn=>by kernel_rfl) (λx=>by kernel_rfl) (λ_=>rfl) ⟨λ_=>rfl,trivial⟩
 (λn=>λx=>(yzq.eq_2 x.1 n).trans (by kernel_rfl))
 (λn=>⟨λx=>(yzg.eq_2 x.1 x.2.1 x.2.2.1 n).trans (by kernel_rfl),
  trivial⟩)
 (λx=>.inl rfl)
theorem zgg:OkL Tryz.prog [yzr]:=zz6 (zz2 _) (bs:=[zhh]) ⟨ya3,trivial⟩ zgk
theorem zfy:FOk Tryz.prog yzr:=zgg.1
def zzg:Nat->(List zz3)->Option Bool
 |0,_=>none
 |n+1,a0 =>
  (yzq n a0).bind λy0 =>
  some (decide (y0>=0))
def zet:LSh:=⟨[(4,(.d .bool))],[],0,9⟩
noncomputable def kzn:FI dat:=FI.of dat 97 9 0 [(.d (.sl (.st 5))),(.fn 98 [] [])] [] [(.d .bool)] [] true zet (R:=Bool) (λx=>x.1) (λr=>(r,())) (λn x=>zzg n x.1)
 (λn=>[]) (ann [] (Tryz.f97.body.getD .skip) 0).1
noncomputable def zex:List (FI dat):=[yzr]
theorem zev:(kzn).Good Tryz.prog dat (tb zex):=FI.yz4 (hD:=zz2 _) Tryz.func97 Tryz.ntmps97 Tryz.call97 (by kernel_rfl) (of_decide_eq_true (by kernel_rfl)) (by kernel_rfl) (λn=>by kernel_rfl) (λx=>by kernel_rfl) (λ_=>rfl) trivial
 (λn=>λx=>(zzg.eq_2 x.1 n).trans (by kernel_rfl))
 (λn=>trivial)
 (λx=>.inl rfl)
theorem zeu:OkL Tryz.prog [kzn]:=zz6 (zz2 _) (bs:=[yzr]) ⟨zfy,trivial⟩ zev
theorem ze8:FOk Tryz.prog kzn:=zeu.1
mutual
def zg1:Nat->zz0->Option Bool
 |0,_=>none
 |n+1,a0 =>
  pIf (decide ((a0.attrs.length:Int)>20))
   (z7x n true a0)
   (z7x n (decide ((a0.rules.length:Int)>40)) a0)
def z7x:Nat->Bool->zz0->Option Bool
 |0,_,_=>none
 |n+1,a0,a1 =>
  pIf a0
   (some true)
   (z5f n 0 a1.rules (a1.rules.length:Int))
def z5f:Nat->Int->(List kz4)->Int->Option Bool
 |0,_,_,_=>none
 |n+1,a0,a1,a2 =>
  pIf (decide (a0<a2))
   ((ix a1 a0).bind λx0 =>
   pIf (decide ((x0.params.length:Int)>4))
    (z86 n a1 a2 a0 true x0)
    (z86 n a1 a2 a0 (decide ((x0.cases.length:Int)>6)) x0))
   (some false)
def z86:Nat->(List kz4)->Int->Int->Bool->kz4->Option Bool
 |0,_,_,_,_,_=>none
 |n+1,a0,a1,a2,a3,a4 =>
  pIf a3
   (some true)
   (z5e n 0 a4.cases a0 a1 a2 (a4.cases.length:Int))
def z5e:Nat->Int->(List kz5)->(List kz4)->Int->Int->Int->Option Bool
 |0,_,_,_,_,_,_=>none
 |n+1,a0,a1,a2,a3,a4,a5 =>
  pIf (decide (a0<a5))
   ((ix a1 a0).bind λx1 =>
   pIf (decide ((x1.do_.length:Int)>10))
    (z7m n a1 a2 a3 a4 a5 a0 true)
    ((zzg n x1.do_).bind λy2 =>
    z7m n a1 a2 a3 a4 a5 a0 y2))
   (z5f n (IntKind.i64.wrap (a4+1)) a2 a3)
def z7m:Nat->(List kz5)->(List kz4)->Int->Int->Int->Int->Bool->Option Bool
 |0,_,_,_,_,_,_,_=>none
 |n+1,a0,a1,a2,a3,a4,a5,a6 =>
  pIf a6
   (some true)
   (z5e n (IntKind.i64.wrap (a5+1)) a0 a1 a2 a3 a4)
end
def yoz:LSh:=⟨[(2,(.d .bool))],[],0,52⟩
noncomputable def zlu:FI dat:=FI.of dat 56 52 0 [(.d (.st 8))] [] [(.d .bool)] [] true yoz (R:=Bool) (λx=>x.1) (λr=>(r,())) (λn x=>zg1 n x.1)
 (λn=>[(0,⟨⟨[(1,(.ptr 0 0)),(16,(.d .bool))],[(.st 8)],0,52⟩,λx=>z7x n x.1 x.2.1⟩),(1,⟨⟨[(20,(.d (.int .i64))),(18,(.d (.sl (.st 7)))),(19,(.d (.int .i64)))],[],0,52⟩,λx=>z5f n x.1 x.2.1 x.2.2.1⟩),(2,⟨⟨[(18,(.d (.sl (.st 7)))),(19,(.d (.int .i64))),(20,(.d (.int .i64))),(4,(.ptr 0 0)),(33,(.d .bool))],[(.st 7)],0,52⟩,λx=>z86 n x.1 x.2.1 x.2.2.1 x.2.2.2.1 x.2.2.2.2.1⟩),(3,⟨⟨[(37,(.d (.int .i64))),(35,(.d (.sl (.st 6)))),(18,(.d (.sl (.st 7)))),(19,(.d (.int .i64))),(20,(.d (.int .i64))),(36,(.d (.int .i64)))],[],0,52⟩,λx=>z5e n x.1 x.2.1 x.2.2.1 x.2.2.2.1 x.2.2.2.2.1 x.2.2.2.2.2.1⟩),(4,⟨⟨[(35,(.d (.sl (.st 6)))),(18,(.d (.sl (.st 7)))),(19,(.d (.int .i64))),(20,(.d (.int .i64))),(36,(.d (.int .i64))),(37,(.d (.int .i64))),(49,(.d .bool))],[],0,52⟩,λx=>z7m n x.1 x.2.1 x.2.2.1 x.2.2.2.1 x.2.2.2.2.1 x.2.2.2.2.2.1 x.2.2.2.2.2.2.1⟩)]) (ann [(5,0),(14,1),(28,2),(36,3),(49,4)] (Tryz.f56.body.getD .skip) 0).1
noncomputable def yo8:List (FI dat):=[kzn]
theorem yo0:(zlu).Good Tryz.prog dat (tb yo8):=FI.yz4 (hD:=zz2 _) Tryz.func56 Tryz.ntmps56 Tryz.call56 (by kernel_rfl) (of_decide_eq_true (by kernel_rfl)) (by kernel_rfl) (λn=>by kernel_rfl) (λx=>by kernel_rfl) (λ_=>rfl) ⟨λ_=>rfl,λ_=>rfl,λ_=>rfl,λ_=>rfl,λ_=>rfl,trivial⟩
 (λn=>λx=>(zg1.eq_2 x.1 n).trans (by kernel_rfl))
 (λn=>⟨λx=>(z7x.eq_2 x.1 x.2.1 n).trans (by kernel_rfl),
  λx=>(z5f.eq_2 x.1 x.2.1 x.2.2.1 n).trans (by kernel_rfl),
  λx=>(z86.eq_2 x.1 x.2.1 x.2.2.1 x.2.2.2.1 x.2.2.2.2.1 n).trans (by kernel_rfl),
  λx=>(z5e.eq_2 x.1 x.2.1 x.2.2.1 x.2.2.2.1 x.2.2.2.2.1 x.2.2.2.2.2.1 n).trans (by kernel_rfl),
  λx=>(z7m.eq_2 x.1 x.2.1 x.2.2.1 x.2.2.2.1 x.2.2.2.2.1 x.2.2.2.2.2.1 x.2.2.2.2.2.2.1 n).trans (by kernel_rfl),
  trivial⟩)
 (λx=>.inl rfl)
theorem yrl:OkL Tryz.prog [zlu]:=zz6 (zz2 _) (bs:=[kzn]) ⟨ze8,trivial⟩ yo0
theorem yhc:FOk Tryz.prog zlu:=yrl.1
mutual
def zde:Nat->(List UInt8)->Option Bool
 |0,_=>none
 |n+1,a0 =>
  pIf ((a0.length:Int)==0)
   (zbl n a0 true)
   (zbl n a0 (decide ((a0.length:Int)>40)))
def zbl:Nat->(List UInt8)->Bool->Option Bool
 |0,_,_=>none
 |n+1,a0,a1 =>
  pIf a1
   (some false)
   (z1u n a0 0)
def z1u:Nat->(List UInt8)->Nat->Option Bool
 |0,_,_=>none
 |n+1,a0,a1 =>
  pIf (decide (a1<a0.length))
   (pIf (decide (((zpn a0 a1).1:Int)>=97))
     (z8v n ((zpn a0 a1).1:Int) (a1:Int) (decide (((zpn a0 a1).1:Int)<=122)) a0 (a1+(zpn a0 a1).2))
     (z8v n ((zpn a0 a1).1:Int) (a1:Int) false a0 (a1+(zpn a0 a1).2)))
   (some true)
def z8v:Nat->Int->Int->Bool->(List UInt8)->Nat->Option Bool
 |0,_,_,_,_,_=>none
 |n+1,a0,a1,a2,a3,a4 =>
  pIf (!a2)
   (pIf (a1==0)
     (z13 n true a3 a4)
     (pIf (a0 != 45)
       (pIf (decide (a0<48))
         (z13 n true a3 a4)
         (z13 n (decide (a0>57)) a3 a4))
       (z13 n false a3 a4)))
   (z13 n false a3 a4)
def z13:Nat->Bool->(List UInt8)->Nat->Option Bool
 |0,_,_,_=>none
 |n+1,a0,a1,a2 =>
  pIf a0
   (some false)
   (z1u n a1 a2)
end
def ysn:LSh:=⟨[(2,(.d .bool))],[],0,44⟩
noncomputable def zf6:FI dat:=FI.of dat 129 44 0 [(.d .str)] [] [(.d .bool)] [] true ysn (R:=Bool) (λx=>x.1) (λr=>(r,())) (λn x=>zde n x.1)
 (λn=>[(0,⟨⟨[(0,(.d .str)),(13,(.d .bool))],[],0,44⟩,λx=>zbl n x.1 x.2.1⟩),(1,⟨⟨[(15,(.ptr 0 0))],[.siter],0,44⟩,λx=>z1u n x.1 x.2.1⟩),(2,⟨⟨[(15,(.ptr 0 0)),(4,(.d (.int .i32))),(3,(.d (.int .i64))),(5,(.d .bool))],[.siter],0,44⟩,λx=>z8v n x.1 x.2.1 x.2.2.1 x.2.2.2.1 x.2.2.2.2.1⟩),(3,⟨⟨[(15,(.ptr 0 0)),(43,(.d .bool))],[.siter],0,44⟩,λx=>z13 n x.1 x.2.1 x.2.2.1⟩)]) (ann [(5,0),(14,1),(26,2),(28,3)] (Tryz.f129.body.getD .skip) 0).1
noncomputable def ypy:List (FI dat):=[]
theorem yqe:(zf6).Good Tryz.prog dat (tb ypy):=FI.yz4 (hD:=zz2 _) Tryz.func129 Tryz.ntmps129 Tryz.call129 (by kernel_rfl) (of_decide_eq_true (by kernel_rfl)) (by kernel_rfl) (λn=>by kernel_rfl) (λx=>by kernel_rfl) (λ_=>rfl) ⟨λ_=>rfl,λ_=>rfl,λ_=>rfl,λ_=>rfl,trivial⟩
 (λn=>λx=>(zde.eq_2 x.1 n).trans (by kernel_rfl))
 (λn=>⟨λx=>(zbl.eq_2 x.1 x.2.1 n).trans (by kernel_rfl),
  λx=>(z1u.eq_2 x.1 x.2.1 n).trans (by kernel_rfl),
  λx=>(z8v.eq_2 x.1 x.2.1 x.2.2.1 x.2.2.2.1 x.2.2.2.2.1 n).trans (by kernel_rfl),
  λx=>(z13.eq_2 x.1 x.2.1 x.2.2.1 n).trans (by kernel_rfl),
  trivial⟩)
 (λx=>.inl rfl)
theorem ys7:OkL Tryz.prog [zf6]:=zz6 (zz2 _) (bs:=[]) trivial yqe
theorem y1j:FOk Tryz.prog zf6:=ys7.1
mutual
def zzv:Nat->(List (List UInt8))->(List UInt8)->Option Int
 |0,_,_=>none
 |n+1,a0,a1 =>
  yzi n 0 a0 a1 (a0.length:Int)
def yzi:Nat->Int->(List (List UInt8))->(List UInt8)->Int->Option Int
 |0,_,_,_,_=>none
 |n+1,a0,a1,a2,a3 =>
  pIf (decide (a0<a3))
   ((ix a1 a0).bind λx0 =>
   pIf (a2==x0)
    (some a0)
    (yzi n (IntKind.i64.wrap (a0+1)) a1 a2 a3))
   (some (-1))
end
def zot:LSh:=⟨[(4,(.d (.int .i64)))],[],0,19⟩
noncomputable def kzx:FI dat:=FI.of dat 59 19 0 [(.d (.sl .str)),(.d .str)] [] [(.d (.int .i64))] [] true zot (R:=Int) (λx=>x.1) (λr=>(r,())) (λn x=>zzv n x.1 x.2.1)
 (λn=>[(0,⟨⟨[(8,(.d (.int .i64))),(0,(.d (.sl .str))),(1,(.d .str)),(7,(.d (.int .i64)))],[],0,19⟩,λx=>yzi n x.1 x.2.1 x.2.2.1 x.2.2.2.1⟩)]) (ann [(6,0)] (Tryz.f59.body.getD .skip) 0).1
noncomputable def zoq:List (FI dat):=[]
theorem zov:(kzx).Good Tryz.prog dat (tb zoq):=FI.yz4 (hD:=zz2 _) Tryz.func59 Tryz.ntmps59 Tryz.call59 (by kernel_rfl) (of_decide_eq_true (by kernel_rfl)) (by kernel_rfl) (λn=>by kernel_rfl) (λx=>by kernel_rfl) (λ_=>rfl) ⟨λ_=>rfl,trivial⟩
 (λn=>λx=>(zzv.eq_2 x.1 x.2.1 n).trans (by kernel_rfl))
 (λn=>⟨λx=>(yzi.eq_2 x.1 x.2.1 x.2.2.1 x.2.2.2.1 n).trans (by kernel_rfl),
  trivial⟩)
 (λx=>.inl rfl)
theorem zoz:OkL Tryz.prog [kzx]:=zz6 (zz2 _) (bs:=[]) trivial zov
theorem zf1:FOk Tryz.prog kzx:=zoz.1
def yzw:Nat->(List (List UInt8))->(List UInt8)->Option Bool
 |0,_,_=>none
 |n+1,a0,a1 =>
  (zzv n a0 a1).bind λy0 =>
  some (decide (y0>=0))
def zmz:LSh:=⟨[(4,(.d .bool))],[],0,9⟩
noncomputable def z0u:FI dat:=FI.of dat 130 9 0 [(.d (.sl .str)),(.d .str)] [] [(.d .bool)] [] true zmz (R:=Bool) (λx=>x.1) (λr=>(r,())) (λn x=>yzw n x.1 x.2.1)
 (λn=>[]) (ann [] (Tryz.f130.body.getD .skip) 0).1
noncomputable def zn4:List (FI dat):=[kzx]
theorem zn5:(z0u).Good Tryz.prog dat (tb zn4):=FI.yz4 (hD:=zz2 _) Tryz.func130 Tryz.ntmps130 Tryz.call130 (by kernel_rfl) (of_decide_eq_true (by kernel_rfl)) (by kernel_rfl) (λn=>by kernel_rfl) (λx=>by kernel_rfl) (λ_=>rfl) trivial
 (λn=>λx=>(yzw.eq_2 x.1 x.2.1 n).trans (by kernel_rfl))
 (λn=>trivial)
 (λx=>.inl rfl)
theorem zn3:OkL Tryz.prog [z0u]:=zz6 (zz2 _) (bs:=[kzx]) ⟨zf1,trivial⟩ zn5
theorem zmo:FOk Tryz.prog z0u:=zn3.1
def z4e:Nat->(List UInt8)->Option Bool
 |0,_=>none
 |n+1,a0 =>
  (zde n a0).bind λy0 =>
  pIf y0
   ((yzw n [[116,114,117,101],[102,97,108,115,101],[115,120],[115,121],[115,122]] a0).bind λy1 =>
   some (!y1))
   (some false)
def ylj:LSh:=⟨[(2,(.d .bool))],[],0,11⟩
noncomputable def z96:FI dat:=FI.of dat 99 11 0 [(.d .str)] [] [(.d .bool)] [] true ylj (R:=Bool) (λx=>x.1) (λr=>(r,())) (λn x=>z4e n x.1)
 (λn=>[]) (ann [] (Tryz.f99.body.getD .skip) 0).1
noncomputable def yin:List (FI dat):=[zf6,z0u]
theorem yim:(z96).Good Tryz.prog dat (tb yin):=FI.yz4 (hD:=zz2 _) Tryz.func99 Tryz.ntmps99 Tryz.call99 (by kernel_rfl) (of_decide_eq_true (by kernel_rfl)) (by kernel_rfl) (λn=>by kernel_rfl) (λx=>by kernel_rfl) (λ_=>rfl) trivial
 (λn=>λx=>(z4e.eq_2 x.1 n).trans (by kernel_rfl))
 (λn=>trivial)
 (λx=>.inl rfl)
theorem yiz:OkL Tryz.prog [z96]:=zz6 (zz2 _) (bs:=[zf6,z0u]) ⟨y1j,zmo,trivial⟩ yim
theorem zqb:FOk Tryz.prog z96:=yiz.1
mutual
def zag:Nat->zz1->Option (Int×Int)
 |0,_=>none
 |n+1,a0 =>
  z4l n 0 1 1 a0.args (a0.args.length:Int)
def z4l:Nat->Int->Int->Int->(List zz1)->Int->Option (Int×Int)
 |0,_,_,_,_,_=>none
 |n+1,a0,a1,a2,a3,a4 =>
  pIf (decide (a0<a4))
   ((ix a3 a0).bind λx0 =>
   (zag n x0.re).bind λy1 =>
   z4l n (IntKind.i64.wrap (a0+1)) (mxI a1 (IntKind.i64.wrap (y1.2+1))) (IntKind.i64.wrap (a2+y1.1)) a3 a4)
   (some (a2,a1))
end
def ycd:LSh:=⟨[(2,(.d (.int .i64))),(3,(.d (.int .i64)))],[],0,30⟩
noncomputable def zef:FI dat:=FI.of dat 131 30 0 [(.d (.st 2))] [] [(.d (.int .i64)),(.d (.int .i64))] [] true ycd (R:=Int×Int) (λx=>(x.1,x.2.1)) (λr=>(r.1,r.2,())) (λn x=>zag n x.1)
 (λn=>[(0,⟨⟨[(11,(.d (.int .i64))),(3,(.d (.int .i64))),(2,(.d (.int .i64))),(9,(.d (.sl (.st 2)))),(10,(.d (.int .i64)))],[],0,30⟩,λx=>z4l n x.1 x.2.1 x.2.2.1 x.2.2.2.1 x.2.2.2.2.1⟩)]) (ann [(8,0)] (Tryz.f131.body.getD .skip) 0).1
noncomputable def yg0:List (FI dat):=[zef]++[]
theorem ygf:(zef).Good Tryz.prog dat (tb yg0):=FI.yz4 (hD:=zz2 _) Tryz.func131 Tryz.ntmps131 Tryz.call131 (by kernel_rfl) (of_decide_eq_true (by kernel_rfl)) (by kernel_rfl) (λn=>by kernel_rfl) (λx=>by kernel_rfl) (λ_=>rfl) ⟨λ_=>rfl,trivial⟩
 (λn=>λx=>(zag.eq_2 x.1 n).trans (by kernel_rfl))
 (λn=>⟨λx=>(z4l.eq_2 x.1 x.2.1 x.2.2.1 x.2.2.2.1 x.2.2.2.2.1 n).trans (by kernel_rfl),
  trivial⟩)
 (λx=>.inl rfl)
theorem ycu:OkL Tryz.prog [zef]:=zc5 (zz2 _) (bs:=[]) trivial ⟨ygf,trivial⟩
theorem ya4:FOk Tryz.prog zef:=ycu.1
end Go.Proofs.YtahcjggdcmgpkaaGreat
namespace Go.Proofs.YtahcjggdcmgpkaaGreat
open Go Go.Ab
set_option linter.unusedVariables false
set_option maxRecDepth 100000
set_option maxHeartbeats 4000000
mutual
def zg3:Nat->Int->Option Int
 |0,_=>none
 |n+1,a0 =>
  pIf (a0==12)
   (z1s n 3)
   (pIf (a0==3)
     (z0j n (-2) a0 true)
     (pIf (a0==4)
       (z0j n (-2) a0 true)
       (pIf (a0==5)
         (z0j n (-2) a0 true)
         (pIf (a0==6)
           (z0j n (-2) a0 true)
           (pIf (a0==7)
             (z0j n (-2) a0 true)
             (pIf (a0==8)
               (z0j n (-2) a0 true)
               (pIf (a0==9)
                 (z0j n (-2) a0 true)
                 (z0j n (-2) a0 (a0==10)))))))))
def z0j:Nat->Int->Int->Bool->Option Int
 |0,_,_,_=>none
 |n+1,a0,a1,a2 =>
  pIf a2
   (zbg n)
   (pIf (a1==13)
     (z8c n a0 a1 true)
     (pIf (a1==14)
       (z8c n a0 a1 true)
       (z8c n a0 a1 (a1==17))))
def z8c:Nat->Int->Int->Bool->Option Int
 |0,_,_,_=>none
 |n+1,a0,a1,a2 =>
  pIf a2
   (zbg n)
   (pIf (a1==11)
     (z8s n a0 a1 true)
     (pIf (a1==15)
       (z8s n a0 a1 true)
       (z8s n a0 a1 (a1==16))))
def z8s:Nat->Int->Int->Bool->Option Int
 |0,_,_,_=>none
 |n+1,a0,a1,a2 =>
  pIf a2
   (z1s n 1)
   (pIf (a1==1)
     (zbi n a0 a1 true)
     (zbi n a0 a1 (a1==2)))
def zbi:Nat->Int->Int->Bool->Option Int
 |0,_,_,_=>none
 |n+1,a0,a1,a2 =>
  pIf a2
   (z1s n 0)
   (pIf (a1==18)
     (z1s n (-1))
     (z1s n a0))
def zbg:Nat->Option Int
 |0=>none
 |n+1 =>
  z1s n 2
def z1s:Nat->Int->Option Int
 |0,_=>none
 |n+1,a0 =>
  some a0
end
def yos:LSh:=⟨[(2,(.d (.int .i64)))],[],0,30⟩
noncomputable def zm1:FI dat:=FI.of dat 148 30 0 [(.d (.int .u8))] [] [(.d (.int .i64))] [] true yos (R:=Int) (λx=>x.1) (λr=>(r,())) (λn x=>zg3 n x.1)
 (λn=>[(0,⟨⟨[(3,(.d (.int .i64))),(4,(.d (.int .u8))),(7,(.d .bool))],[],0,30⟩,λx=>z0j n x.1 x.2.1 x.2.2.1⟩),(1,⟨⟨[(3,(.d (.int .i64))),(4,(.d (.int .u8))),(16,(.d .bool))],[],0,30⟩,λx=>z8c n x.1 x.2.1 x.2.2.1⟩),(2,⟨⟨[(3,(.d (.int .i64))),(4,(.d (.int .u8))),(20,(.d .bool))],[],0,30⟩,λx=>z8s n x.1 x.2.1 x.2.2.1⟩),(3,⟨⟨[(3,(.d (.int .i64))),(4,(.d (.int .u8))),(24,(.d .bool))],[],0,30⟩,λx=>zbi n x.1 x.2.1 x.2.2.1⟩),(4,⟨⟨[],[],0,30⟩,λx=>zbg n⟩),(5,⟨⟨[(3,(.d (.int .i64)))],[],0,30⟩,λx=>z1s n x.1⟩)]) (ann [(57,0),(71,1),(85,2),(95,3),(107,4),(119,5)] (Tryz.f148.body.getD .skip) 0).1
noncomputable def ysp:List (FI dat):=[]
theorem yqz:(zm1).Good Tryz.prog dat (tb ysp):=FI.yz4 (hD:=zz2 _) Tryz.func148 Tryz.ntmps148 Tryz.call148 (by kernel_rfl) (of_decide_eq_true (by kernel_rfl)) (by kernel_rfl) (λn=>by kernel_rfl) (λx=>by kernel_rfl) (λ_=>rfl) ⟨λ_=>rfl,λ_=>rfl,λ_=>rfl,λ_=>rfl,λ_=>rfl,λ_=>rfl,trivial⟩
 (λn=>λx=>(zg3.eq_2 x.1 n).trans (by kernel_rfl))
 (λn=>⟨λx=>(z0j.eq_2 x.1 x.2.1 x.2.2.1 n).trans (by kernel_rfl),
  λx=>(z8c.eq_2 x.1 x.2.1 x.2.2.1 n).trans (by kernel_rfl),
  λx=>(z8s.eq_2 x.1 x.2.1 x.2.2.1 n).trans (by kernel_rfl),
  λx=>(zbi.eq_2 x.1 x.2.1 x.2.2.1 n).trans (by kernel_rfl),
  λx=>(zbg.eq_2 n).trans (by kernel_rfl),
  λx=>(z1s.eq_2 x.1 n).trans (by kernel_rfl),
  trivial⟩)
 (λx=>.inl rfl)
theorem yqy:OkL Tryz.prog [zm1]:=zz6 (zz2 _) (bs:=[]) trivial yqz
theorem ygy:FOk Tryz.prog zm1:=yqy.1
mutual
def z8x:Nat->yz2->Option (Int×Int)
 |0,_=>none
 |n+1,a0 =>
  pIf (a0.kind==4)
   (z3h n 0 1 1 a0.list (a0.list.length:Int))
   (z3l n 1 1)
def z3h:Nat->Int->Int->Int->(List yz2)->Int->Option (Int×Int)
 |0,_,_,_,_,_=>none
 |n+1,a0,a1,a2,a3,a4 =>
  pIf (decide (a0<a4))
   ((ix a3 a0).bind λx0 =>
   (z8x n x0.re).bind λy1 =>
   z3h n (IntKind.i64.wrap (a0+1)) (mxI a1 (IntKind.i64.wrap (y1.2+1))) (IntKind.i64.wrap (a2+y1.1)) a3 a4)
   (z3l n a1 a2)
def z3l:Nat->Int->Int->Option (Int×Int)
 |0,_,_=>none
 |n+1,a0,a1 =>
  some (a1,a0)
end
def yah:LSh:=⟨[(2,(.d (.int .i64))),(3,(.d (.int .i64)))],[],0,33⟩
noncomputable def zcc:FI dat:=FI.of dat 158 33 0 [(.d (.st 1))] [] [(.d (.int .i64)),(.d (.int .i64))] [] true yah (R:=Int×Int) (λx=>(x.1,x.2.1)) (λr=>(r.1,r.2,())) (λn x=>z8x n x.1)
 (λn=>[(0,⟨⟨[(14,(.d (.int .i64))),(3,(.d (.int .i64))),(2,(.d (.int .i64))),(12,(.d (.sl (.st 1)))),(13,(.d (.int .i64)))],[],0,33⟩,λx=>z3h n x.1 x.2.1 x.2.2.1 x.2.2.2.1 x.2.2.2.2.1⟩),(1,⟨⟨[(3,(.d (.int .i64))),(2,(.d (.int .i64)))],[],0,33⟩,λx=>z3l n x.1 x.2.1⟩)]) (ann [(11,0),(29,1)] (Tryz.f158.body.getD .skip) 0).1
noncomputable def y8x:List (FI dat):=[zcc]++[]
theorem yau:(zcc).Good Tryz.prog dat (tb y8x):=FI.yz4 (hD:=zz2 _) Tryz.func158 Tryz.ntmps158 Tryz.call158 (by kernel_rfl) (of_decide_eq_true (by kernel_rfl)) (by kernel_rfl) (λn=>by kernel_rfl) (λx=>by kernel_rfl) (λ_=>rfl) ⟨λ_=>rfl,λ_=>rfl,trivial⟩
 (λn=>λx=>(z8x.eq_2 x.1 n).trans (by kernel_rfl))
 (λn=>⟨λx=>(z3h.eq_2 x.1 x.2.1 x.2.2.1 x.2.2.2.1 x.2.2.2.2.1 n).trans (by kernel_rfl),
  λx=>(z3l.eq_2 x.1 x.2.1 n).trans (by kernel_rfl),
  trivial⟩)
 (λx=>.inl rfl)
theorem y90:OkL Tryz.prog [zcc]:=zc5 (zz2 _) (bs:=[]) trivial ⟨yau,trivial⟩
theorem y6a:FOk Tryz.prog zcc:=y90.1
def zd5:Nat->Int->Option Int
 |0,_=>none
 |n+1,a0 =>
  pIf (decide (a0<0))
   (some (IntKind.u64.wrap (0-(IntKind.u64.wrap a0))))
   (some (IntKind.u64.wrap a0))
def yr4:LSh:=⟨[(2,(.d (.int .u64)))],[],0,10⟩
noncomputable def zmh:FI dat:=FI.of dat 164 10 0 [(.d (.int .i64))] [] [(.d (.int .u64))] [] true yr4 (R:=Int) (λx=>x.1) (λr=>(r,())) (λn x=>zd5 n x.1)
 (λn=>[]) (ann [] (Tryz.f164.body.getD .skip) 0).1
noncomputable def ysl:List (FI dat):=[]
theorem yr9:(zmh).Good Tryz.prog dat (tb ysl):=FI.yz4 (hD:=zz2 _) Tryz.func164 Tryz.ntmps164 Tryz.call164 (by kernel_rfl) (of_decide_eq_true (by kernel_rfl)) (by kernel_rfl) (λn=>by kernel_rfl) (λx=>by kernel_rfl) (λ_=>rfl) trivial
 (λn=>λx=>(zd5.eq_2 x.1 n).trans (by kernel_rfl))
 (λn=>trivial)
 (λx=>.inl rfl)
theorem ysv:OkL Tryz.prog [zmh]:=zz6 (zz2 _) (bs:=[]) trivial yr9
theorem yk2:FOk Tryz.prog zmh:=ysv.1
mutual
def zih:Nat->Int->Int->Option Int
 |0,_,_=>none
 |n+1,a0,a1 =>
  z9y n a1 a0
def z9y:Nat->Int->Int->Option Int
 |0,_,_=>none
 |n+1,a0,a1 =>
  pIf (a0 != 0)
   ((rem .u64 a1 a0).bind λx0 =>
   z9y n x0 a0)
   (some a1)
end
def yu8:LSh:=⟨[(4,(.d (.int .u64)))],[],0,12⟩
noncomputable def zom:FI dat:=FI.of dat 165 12 0 [(.d (.int .u64)),(.d (.int .u64))] [] [(.d (.int .u64))] [] true yu8 (R:=Int) (λx=>x.1) (λr=>(r,())) (λn x=>zih n x.1 x.2.1)
 (λn=>[(0,⟨⟨[(1,(.d (.int .u64))),(0,(.d (.int .u64)))],[],0,12⟩,λx=>z9y n x.1 x.2.1⟩)]) (ann [(4,0)] (Tryz.f165.body.getD .skip) 0).1
noncomputable def ywg:List (FI dat):=[]
theorem yuj:(zom).Good Tryz.prog dat (tb ywg):=FI.yz4 (hD:=zz2 _) Tryz.func165 Tryz.ntmps165 Tryz.call165 (by kernel_rfl) (of_decide_eq_true (by kernel_rfl)) (by kernel_rfl) (λn=>by kernel_rfl) (λx=>by kernel_rfl) (λ_=>rfl) ⟨λ_=>rfl,trivial⟩
 (λn=>λx=>(zih.eq_2 x.1 x.2.1 n).trans (by kernel_rfl))
 (λn=>⟨λx=>(z9y.eq_2 x.1 x.2.1 n).trans (by kernel_rfl),
  trivial⟩)
 (λx=>.inl rfl)
theorem yut:OkL Tryz.prog [zom]:=zz6 (zz2 _) (bs:=[]) trivial yuj
theorem yt1:FOk Tryz.prog zom:=yut.1
mutual
def zel:Nat->kz6->Option Int
 |0,_=>none
 |n+1,a0 =>
  pIf (decide (a0.den<1))
   (z2g n true)
   (pIf (decide (a0.den>1000000000))
     (z2g n true)
     ((zd5 n a0.num).bind λy0 =>
     pIf (decide (y0>1000000000))
      (z2g n true)
      ((zd5 n a0.num).bind λy1 =>
      (zih n y1 (IntKind.u64.wrap a0.den)).bind λy2 =>
      z2g n (y2 != 1))))
def z2g:Nat->Bool->Option Int
 |0,_=>none
 |n+1,a0 =>
  pIf a0
   (some 8)
   (some 0)
end
def yk4:LSh:=⟨[(2,(.d (.int .i64)))],[],0,27⟩
noncomputable def zjv:FI dat:=FI.of dat 162 27 0 [(.d (.st 0))] [] [(.d (.int .i64))] [] true yk4 (R:=Int) (λx=>x.1) (λr=>(r,())) (λn x=>zel n x.1)
 (λn=>[(0,⟨⟨[(26,(.d .bool))],[],0,27⟩,λx=>z2g n x.1⟩)]) (ann [(5,0)] (Tryz.f162.body.getD .skip) 0).1
noncomputable def yjg:List (FI dat):=[zmh,zom]
theorem yjh:(zjv).Good Tryz.prog dat (tb yjg):=FI.yz4 (hD:=zz2 _) Tryz.func162 Tryz.ntmps162 Tryz.call162 (by kernel_rfl) (of_decide_eq_true (by kernel_rfl)) (by kernel_rfl) (λn=>by kernel_rfl) (λx=>by kernel_rfl) (λ_=>rfl) ⟨λ_=>rfl,trivial⟩
 (λn=>λx=>(zel.eq_2 x.1 n).trans (by kernel_rfl))
 (λn=>⟨λx=>(z2g.eq_2 x.1 n).trans (by kernel_rfl),
  trivial⟩)
 (λx=>.inl rfl)
theorem yi0:OkL Tryz.prog [zjv]:=zz6 (zz2 _) (bs:=[zmh,zom]) ⟨yk2,yt1,trivial⟩ yjh
theorem yf2:FOk Tryz.prog zjv:=yi0.1
mutual
def zdt:Nat->yz2->Option Bool
 |0,_=>none
 |n+1,a0 =>
  pIf (a0.kind==1)
   ((zel n a0.num).bind λy0 =>
   pIf (y0 != 0)
    (some false)
    (z39 n (yz2.mk a0.kind (kz6.mk 0 0) a0.truth a0.str a0.list)))
   (pIf (a0.kind==2)
     (z39 n (yz2.mk a0.kind a0.num false a0.str a0.list))
     (pIf (a0.kind==3)
       (pIf (decide ((a0.str.length:Int)>60))
         (some false)
         (z7p n 0 a0.re (yz2.mk a0.kind a0.num a0.truth [] a0.list)))
       (pIf (a0.kind==4)
         (z7z n 0 a0.list (a0.list.length:Int) (yz2.mk a0.kind a0.num a0.truth a0.str []))
         (some false))))
def z7p:Nat->Int->yz2->yz2->Option Bool
 |0,_,_,_=>none
 |n+1,a0,a1,a2 =>
  pIf (decide (a0<(a1.str.length:Int)))
   ((ix a1.str a0).bind λx1 =>
   pIf (decide ((x1.toNat:Int)<32))
    (z8y n a0 true a1.re a2.re)
    ((ix a1.str a0).bind λx2 =>
    z8y n a0 (decide ((x2.toNat:Int)>126)) a1.re a2.re))
   (z39 n a2.re)
def z8y:Nat->Int->Bool->yz2->yz2->Option Bool
 |0,_,_,_,_=>none
 |n+1,a0,a1,a2,a3 =>
  pIf a1
   (some false)
   (z7p n (IntKind.i64.wrap (a0+1)) a2.re a3.re)
def z7z:Nat->Int->(List yz2)->Int->yz2->Option Bool
 |0,_,_,_,_=>none
 |n+1,a0,a1,a2,a3 =>
  pIf (decide (a0<a2))
   ((ix a1 a0).bind λx3 =>
   (zdt n x3.re).bind λy4 =>
   pIf (!y4)
    (some false)
    (z7z n (IntKind.i64.wrap (a0+1)) a1 a2 a3.re))
   (z39 n a3.re)
def z39:Nat->yz2->Option Bool
 |0,_=>none
 |n+1,a0 =>
  pIf ((a0.num.num==0)&&((a0.num.den==0)&&true))
   (pIf (!a0.truth)
     (pIf (a0.str==[])
       (some ((a0.list.length:Int)==0))
       (some false))
     (some false))
   (some false)
end
def yqs:LSh:=⟨[(2,(.d .bool))],[],0,81⟩
noncomputable def zij:FI dat:=FI.of dat 159 81 0 [(.d (.st 1))] [] [(.d .bool)] [] true yqs (R:=Bool) (λx=>x.1) (λr=>(r,())) (λn x=>zdt n x.1)
 (λn=>[(0,⟨⟨[(4,(.d (.int .i64))),(1,(.ptr 0 0)),(3,(.ptr 1 0))],[(.st 1),(.st 1)],0,81⟩,λx=>z7p n x.1 x.2.1 x.2.2.1⟩),(1,⟨⟨[(1,(.ptr 0 0)),(3,(.ptr 1 0)),(4,(.d (.int .i64))),(46,(.d .bool))],[(.st 1),(.st 1)],0,81⟩,λx=>z8y n x.1 x.2.1 x.2.2.1 x.2.2.2.1⟩),(2,⟨⟨[(53,(.d (.int .i64))),(51,(.d (.sl (.st 1)))),(3,(.ptr 0 0)),(52,(.d (.int .i64)))],[(.st 1)],0,81⟩,λx=>z7z n x.1 x.2.1 x.2.2.1 x.2.2.2.1⟩),(3,⟨⟨[(3,(.ptr 0 0))],[(.st 1)],0,81⟩,λx=>z39 n x.1⟩)]) (ann [(40,0),(51,1),(65,2),(87,3)] (Tryz.f159.body.getD .skip) 0).1
noncomputable def yt8:List (FI dat):=[zij]++[zjv]
theorem yq0:(zij).Good Tryz.prog dat (tb yt8):=FI.yz4 (hD:=zz2 _) Tryz.func159 Tryz.ntmps159 Tryz.call159 (by kernel_rfl) (of_decide_eq_true (by kernel_rfl)) (by kernel_rfl) (λn=>by kernel_rfl) (λx=>by kernel_rfl) (λ_=>rfl) ⟨λ_=>rfl,λ_=>rfl,λ_=>rfl,λ_=>rfl,trivial⟩
 (λn=>λx=>(zdt.eq_2 x.1 n).trans (by kernel_rfl))
 (λn=>⟨λx=>(z7p.eq_2 x.1 x.2.1 x.2.2.1 n).trans (by kernel_rfl),
  λx=>(z8y.eq_2 x.1 x.2.1 x.2.2.1 x.2.2.2.1 n).trans (by kernel_rfl),
  λx=>(z7z.eq_2 x.1 x.2.1 x.2.2.1 x.2.2.2.1 n).trans (by kernel_rfl),
  λx=>(z39.eq_2 x.1 n).trans (by kernel_rfl),
  trivial⟩)
 (λx=>.inl rfl)
theorem yns:OkL Tryz.prog [zij]:=zc5 (zz2 _) (bs:=[zjv]) ⟨yf2,trivial⟩ ⟨yq0,trivial⟩
theorem yku:FOk Tryz.prog zij:=yns.1
mutual
def zed:Nat->yz2->Option Int
 |0,_=>none
 |n+1,a0 =>
  (z8x n a0.re).bind λy0 =>
  pIf (decide (y0.1>100))
   (z64 n true a0.re)
   (z64 n (decide (y0.2>6)) a0.re)
def z64:Nat->Bool->yz2->Option Int
 |0,_,_=>none
 |n+1,a0,a1 =>
  pIf a0
   (some 4)
   ((zdt n a1.re).bind λy1 =>
   pIf (!y1)
    (some 8)
    (some 0))
end
def ykv:LSh:=⟨[(2,(.d (.int .i64)))],[],0,19⟩
noncomputable def zkj:FI dat:=FI.of dat 149 19 0 [(.d (.st 1))] [] [(.d (.int .i64))] [] true ykv (R:=Int) (λx=>x.1) (λr=>(r,())) (λn x=>zed n x.1)
 (λn=>[(0,⟨⟨[(1,(.ptr 0 0)),(15,(.d .bool))],[(.st 1)],0,19⟩,λx=>z64 n x.1 x.2.1⟩)]) (ann [(7,0)] (Tryz.f149.body.getD .skip) 0).1
noncomputable def ym4:List (FI dat):=[zcc,zij]
theorem ymc:(zkj).Good Tryz.prog dat (tb ym4):=FI.yz4 (hD:=zz2 _) Tryz.func149 Tryz.ntmps149 Tryz.call149 (by kernel_rfl) (of_decide_eq_true (by kernel_rfl)) (by kernel_rfl) (λn=>by kernel_rfl) (λx=>by kernel_rfl) (λ_=>rfl) ⟨λ_=>rfl,trivial⟩
 (λn=>λx=>(zed.eq_2 x.1 n).trans (by kernel_rfl))
 (λn=>⟨λx=>(z64.eq_2 x.1 x.2.1 n).trans (by kernel_rfl),
  trivial⟩)
 (λx=>.inl rfl)
theorem ylp:OkL Tryz.prog [zkj]:=zz6 (zz2 _) (bs:=[zcc,zij]) ⟨y6a,yku,trivial⟩ ymc
theorem ybj:FOk Tryz.prog zkj:=ylp.1
def zg0:Nat->(List UInt8)->Option Bool
 |0,_=>none
 |n+1,a0 =>
  (zde n a0).bind λy0 =>
  pIf y0
   (pIf (!(a0==[116,114,117,101]))
     (some (!(a0==[102,97,108,115,101])))
     (some false))
   (some false)
def yr5:LSh:=⟨[(2,(.d .bool))],[],0,13⟩
noncomputable def zm7:FI dat:=FI.of dat 150 13 0 [(.d .str)] [] [(.d .bool)] [] true yr5 (R:=Bool) (λx=>x.1) (λr=>(r,())) (λn x=>zg0 n x.1)
 (λn=>[]) (ann [] (Tryz.f150.body.getD .skip) 0).1
noncomputable def ynw:List (FI dat):=[zf6]
theorem yt4:(zm7).Good Tryz.prog dat (tb ynw):=FI.yz4 (hD:=zz2 _) Tryz.func150 Tryz.ntmps150 Tryz.call150 (by kernel_rfl) (of_decide_eq_true (by kernel_rfl)) (by kernel_rfl) (λn=>by kernel_rfl) (λx=>by kernel_rfl) (λ_=>rfl) trivial
 (λn=>λx=>(zg0.eq_2 x.1 n).trans (by kernel_rfl))
 (λn=>trivial)
 (λx=>.inl rfl)
theorem ypm:OkL Tryz.prog [zm7]:=zz6 (zz2 _) (bs:=[zf6]) ⟨y1j,trivial⟩ yt4
theorem ym5:FOk Tryz.prog zm7:=ypm.1
mutual
def z47:Nat->yz2->yz2->Option Bool
 |0,_,_=>none
 |n+1,a0,a1 =>
  pIf (a0.kind != a1.kind)
   (z1t n true a1.re a0.re)
   (pIf (!((a0.num.num==a1.num.num)&&((a0.num.den==a1.num.den)&&true)))
     (z1t n true a1.re a0.re)
     (pIf (!(a0.truth==a1.truth))
       (z1t n true a1.re a0.re)
       (pIf (!(a0.str==a1.str))
         (z1t n true a1.re a0.re)
         (z1t n ((a0.list.length:Int) != (a1.list.length:Int)) a1.re a0.re))))
def z1t:Nat->Bool->yz2->yz2->Option Bool
 |0,_,_,_=>none
 |n+1,a0,a1,a2 =>
  pIf a0
   (some false)
   (z8h n 0 (a2.list.length:Int) a1.re a2.re)
def z8h:Nat->Int->Int->yz2->yz2->Option Bool
 |0,_,_,_,_=>none
 |n+1,a0,a1,a2,a3 =>
  pIf (decide (a0<a1))
   ((ix a3.list a0).bind λx0 =>
   (ix a2.list a0).bind λx1 =>
   (z47 n x0.re x1.re).bind λy2 =>
   pIf (!y2)
    (some false)
    (z8h n (IntKind.i64.wrap (a0+1)) a1 a2.re a3.re))
   (some true)
end
def yrn:LSh:=⟨[(4,(.d .bool))],[],0,60⟩
noncomputable def zcx:FI dat:=FI.of dat 66 60 0 [(.d (.st 1)),(.d (.st 1))] [] [(.d .bool)] [] true yrn (R:=Bool) (λx=>x.1) (λr=>(r,())) (λn x=>z47 n x.1 x.2.1)
 (λn=>[(0,⟨⟨[(3,(.ptr 0 0)),(2,(.ptr 1 0)),(40,(.d .bool))],[(.st 1),(.st 1)],0,60⟩,λx=>z1t n x.1 x.2.1 x.2.2.1⟩),(1,⟨⟨[(44,(.d (.int .i64))),(3,(.ptr 0 0)),(2,(.ptr 1 0)),(43,(.d (.int .i64)))],[(.st 1),(.st 1)],0,60⟩,λx=>z8h n x.1 x.2.1 x.2.2.1 x.2.2.2.1⟩)]) (ann [(5,0),(14,1)] (Tryz.f66.body.getD .skip) 0).1
noncomputable def ynr:List (FI dat):=[zcx]++[]
theorem ynp:(zcx).Good Tryz.prog dat (tb ynr):=FI.yz4 (hD:=zz2 _) Tryz.func66 Tryz.ntmps66 Tryz.call66 (by kernel_rfl) (of_decide_eq_true (by kernel_rfl)) (by kernel_rfl) (λn=>by kernel_rfl) (λx=>by kernel_rfl) (λ_=>rfl) ⟨λ_=>rfl,λ_=>rfl,trivial⟩
 (λn=>λx=>(z47.eq_2 x.1 x.2.1 n).trans (by kernel_rfl))
 (λn=>⟨λx=>(z1t.eq_2 x.1 x.2.1 x.2.2.1 n).trans (by kernel_rfl),
  λx=>(z8h.eq_2 x.1 x.2.1 x.2.2.1 x.2.2.2.1 n).trans (by kernel_rfl),
  trivial⟩)
 (λx=>.inl rfl)
theorem yon:OkL Tryz.prog [zcx]:=zc5 (zz2 _) (bs:=[]) trivial ⟨ynp,trivial⟩
theorem y0x:FOk Tryz.prog zcx:=yon.1
end Go.Proofs.YtahcjggdcmgpkaaGreat
namespace Go.Proofs.YtahcjggdcmgpkaaGreat
open Go Go.Ab
set_option linter.unusedVariables false
set_option maxRecDepth 100000
set_option maxHeartbeats 4000000
mutual
def zfe:Nat->zz1->Option Bool
 |0,_=>none
 |n+1,a0 =>
  (zg3 n a0.op).bind λy0 =>
  pIf (y0==(-2))
   (z7i n true a0.re)
   (pIf (decide (y0>=0))
     (z7i n ((a0.args.length:Int) != y0) a0.re)
     (z7i n false a0.re))
def z7i:Nat->Bool->zz1->Option Bool
 |0,_,_=>none
 |n+1,a0,a1 =>
  pIf a0
   (some false)
   (pIf (a1.op==1)
     ((zed n a1.value.re).bind λy1 =>
     pIf (y1 != 0)
      (z7f n true a1.re)
      (pIf (a1.value.kind==4)
        (z7f n true a1.re)
        (z7f n (!(a1.name==[])) a1.re)))
     (pIf (a1.op==2)
       ((zg0 n a1.name).bind λy2 =>
       pIf (!y2)
        (zal n true a1.re)
        ((z47 n a1.value.re (yz2.mk 0 (kz6.mk 0 0) false [] [])).bind λy3 =>
        zal n (!y3) a1.re))
       (pIf (!(a1.name==[]))
         (zah n true a1.re)
         ((z47 n a1.value.re (yz2.mk 0 (kz6.mk 0 0) false [] [])).bind λy4 =>
         zah n (!y4) a1.re))))
def z7f:Nat->Bool->zz1->Option Bool
 |0,_,_=>none
 |n+1,a0,a1 =>
  pIf a0
   (some false)
   (z7g n a1.re)
def zal:Nat->Bool->zz1->Option Bool
 |0,_,_=>none
 |n+1,a0,a1 =>
  pIf a0
   (some false)
   (z7g n a1.re)
def zah:Nat->Bool->zz1->Option Bool
 |0,_,_=>none
 |n+1,a0,a1 =>
  pIf a0
   (some false)
   (z7g n a1.re)
def z7g:Nat->zz1->Option Bool
 |0,_=>none
 |n+1,a0 =>
  (kzg n a0.args).bind λy5 =>
  some (!y5)
def kzg:Nat->(List zz1)->Option Bool
 |0,_=>none
 |n+1,a0 =>
  (kzj n a0).bind λy0 =>
  some (decide (y0>=0))
def kzj:Nat->(List zz1)->Option Int
 |0,_=>none
 |n+1,a0 =>
  zzc n 0 a0 (a0.length:Int)
def zzc:Nat->Int->(List zz1)->Int->Option Int
 |0,_,_,_=>none
 |n+1,a0,a1,a2 =>
  pIf (decide (a0<a2))
   ((ix a1 a0).bind λx0 =>
   (ze2 n x0.re).bind λy1 =>
   pIf y1
    (some a0)
    (zzc n (IntKind.i64.wrap (a0+1)) a1 a2))
   (some (-1))
def ze2:Nat->zz1->Option Bool
 |0,_=>none
 |n+1,a0 =>
  (zfe n a0.re).bind λy0 =>
  some (!y0)
end
def yvq:LSh:=⟨[(2,(.d .bool))],[],0,66⟩
noncomputable def zlc:FI dat:=FI.of dat 132 66 0 [(.d (.st 2))] [] [(.d .bool)] [] true yvq (R:=Bool) (λx=>x.1) (λr=>(r,())) (λn x=>zfe n x.1)
 (λn=>[(0,⟨⟨[(1,(.ptr 0 0)),(19,(.d .bool))],[(.st 2)],0,66⟩,λx=>z7i n x.1 x.2.1⟩),(1,⟨⟨[(1,(.ptr 0 0)),(48,(.d .bool))],[(.st 2)],0,66⟩,λx=>z7f n x.1 x.2.1⟩),(2,⟨⟨[(1,(.ptr 0 0)),(61,(.d .bool))],[(.st 2)],0,66⟩,λx=>zal n x.1 x.2.1⟩),(3,⟨⟨[(1,(.ptr 0 0)),(31,(.d .bool))],[(.st 2)],0,66⟩,λx=>zah n x.1 x.2.1⟩),(4,⟨⟨[(1,(.ptr 0 0))],[(.st 2)],0,66⟩,λx=>z7g n x.1⟩)]) (ann [(7,0),(21,1),(31,2),(38,3),(43,4)] (Tryz.f132.body.getD .skip) 0).1
def zfc:LSh:=⟨[(4,(.d .bool))],[],0,9⟩
noncomputable def z1e:FI dat:=FI.of dat 60 9 0 [(.d (.sl (.st 2))),(.fn 151 [] [])] [] [(.d .bool)] [] true zfc (R:=Bool) (λx=>x.1) (λr=>(r,())) (λn x=>kzg n x.1)
 (λn=>[]) (ann [] (Tryz.f60.body.getD .skip) 0).1
def zgw:LSh:=⟨[(4,(.d (.int .i64)))],[],0,19⟩
noncomputable def z2i:FI dat:=FI.of dat 104 19 0 [(.d (.sl (.st 2))),(.fn 151 [] [])] [] [(.d (.int .i64))] [] true zgw (R:=Int) (λx=>x.1) (λr=>(r,())) (λn x=>kzj n x.1)
 (λn=>[(0,⟨⟨[(8,(.d (.int .i64))),(0,(.d (.sl (.st 2)))),(1,(.fn 151 [] [])),(7,(.d (.int .i64)))],[],0,19⟩,λx=>zzc n x.1 x.2.1 x.2.2.1⟩)]) (ann [(6,0)] (Tryz.f104.body.getD .skip) 0).1
def ylz:LSh:=⟨[(2,(.d .bool))],[],0,6⟩
noncomputable def ztt:FI dat:=FI.of dat 151 6 0 [(.d (.st 2))] [] [(.d .bool)] [] true ylz (R:=Bool) (λx=>x.1) (λr=>(r,())) (λn x=>ze2 n x.1)
 (λn=>[]) (ann [] (Tryz.f151.body.getD .skip) 0).1
noncomputable def zt8:List (FI dat):=[zlc,z1e,z2i,ztt]++[zm1,zkj,zm7,zcx]
theorem yuf:(zlc).Good Tryz.prog dat (tb zt8):=FI.yz4 (hD:=zz2 _) Tryz.func132 Tryz.ntmps132 Tryz.call132 (by kernel_rfl) (of_decide_eq_true (by kernel_rfl)) (by kernel_rfl) (λn=>by kernel_rfl) (λx=>by kernel_rfl) (λ_=>rfl) ⟨λ_=>rfl,λ_=>rfl,λ_=>rfl,λ_=>rfl,λ_=>rfl,trivial⟩
 (λn=>λx=>(zfe.eq_2 x.1 n).trans (by kernel_rfl))
 (λn=>⟨λx=>(z7i.eq_2 x.1 x.2.1 n).trans (by kernel_rfl),
  λx=>(z7f.eq_2 x.1 x.2.1 n).trans (by kernel_rfl),
  λx=>(zal.eq_2 x.1 x.2.1 n).trans (by kernel_rfl),
  λx=>(zah.eq_2 x.1 x.2.1 n).trans (by kernel_rfl),
  λx=>(z7g.eq_2 x.1 n).trans (by kernel_rfl),
  trivial⟩)
 (λx=>.inl rfl)
theorem zfk:(z1e).Good Tryz.prog dat (tb zt8):=FI.yz4 (hD:=zz2 _) Tryz.func60 Tryz.ntmps60 Tryz.call60 (by kernel_rfl) (of_decide_eq_true (by kernel_rfl)) (by kernel_rfl) (λn=>by kernel_rfl) (λx=>by kernel_rfl) (λ_=>rfl) trivial
 (λn=>λx=>(kzg.eq_2 x.1 n).trans (by kernel_rfl))
 (λn=>trivial)
 (λx=>.inl rfl)
theorem zh2:(z2i).Good Tryz.prog dat (tb zt8):=FI.yz4 (hD:=zz2 _) Tryz.func104 Tryz.ntmps104 Tryz.call104 (by kernel_rfl) (of_decide_eq_true (by kernel_rfl)) (by kernel_rfl) (λn=>by kernel_rfl) (λx=>by kernel_rfl) (λ_=>rfl) ⟨λ_=>rfl,trivial⟩
 (λn=>λx=>(kzj.eq_2 x.1 n).trans (by kernel_rfl))
 (λn=>⟨λx=>(zzc.eq_2 x.1 x.2.1 x.2.2.1 n).trans (by kernel_rfl),
  trivial⟩)
 (λx=>.inl rfl)
theorem yh2:(ztt).Good Tryz.prog dat (tb zt8):=FI.yz4 (hD:=zz2 _) Tryz.func151 Tryz.ntmps151 Tryz.call151 (by kernel_rfl) (of_decide_eq_true (by kernel_rfl)) (by kernel_rfl) (λn=>by kernel_rfl) (λx=>by kernel_rfl) (λ_=>rfl) trivial
 (λn=>λx=>(ze2.eq_2 x.1 n).trans (by kernel_rfl))
 (λn=>trivial)
 (λx=>.inl rfl)
theorem yuo:OkL Tryz.prog [zlc,z1e,z2i,ztt]:=zc5 (zz2 _) (bs:=[zm1,zkj,zm7,zcx]) ⟨ygy,ybj,ym5,y0x,trivial⟩ ⟨yuf,zfk,zh2,yh2,trivial⟩
theorem yrc:FOk Tryz.prog zlc:=yuo.1
mutual
def z48:Nat->zz1->Option Int
 |0,_=>none
 |n+1,a0 =>
  (zag n a0.re).bind λy0 =>
  pIf (decide (y0.1>100))
   (z80 n true a0.re)
   (z80 n (decide (y0.2>12)) a0.re)
def z80:Nat->Bool->zz1->Option Int
 |0,_,_=>none
 |n+1,a0,a1 =>
  pIf a0
   (some 4)
   ((zfe n a1.re).bind λy1 =>
   pIf (!y1)
    (some 8)
    (some 0))
end
def yq1:LSh:=⟨[(2,(.d (.int .i64)))],[],0,19⟩
noncomputable def zb4:FI dat:=FI.of dat 100 19 0 [(.d (.st 2))] [] [(.d (.int .i64))] [] true yq1 (R:=Int) (λx=>x.1) (λr=>(r,())) (λn x=>z48 n x.1)
 (λn=>[(0,⟨⟨[(1,(.ptr 0 0)),(15,(.d .bool))],[(.st 2)],0,19⟩,λx=>z80 n x.1 x.2.1⟩)]) (ann [(7,0)] (Tryz.f100.body.getD .skip) 0).1
noncomputable def yrs:List (FI dat):=[zef,zlc]
theorem yph:(zb4).Good Tryz.prog dat (tb yrs):=FI.yz4 (hD:=zz2 _) Tryz.func100 Tryz.ntmps100 Tryz.call100 (by kernel_rfl) (of_decide_eq_true (by kernel_rfl)) (by kernel_rfl) (λn=>by kernel_rfl) (λx=>by kernel_rfl) (λ_=>rfl) ⟨λ_=>rfl,trivial⟩
 (λn=>λx=>(z48.eq_2 x.1 n).trans (by kernel_rfl))
 (λn=>⟨λx=>(z80.eq_2 x.1 x.2.1 n).trans (by kernel_rfl),
  trivial⟩)
 (λx=>.inl rfl)
theorem ysr:OkL Tryz.prog [zb4]:=zz6 (zz2 _) (bs:=[zef,zlc]) ⟨ya4,yrc,trivial⟩ yph
theorem ztj:FOk Tryz.prog zb4:=ysr.1
def z9r:Nat->(List UInt8)->Option Bool
 |0,_=>none
 |n+1,a0 =>
  (z4e n a0).bind λy0 =>
  some (!y0)
def y64:LSh:=⟨[(2,(.d .bool))],[],0,6⟩
noncomputable def zeq:FI dat:=FI.of dat 101 6 0 [(.d .str)] [] [(.d .bool)] [] true y64 (R:=Bool) (λx=>x.1) (λr=>(r,())) (λn x=>z9r n x.1)
 (λn=>[]) (ann [] (Tryz.f101.body.getD .skip) 0).1
noncomputable def y7m:List (FI dat):=[z96]
theorem y5l:(zeq).Good Tryz.prog dat (tb y7m):=FI.yz4 (hD:=zz2 _) Tryz.func101 Tryz.ntmps101 Tryz.call101 (by kernel_rfl) (of_decide_eq_true (by kernel_rfl)) (by kernel_rfl) (λn=>by kernel_rfl) (λx=>by kernel_rfl) (λ_=>rfl) trivial
 (λn=>λx=>(z9r.eq_2 x.1 n).trans (by kernel_rfl))
 (λn=>trivial)
 (λx=>.inl rfl)
theorem y6j:OkL Tryz.prog [zeq]:=zz6 (zz2 _) (bs:=[z96]) ⟨zqb,trivial⟩ y5l
theorem y3y:FOk Tryz.prog zeq:=y6j.1
mutual
def yzy:Nat->(List (List UInt8))->Option Int
 |0,_=>none
 |n+1,a0 =>
  yzn n 0 a0 (a0.length:Int)
def yzn:Nat->Int->(List (List UInt8))->Int->Option Int
 |0,_,_,_=>none
 |n+1,a0,a1,a2 =>
  pIf (decide (a0<a2))
   ((ix a1 a0).bind λx0 =>
   (z9r n x0).bind λy1 =>
   pIf y1
    (some a0)
    (yzn n (IntKind.i64.wrap (a0+1)) a1 a2))
   (some (-1))
end
def zkh:LSh:=⟨[(4,(.d (.int .i64)))],[],0,19⟩
noncomputable def z02:FI dat:=FI.of dat 52 19 0 [(.d (.sl .str)),(.fn 101 [] [])] [] [(.d (.int .i64))] [] true zkh (R:=Int) (λx=>x.1) (λr=>(r,())) (λn x=>yzy n x.1)
 (λn=>[(0,⟨⟨[(8,(.d (.int .i64))),(0,(.d (.sl .str))),(1,(.fn 101 [] [])),(7,(.d (.int .i64)))],[],0,19⟩,λx=>yzn n x.1 x.2.1 x.2.2.1⟩)]) (ann [(6,0)] (Tryz.f52.body.getD .skip) 0).1
noncomputable def zkg:List (FI dat):=[zeq]
theorem zkf:(z02).Good Tryz.prog dat (tb zkg):=FI.yz4 (hD:=zz2 _) Tryz.func52 Tryz.ntmps52 Tryz.call52 (by kernel_rfl) (of_decide_eq_true (by kernel_rfl)) (by kernel_rfl) (λn=>by kernel_rfl) (λx=>by kernel_rfl) (λ_=>rfl) ⟨λ_=>rfl,trivial⟩
 (λn=>λx=>(yzy.eq_2 x.1 n).trans (by kernel_rfl))
 (λn=>⟨λx=>(yzn.eq_2 x.1 x.2.1 x.2.2.1 n).trans (by kernel_rfl),
  trivial⟩)
 (λx=>.inl rfl)
theorem zjx:OkL Tryz.prog [z02]:=zz6 (zz2 _) (bs:=[zeq]) ⟨y3y,trivial⟩ zkf
theorem zix:FOk Tryz.prog z02:=zjx.1
def yzm:Nat->(List (List UInt8))->Option Bool
 |0,_=>none
 |n+1,a0 =>
  (yzy n a0).bind λy0 =>
  some (decide (y0>=0))
def zhr:LSh:=⟨[(4,(.d .bool))],[],0,9⟩
noncomputable def kzv:FI dat:=FI.of dat 22 9 0 [(.d (.sl .str)),(.fn 101 [] [])] [] [(.d .bool)] [] true zhr (R:=Bool) (λx=>x.1) (λr=>(r,())) (λn x=>yzm n x.1)
 (λn=>[]) (ann [] (Tryz.f22.body.getD .skip) 0).1
noncomputable def zhf:List (FI dat):=[z02]
theorem zh9:(kzv).Good Tryz.prog dat (tb zhf):=FI.yz4 (hD:=zz2 _) Tryz.func22 Tryz.ntmps22 Tryz.call22 (by kernel_rfl) (of_decide_eq_true (by kernel_rfl)) (by kernel_rfl) (λn=>by kernel_rfl) (λx=>by kernel_rfl) (λ_=>rfl) trivial
 (λn=>λx=>(yzm.eq_2 x.1 n).trans (by kernel_rfl))
 (λn=>trivial)
 (λx=>.inl rfl)
theorem zhw:OkL Tryz.prog [kzv]:=zz6 (zz2 _) (bs:=[z02]) ⟨zix,trivial⟩ zh9
theorem zgp:FOk Tryz.prog kzv:=zhw.1
def zdr:Nat->(List zz1)->Option zz1
 |0,_=>none
 |n+1,a0 =>
  some (zz1.mk 18 (yz2.mk 0 (kz6.mk 0 0) false [] []) [] a0)
def yoj:LSh:=⟨[(2,(.ptr 0 0))],[(.st 2)],0,5⟩
noncomputable def zmc:FI dat:=FI.of dat 133 5 0 [(.d (.sl (.st 2)))] [] [(.d (.st 2))] [] true yoj (R:=zz1) (λx=>x.1) (λr=>(r,())) (λn x=>zdr n x.1)
 (λn=>[]) (ann [] (Tryz.f133.body.getD .skip) 0).1
noncomputable def ysy:List (FI dat):=[]
theorem yok:(zmc).Good Tryz.prog dat (tb ysy):=FI.yz4 (hD:=zz2 _) Tryz.func133 Tryz.ntmps133 Tryz.call133 (by kernel_rfl) (of_decide_eq_true (by kernel_rfl)) (by kernel_rfl) (λn=>by kernel_rfl) (λx=>by kernel_rfl) (λ_=>rfl) trivial
 (λn=>λx=>(zdr.eq_2 x.1 n).trans (by kernel_rfl))
 (λn=>trivial)
 (λx=>.inl rfl)
theorem ypn:OkL Tryz.prog [zmc]:=zz6 (zz2 _) (bs:=[]) trivial yok
theorem yhr:FOk Tryz.prog zmc:=ypn.1
mutual
def zcp:Nat->Int->Option Int
 |0,_=>none
 |n+1,a0 =>
  pIf (a0==2)
   (zaq n a0 true)
   (zaq n a0 (a0==3))
def zaq:Nat->Int->Bool->Option Int
 |0,_,_=>none
 |n+1,a0,a1 =>
  pIf a1
   (some 3)
   (pIf (a0==4)
     (zaa n true)
     (zaa n (a0==6)))
def zaa:Nat->Bool->Option Int
 |0,_=>none
 |n+1,a0 =>
  pIf a0
   (some 1)
   (some 0)
end
def yvt:LSh:=⟨[(2,(.d (.int .i64)))],[],0,10⟩
noncomputable def zi7:FI dat:=FI.of dat 91 10 0 [(.d (.int .u8))] [] [(.d (.int .i64))] [] true yvt (R:=Int) (λx=>x.1) (λr=>(r,())) (λn x=>zcp n x.1)
 (λn=>[(0,⟨⟨[(3,(.d (.int .u8))),(4,(.d .bool))],[],0,10⟩,λx=>zaq n x.1 x.2.1⟩),(1,⟨⟨[(7,(.d .bool))],[],0,10⟩,λx=>zaa n x.1⟩)]) (ann [(12,0),(22,1)] (Tryz.f91.body.getD .skip) 0).1
noncomputable def yx1:List (FI dat):=[]
theorem yug:(zi7).Good Tryz.prog dat (tb yx1):=FI.yz4 (hD:=zz2 _) Tryz.func91 Tryz.ntmps91 Tryz.call91 (by kernel_rfl) (of_decide_eq_true (by kernel_rfl)) (by kernel_rfl) (λn=>by kernel_rfl) (λx=>by kernel_rfl) (λ_=>rfl) ⟨λ_=>rfl,λ_=>rfl,trivial⟩
 (λn=>λx=>(zcp.eq_2 x.1 n).trans (by kernel_rfl))
 (λn=>⟨λx=>(zaq.eq_2 x.1 x.2.1 n).trans (by kernel_rfl),
  λx=>(zaa.eq_2 x.1 n).trans (by kernel_rfl),
  trivial⟩)
 (λx=>.inl rfl)
theorem yuv:OkL Tryz.prog [zi7]:=zz6 (zz2 _) (bs:=[]) trivial yug
theorem y39:FOk Tryz.prog zi7:=yuv.1
mutual
def z7b:Nat->zz3->Option Bool
 |0,_=>none
 |n+1,a0 =>
  pIf (decide (a0.kind>=1))
   (z1j n (decide (a0.kind<=4)) a0)
   (z1j n false a0)
def z1j:Nat->Bool->zz3->Option Bool
 |0,_,_=>none
 |n+1,a0,a1 =>
  pIf (a1.kind==4)
   (z1i n a0 0 true a1)
   (z1i n a0 0 (a1.kind==5) a1)
def z1i:Nat->Bool->Int->Bool->zz3->Option Bool
 |0,_,_,_,_=>none
 |n+1,a0,a1,a2,a3 =>
  pIf a2
   (z1h n a0 2 a3)
   (z1h n a0 a1 a3)
def z1h:Nat->Bool->Int->zz3->Option Bool
 |0,_,_,_=>none
 |n+1,a0,a1,a2 =>
  pIf (decide (a2.kind<1))
   (z0n n a0 true a2)
   (pIf (decide (a2.kind>6))
     (z0n n a0 true a2)
     (z0n n a0 (decide (a2.axis>a1)) a2))
def z0n:Nat->Bool->Bool->zz3->Option Bool
 |0,_,_,_=>none
 |n+1,a0,a1,a2 =>
  pIf a1
   (some false)
   ((z4e n a2.name).bind λy0 =>
   pIf (!(a0==y0))
    (z0m n a0 true a2)
    (pIf (!a0)
      (z0m n a0 (!(a2.name==[])) a2)
      (z0m n a0 false a2)))
def z0m:Nat->Bool->Bool->zz3->Option Bool
 |0,_,_,_=>none
 |n+1,a0,a1,a2 =>
  pIf a1
   (some false)
   ((zdr n a2.args).bind λy1 =>
   (z48 n y1.re).bind λy2 =>
   pIf (y2 != 0)
    (kzz n true a2)
    ((zcp n a2.kind).bind λy3 =>
    pIf (decide ((a2.args.length:Int)<y3))
     (kzz n true a2)
     (pIf (!a0)
       ((zcp n a2.kind).bind λy4 =>
       kzz n ((a2.args.length:Int) != y4) a2)
       (kzz n false a2))))
def kzz:Nat->Bool->zz3->Option Bool
 |0,_,_=>none
 |n+1,a0,a1 =>
  pIf a0
   (some false)
   (pIf (!((a1.kind==5)==(decide ((a1.items.length:Int)>0))))
     (some false)
     (z0o n 0 a1.items (a1.items.length:Int)))
def z0o:Nat->Int->(List yza)->Int->Option Bool
 |0,_,_,_=>none
 |n+1,a0,a1,a2 =>
  pIf (decide (a0<a2))
   ((ix a1 a0).bind λx5 =>
   pIf (decide (x5.kind<1))
    (yzu n a1 a2 a0 true)
    (pIf (decide (x5.kind>3))
      (yzu n a1 a2 a0 true)
      ((z4e n x5.name).bind λy6 =>
      pIf (!y6)
       (yzu n a1 a2 a0 true)
       (pIf ((x5.args.length:Int)==0)
         (yzu n a1 a2 a0 true)
         ((zdr n x5.args).bind λy7 =>
         (z48 n y7.re).bind λy8 =>
         yzu n a1 a2 a0 (y8 != 0))))))
   (some true)
def yzu:Nat->(List yza)->Int->Int->Bool->Option Bool
 |0,_,_,_,_=>none
 |n+1,a0,a1,a2,a3 =>
  pIf a3
   (some false)
   (z0o n (IntKind.i64.wrap (a2+1)) a0 a1)
end
def y2g:LSh:=⟨[(2,(.d .bool))],[],0,125⟩
noncomputable def zbo:FI dat:=FI.of dat 102 125 0 [(.d (.st 5))] [] [(.d .bool)] [] true y2g (R:=Bool) (λx=>x.1) (λr=>(r,())) (λn x=>z7b n x.1)
 (λn=>[(0,⟨⟨[(1,(.ptr 0 0)),(3,(.d .bool))],[(.st 5)],0,125⟩,λx=>z1j n x.1 x.2.1⟩),(1,⟨⟨[(1,(.ptr 0 0)),(3,(.d .bool)),(4,(.d (.int .u8))),(22,(.d .bool))],[(.st 5)],0,125⟩,λx=>z1i n x.1 x.2.1 x.2.2.1 x.2.2.2.1⟩),(2,⟨⟨[(1,(.ptr 0 0)),(3,(.d .bool)),(4,(.d (.int .u8)))],[(.st 5)],0,125⟩,λx=>z1h n x.1 x.2.1 x.2.2.1⟩),(3,⟨⟨[(1,(.ptr 0 0)),(3,(.d .bool)),(23,(.d .bool))],[(.st 5)],0,125⟩,λx=>z0n n x.1 x.2.1 x.2.2.1⟩),(4,⟨⟨[(1,(.ptr 0 0)),(3,(.d .bool)),(38,(.d .bool))],[(.st 5)],0,125⟩,λx=>z0m n x.1 x.2.1 x.2.2.1⟩),(5,⟨⟨[(1,(.ptr 0 0)),(53,(.d .bool))],[(.st 5)],0,125⟩,λx=>kzz n x.1 x.2.1⟩),(6,⟨⟨[(93,(.d (.int .i64))),(91,(.d (.sl (.st 4)))),(92,(.d (.int .i64)))],[],0,125⟩,λx=>z0o n x.1 x.2.1 x.2.2.1⟩),(7,⟨⟨[(91,(.d (.sl (.st 4)))),(92,(.d (.int .i64))),(93,(.d (.int .i64))),(123,(.d .bool))],[],0,125⟩,λx=>yzu n x.1 x.2.1 x.2.2.1 x.2.2.2.1⟩)]) (ann [(4,0),(9,1),(12,2),(16,3),(22,4),(28,5),(43,6),(56,7)] (Tryz.f102.body.getD .skip) 0).1
noncomputable def y35:List (FI dat):=[z96,zmc,zb4,zi7]
theorem y32:(zbo).Good Tryz.prog dat (tb y35):=FI.yz4 (hD:=zz2 _) Tryz.func102 Tryz.ntmps102 Tryz.call102 (by kernel_rfl) (of_decide_eq_true (by kernel_rfl)) (by kernel_rfl) (λn=>by kernel_rfl) (λx=>by kernel_rfl) (λ_=>rfl) ⟨λ_=>rfl,λ_=>rfl,λ_=>rfl,λ_=>rfl,λ_=>rfl,λ_=>rfl,λ_=>rfl,λ_=>rfl,trivial⟩
 (λn=>λx=>(z7b.eq_2 x.1 n).trans (by kernel_rfl))
 (λn=>⟨λx=>(z1j.eq_2 x.1 x.2.1 n).trans (by kernel_rfl),
  λx=>(z1i.eq_2 x.1 x.2.1 x.2.2.1 x.2.2.2.1 n).trans (by kernel_rfl),
  λx=>(z1h.eq_2 x.1 x.2.1 x.2.2.1 n).trans (by kernel_rfl),
  λx=>(z0n.eq_2 x.1 x.2.1 x.2.2.1 n).trans (by kernel_rfl),
  λx=>(z0m.eq_2 x.1 x.2.1 x.2.2.1 n).trans (by kernel_rfl),
  λx=>(kzz.eq_2 x.1 x.2.1 n).trans (by kernel_rfl),
  λx=>(z0o.eq_2 x.1 x.2.1 x.2.2.1 n).trans (by kernel_rfl),
  λx=>(yzu.eq_2 x.1 x.2.1 x.2.2.1 x.2.2.2.1 n).trans (by kernel_rfl),
  trivial⟩)
 (λx=>.inl rfl)
theorem y1u:OkL Tryz.prog [zbo]:=zz6 (zz2 _) (bs:=[z96,zmc,zb4,zi7]) ⟨zqb,yhr,ztj,y39,trivial⟩ y32
theorem y0h:FOk Tryz.prog zbo:=y1u.1
end Go.Proofs.YtahcjggdcmgpkaaGreat
namespace Go.Proofs.YtahcjggdcmgpkaaGreat
open Go Go.Ab
set_option linter.unusedVariables false
set_option maxRecDepth 100000
set_option maxHeartbeats 4000000
mutual
def zcj:Nat->zz0->Option Bool
 |0,_=>none
 |n+1,a0 =>
  z30 n 0 a0.attrs (a0.attrs.length:Int) a0
def z30:Nat->Int->(List zz7)->Int->zz0->Option Bool
 |0,_,_,_,_=>none
 |n+1,a0,a1,a2,a3 =>
  pIf (decide (a0<a2))
   ((ix a1 a0).bind λx0 =>
   (z4e n x0.name).bind λy1 =>
   pIf (!y1)
    (z4x n a1 a2 a0 true a3)
    ((z48 n x0.value.re).bind λy2 =>
    z4x n a1 a2 a0 (y2 != 0) a3))
   (z2s n 0 a3.rules (a3.rules.length:Int))
def z4x:Nat->(List zz7)->Int->Int->Bool->zz0->Option Bool
 |0,_,_,_,_,_=>none
 |n+1,a0,a1,a2,a3,a4 =>
  pIf a3
   (some false)
   (z30 n (IntKind.i64.wrap (a2+1)) a0 a1 a4)
def z2s:Nat->Int->(List kz4)->Int->Option Bool
 |0,_,_,_=>none
 |n+1,a0,a1,a2 =>
  pIf (decide (a0<a2))
   ((ix a1 a0).bind λx3 =>
   (z4e n x3.name).bind λy4 =>
   pIf (!y4)
    (z54 n a1 a2 a0 true x3)
    ((yzm n x3.params).bind λy5 =>
    z54 n a1 a2 a0 y5 x3))
   (some true)
def z54:Nat->(List kz4)->Int->Int->Bool->kz4->Option Bool
 |0,_,_,_,_,_=>none
 |n+1,a0,a1,a2,a3,a4 =>
  pIf a3
   (some false)
   (z2l n 0 a4.cases a0 a1 a2 (a4.cases.length:Int))
def z2l:Nat->Int->(List kz5)->(List kz4)->Int->Int->Int->Option Bool
 |0,_,_,_,_,_,_=>none
 |n+1,a0,a1,a2,a3,a4,a5 =>
  pIf (decide (a0<a5))
   ((ix a1 a0).bind λx6 =>
   pIf (decide (x6.weight<1))
    (z32 n a1 a2 a3 a4 a5 a0 true x6.re)
    (pIf (decide (x6.weight>1000000))
      (z32 n a1 a2 a3 a4 a5 a0 true x6.re)
      ((z48 n x6.when_.re).bind λy7 =>
      z32 n a1 a2 a3 a4 a5 a0 (y7 != 0) x6.re)))
   (z2s n (IntKind.i64.wrap (a4+1)) a2 a3)
def z32:Nat->(List kz5)->(List kz4)->Int->Int->Int->Int->Bool->kz5->Option Bool
 |0,_,_,_,_,_,_,_,_=>none
 |n+1,a0,a1,a2,a3,a4,a5,a6,a7 =>
  pIf a6
   (some false)
   (z2t n 0 a7.do_ a0 a1 a2 a3 a4 a5 (a7.do_.length:Int))
def z2t:Nat->Int->(List zz3)->(List kz5)->(List kz4)->Int->Int->Int->Int->Int->Option Bool
 |0,_,_,_,_,_,_,_,_,_=>none
 |n+1,a0,a1,a2,a3,a4,a5,a6,a7,a8 =>
  pIf (decide (a0<a8))
   ((ix a1 a0).bind λx8 =>
   (z7b n x8).bind λy9 =>
   pIf (!y9)
    (some false)
    (z2t n (IntKind.i64.wrap (a0+1)) a1 a2 a3 a4 a5 a6 a7 a8))
   (z2l n (IntKind.i64.wrap (a7+1)) a2 a3 a4 a5 a6)
end
def ydo:LSh:=⟨[(2,(.d .bool))],[],0,79⟩
noncomputable def zi0:FI dat:=FI.of dat 57 79 0 [(.d (.st 8))] [] [(.d .bool)] [] true ydo (R:=Bool) (λx=>x.1) (λr=>(r,())) (λn x=>zcj n x.1)
 (λn=>[(0,⟨⟨[(14,(.d (.int .i64))),(12,(.d (.sl (.st 3)))),(1,(.ptr 0 0)),(13,(.d (.int .i64)))],[(.st 8)],0,79⟩,λx=>z30 n x.1 x.2.1 x.2.2.1 x.2.2.2.1⟩),(1,⟨⟨[(12,(.d (.sl (.st 3)))),(1,(.ptr 0 0)),(13,(.d (.int .i64))),(14,(.d (.int .i64))),(27,(.d .bool))],[(.st 8)],0,79⟩,λx=>z4x n x.1 x.2.1 x.2.2.1 x.2.2.2.1 x.2.2.2.2.1⟩),(2,⟨⟨[(32,(.d (.int .i64))),(30,(.d (.sl (.st 7)))),(31,(.d (.int .i64)))],[],0,79⟩,λx=>z2s n x.1 x.2.1 x.2.2.1⟩),(3,⟨⟨[(30,(.d (.sl (.st 7)))),(31,(.d (.int .i64))),(32,(.d (.int .i64))),(6,(.ptr 0 0)),(44,(.d .bool))],[(.st 7)],0,79⟩,λx=>z54 n x.1 x.2.1 x.2.2.1 x.2.2.2.1 x.2.2.2.2.1⟩),(4,⟨⟨[(48,(.d (.int .i64))),(46,(.d (.sl (.st 6)))),(30,(.d (.sl (.st 7)))),(31,(.d (.int .i64))),(32,(.d (.int .i64))),(47,(.d (.int .i64)))],[],0,79⟩,λx=>z2l n x.1 x.2.1 x.2.2.1 x.2.2.2.1 x.2.2.2.2.1 x.2.2.2.2.2.1⟩),(5,⟨⟨[(46,(.d (.sl (.st 6)))),(30,(.d (.sl (.st 7)))),(31,(.d (.int .i64))),(32,(.d (.int .i64))),(47,(.d (.int .i64))),(48,(.d (.int .i64))),(8,(.ptr 0 0)),(65,(.d .bool))],[(.st 6)],0,79⟩,λx=>z32 n x.1 x.2.1 x.2.2.1 x.2.2.2.1 x.2.2.2.2.1 x.2.2.2.2.2.1 x.2.2.2.2.2.2.1 x.2.2.2.2.2.2.2.1⟩),(6,⟨⟨[(69,(.d (.int .i64))),(67,(.d (.sl (.st 5)))),(46,(.d (.sl (.st 6)))),(30,(.d (.sl (.st 7)))),(31,(.d (.int .i64))),(32,(.d (.int .i64))),(47,(.d (.int .i64))),(48,(.d (.int .i64))),(68,(.d (.int .i64)))],[],0,79⟩,λx=>z2t n x.1 x.2.1 x.2.2.1 x.2.2.2.1 x.2.2.2.2.1 x.2.2.2.2.2.1 x.2.2.2.2.2.2.1 x.2.2.2.2.2.2.2.1 x.2.2.2.2.2.2.2.2.1⟩)]) (ann [(6,0),(19,1),(29,2),(43,3),(51,4),(65,5),(73,6)] (Tryz.f57.body.getD .skip) 0).1
noncomputable def ych:List (FI dat):=[z96,zb4,kzv,zbo]
theorem yf9:(zi0).Good Tryz.prog dat (tb ych):=FI.yz4 (hD:=zz2 _) Tryz.func57 Tryz.ntmps57 Tryz.call57 (by kernel_rfl) (of_decide_eq_true (by kernel_rfl)) (by kernel_rfl) (λn=>by kernel_rfl) (λx=>by kernel_rfl) (λ_=>rfl) ⟨λ_=>rfl,λ_=>rfl,λ_=>rfl,λ_=>rfl,λ_=>rfl,λ_=>rfl,λ_=>rfl,trivial⟩
 (λn=>λx=>(zcj.eq_2 x.1 n).trans (by kernel_rfl))
 (λn=>⟨λx=>(z30.eq_2 x.1 x.2.1 x.2.2.1 x.2.2.2.1 n).trans (by kernel_rfl),
  λx=>(z4x.eq_2 x.1 x.2.1 x.2.2.1 x.2.2.2.1 x.2.2.2.2.1 n).trans (by kernel_rfl),
  λx=>(z2s.eq_2 x.1 x.2.1 x.2.2.1 n).trans (by kernel_rfl),
  λx=>(z54.eq_2 x.1 x.2.1 x.2.2.1 x.2.2.2.1 x.2.2.2.2.1 n).trans (by kernel_rfl),
  λx=>(z2l.eq_2 x.1 x.2.1 x.2.2.1 x.2.2.2.1 x.2.2.2.2.1 x.2.2.2.2.2.1 n).trans (by kernel_rfl),
  λx=>(z32.eq_2 x.1 x.2.1 x.2.2.1 x.2.2.2.1 x.2.2.2.2.1 x.2.2.2.2.2.1 x.2.2.2.2.2.2.1 x.2.2.2.2.2.2.2.1 n).trans (by kernel_rfl),
  λx=>(z2t.eq_2 x.1 x.2.1 x.2.2.1 x.2.2.2.1 x.2.2.2.2.1 x.2.2.2.2.2.1 x.2.2.2.2.2.2.1 x.2.2.2.2.2.2.2.1 x.2.2.2.2.2.2.2.2.1 n).trans (by kernel_rfl),
  trivial⟩)
 (λx=>.inl rfl)
theorem ydr:OkL Tryz.prog [zi0]:=zz6 (zz2 _) (bs:=[z96,zb4,kzv,zbo]) ⟨zqb,ztj,zgp,y0h,trivial⟩ yf9
theorem y9a:FOk Tryz.prog zi0:=ydr.1
mutual
def zzx:Nat->(List UInt8)->(List (List UInt8))->Option (Int×(List (List UInt8)))
 |0,_,_=>none
 |n+1,a0,a1 =>
  zzm n 0 a0 (a1.length:Int) a1
def zzm:Nat->Int->(List UInt8)->Int->(List (List UInt8))->Option (Int×(List (List UInt8)))
 |0,_,_,_,_=>none
 |n+1,a0,a1,a2,a3 =>
  pIf (decide (a0<a2))
   ((ix a3 a0).bind λx0 =>
   pIf (a1==x0)
    (some (a0,a3))
    (zzm n (IntKind.i64.wrap (a0+1)) a1 a2 a3))
   (some ((-1),a3))
end
def zn1:LSh:=⟨[(4,(.d (.int .i64)))],[(.acc 9 .str true)],1,19⟩
noncomputable def z0t:FI dat:=FI.of dat 59 19 1 [(.own 0),(.d .str)] [(.acc 9 .str true)] [(.d (.int .i64))] [(.acc 9 .str true)] false zn1 (R:=Int×(List (List UInt8))) (λx=>(x.1,x.2.1)) (λr=>(r.1,r.2,())) (λn x=>zzx n x.1 x.2.1)
 (λn=>[(0,⟨⟨[(8,(.d (.int .i64))),(0,(.own 0)),(1,(.d .str)),(7,(.d (.int .i64)))],[(.acc 9 .str true)],1,19⟩,λx=>zzm n x.1 x.2.1 x.2.2.1 x.2.2.2.1⟩)]) (ann [(6,0)] (Tryz.f59.body.getD .skip) 0).1
noncomputable def zn2:List (FI dat):=[]
theorem zn6:(z0t).Good Tryz.prog dat (tb zn2):=FI.yz4 (hD:=zz2 _) Tryz.func59 Tryz.ntmps59 Tryz.call59 (by kernel_rfl) (of_decide_eq_true (by kernel_rfl)) (by kernel_rfl) (λn=>by kernel_rfl) (λx=>by kernel_rfl) (λ_=>rfl) ⟨λ_=>rfl,trivial⟩
 (λn=>λx=>(zzx.eq_2 x.1 x.2.1 n).trans (by kernel_rfl))
 (λn=>⟨λx=>(zzm.eq_2 x.1 x.2.1 x.2.2.1 x.2.2.2.1 n).trans (by kernel_rfl),
  trivial⟩)
 (λx=>.inr (by kernel_rfl))
theorem zn7:OkL Tryz.prog [z0t]:=zz6 (zz2 _) (bs:=[]) trivial zn6
theorem zlt:FOk Tryz.prog z0t:=zn7.1
def kzq:Nat->(List UInt8)->(List (List UInt8))->Option (Bool×(List (List UInt8)))
 |0,_,_=>none
 |n+1,a0,a1 =>
  (zzx n a0 a1).bind λy0 =>
  some ((decide (y0.1>=0)),y0.2)
def zks:LSh:=⟨[(4,(.d .bool))],[(.acc 9 .str true)],1,9⟩
noncomputable def z0a:FI dat:=FI.of dat 130 9 1 [(.own 0),(.d .str)] [(.acc 9 .str true)] [(.d .bool)] [(.acc 9 .str true)] false zks (R:=Bool×(List (List UInt8))) (λx=>(x.1,x.2.1)) (λr=>(r.1,r.2,())) (λn x=>kzq n x.1 x.2.1)
 (λn=>[]) (ann [] (Tryz.f130.body.getD .skip) 0).1
noncomputable def zkx:List (FI dat):=[z0t]
theorem zku:(z0a).Good Tryz.prog dat (tb zkx):=FI.yz4 (hD:=zz2 _) Tryz.func130 Tryz.ntmps130 Tryz.call130 (by kernel_rfl) (of_decide_eq_true (by kernel_rfl)) (by kernel_rfl) (λn=>by kernel_rfl) (λx=>by kernel_rfl) (λ_=>rfl) trivial
 (λn=>λx=>(kzq.eq_2 x.1 x.2.1 n).trans (by kernel_rfl))
 (λn=>trivial)
 (λx=>.inr (by kernel_rfl))
theorem zkw:OkL Tryz.prog [z0a]:=zz6 (zz2 _) (bs:=[z0t]) ⟨zlt,trivial⟩ zku
theorem zka:FOk Tryz.prog z0a:=zkw.1
mutual
def zd9:Nat->zz1->(List (List UInt8))->Option (List (List UInt8))
 |0,_,_=>none
 |n+1,a0,a1 =>
  pIf (a0.op==2)
   ((kzq n a0.name a1).bind λy0 =>
   zbj n (!y0.1) y0.2 a0.re)
   (zbj n false a1 a0.re)
def zbj:Nat->Bool->(List (List UInt8))->zz1->Option (List (List UInt8))
 |0,_,_,_=>none
 |n+1,a0,a1,a2 =>
  pIf a0
   ((ext a1 [a2.name]).bind λx1 =>
   z8i n x1 a2.re)
   (z8i n a1 a2.re)
def z8i:Nat->(List (List UInt8))->zz1->Option (List (List UInt8))
 |0,_,_=>none
 |n+1,a0,a1 =>
  z82 n 0 a1.args (a1.args.length:Int) a0
def z82:Nat->Int->(List zz1)->Int->(List (List UInt8))->Option (List (List UInt8))
 |0,_,_,_,_=>none
 |n+1,a0,a1,a2,a3 =>
  pIf (decide (a0<a2))
   ((ix a1 a0).bind λx2 =>
   (zd9 n x2.re a3).bind λy3 =>
   z82 n (IntKind.i64.wrap (a0+1)) a1 a2 y3)
   (some a3)
end
def ys3:LSh:=⟨[],[(.cells [(.own 1)]),(.acc 9 .str true)],1,38⟩
noncomputable def zis:FI dat:=FI.of dat 106 38 1 [(.d (.st 2)),(.ptr 0 0)] [(.cells [(.own 1)]),(.acc 9 .str true)] [] [(.cells [(.own 1)]),(.acc 9 .str true)] false ys3 (R:=List (List UInt8)) (λx=>x.1) (λr=>(r,())) (λn x=>zd9 n x.1 x.2.1)
 (λn=>[(0,⟨⟨[(1,(.ptr 0 0)),(2,(.ptr 2 0)),(17,(.d .bool))],[(.cells [(.own 1)]),(.acc 9 .str true),(.st 2)],1,38⟩,λx=>zbj n x.1 x.2.1 x.2.2.1⟩),(1,⟨⟨[(1,(.ptr 0 0)),(2,(.ptr 2 0))],[(.cells [(.own 1)]),(.acc 9 .str true),(.st 2)],1,38⟩,λx=>z8i n x.1 x.2.1⟩),(2,⟨⟨[(30,(.d (.int .i64))),(1,(.ptr 0 0)),(28,(.d (.sl (.st 2)))),(29,(.d (.int .i64)))],[(.cells [(.own 1)]),(.acc 9 .str true)],1,38⟩,λx=>z82 n x.1 x.2.1 x.2.2.1 x.2.2.2.1⟩)]) (ann [(5,0),(8,1),(11,2)] (Tryz.f106.body.getD .skip) 0).1
noncomputable def yoc:List (FI dat):=[zis]++[z0a]
theorem yqm:(zis).Good Tryz.prog dat (tb yoc):=FI.yz4 (hD:=zz2 _) Tryz.func106 Tryz.ntmps106 Tryz.call106 (by kernel_rfl) (of_decide_eq_true (by kernel_rfl)) (by kernel_rfl) (λn=>by kernel_rfl) (λx=>by kernel_rfl) (λ_=>rfl) ⟨λ_=>rfl,λ_=>rfl,λ_=>rfl,trivial⟩
 (λn=>λx=>(zd9.eq_2 x.1 x.2.1 n).trans (by kernel_rfl))
 (λn=>⟨λx=>(zbj.eq_2 x.1 x.2.1 x.2.2.1 n).trans (by kernel_rfl),
  λx=>(z8i.eq_2 x.1 x.2.1 n).trans (by kernel_rfl),
  λx=>(z82.eq_2 x.1 x.2.1 x.2.2.1 x.2.2.2.1 n).trans (by kernel_rfl),
  trivial⟩)
 (λx=>.inr (by kernel_rfl))
theorem yqr:OkL Tryz.prog [zis]:=zc5 (zz2 _) (bs:=[z0a]) ⟨zka,trivial⟩ ⟨yqm,trivial⟩
theorem yhm:FOk Tryz.prog zis:=yqr.1
def zdb:Nat->zz1->Option ((List (List UInt8))×Int)
 |0,_=>none
 |n+1,a0 =>
  (z48 n a0.re).bind λy0 =>
  pIf (y0 != 0)
   (some ([],y0))
   ((zd9 n a0.re []).bind λy1 =>
   (z0k n y1).bind λy2 =>
   some (y2,0))
def you:LSh:=⟨[(2,(.d (.sl .str))),(3,(.d (.int .i64)))],[],0,16⟩
noncomputable def zfb:FI dat:=FI.of dat 68 16 0 [(.d (.st 2))] [] [(.d (.sl .str)),(.d (.int .i64))] [] true you (R:=(List (List UInt8))×Int) (λx=>(x.1,x.2.1)) (λr=>(r.1,r.2,())) (λn x=>zdb n x.1)
 (λn=>[]) (ann [] (Tryz.f68.body.getD .skip) 0).1
noncomputable def yrp:List (FI dat):=[zis,z2d,zb4]
theorem yoy:(zfb).Good Tryz.prog dat (tb yrp):=FI.yz4 (hD:=zz2 _) Tryz.func68 Tryz.ntmps68 Tryz.call68 (by kernel_rfl) (of_decide_eq_true (by kernel_rfl)) (by kernel_rfl) (λn=>by kernel_rfl) (λx=>by kernel_rfl) (λ_=>rfl) trivial
 (λn=>λx=>(zdb.eq_2 x.1 n).trans (by kernel_rfl))
 (λn=>trivial)
 (λx=>.inl rfl)
theorem ypv:OkL Tryz.prog [zfb]:=zz6 (zz2 _) (bs:=[zis,z2d,zb4]) ⟨yhm,zfs,ztj,trivial⟩ yoy
theorem y17:FOk Tryz.prog zfb:=ypv.1
def zcf:Nat->(List UInt8)->(List (List UInt8))->(List Bool)->Option (Bool×(List (List UInt8))×(List Bool))
 |0,_,_,_=>none
 |n+1,a0,a1,a2 =>
  some ((!(Option.getD (z3p (List.zip a1 a2) a0) false)),(mks (List.zip a1 a2)),(mvs (List.zip a1 a2)))
def yc4:LSh:=⟨[(3,(.d .bool))],[(.cells [(.map 1)]),(.mp 55 .bool)],2,8⟩
noncomputable def zi3:FI dat:=FI.of dat 103 8 2 [(.d .str),(.ptr 0 0)] [(.cells [(.map 1)]),(.mp 55 .bool)] [(.d .bool)] [(.cells [(.map 1)]),(.mp 55 .bool)] false yc4 (R:=Bool×(List (List UInt8))×(List Bool)) (λx=>(x.1,x.2.1,x.2.2.1)) (λr=>(r.1,r.2.1,r.2.2,())) (λn x=>zcf n x.1 x.2.1 x.2.2.1)
 (λn=>[]) (ann [] (Tryz.f103.body.getD .skip) 0).1
noncomputable def yft:List (FI dat):=[]
theorem yev:(zi3).Good Tryz.prog dat (tb yft):=FI.yz4 (hD:=zz2 _) Tryz.func103 Tryz.ntmps103 Tryz.call103 (by kernel_rfl) (of_decide_eq_true (by kernel_rfl)) (by kernel_rfl) (λn=>by kernel_rfl) (λx=>by kernel_rfl) (λ_=>rfl) trivial
 (λn=>λx=>(zcf.eq_2 x.1 x.2.1 x.2.2.1 n).trans (by kernel_rfl))
 (λn=>trivial)
 (λx=>.inr (by kernel_rfl))
theorem ybm:OkL Tryz.prog [zi3]:=zz6 (zz2 _) (bs:=[]) trivial yev
theorem y9k:FOk Tryz.prog zi3:=ybm.1
mutual
def kzy:Nat->(List (List UInt8))->(List (List UInt8))->(List Bool)->Option (Int×(List (List UInt8))×(List Bool))
 |0,_,_,_=>none
 |n+1,a0,a1,a2 =>
  yzf n 0 a0 (a0.length:Int) (mks (List.zip a1 a2)) (mvs (List.zip a1 a2))
def yzf:Nat->Int->(List (List UInt8))->Int->(List (List UInt8))->(List Bool)->Option (Int×(List (List UInt8))×(List Bool))
 |0,_,_,_,_,_=>none
 |n+1,a0,a1,a2,a3,a4 =>
  pIf (decide (a0<a2))
   ((ix a1 a0).bind λx0 =>
   (zcf n x0 (mks (List.zip a3 a4)) (mvs (List.zip a3 a4))).bind λy1 =>
   pIf y1.1
    (some (a0,(mks (List.zip y1.2.1 y1.2.2)),(mvs (List.zip y1.2.1 y1.2.2))))
    (yzf n (IntKind.i64.wrap (a0+1)) a1 a2 (mks (List.zip y1.2.1 y1.2.2)) (mvs (List.zip y1.2.1 y1.2.2))))
   (some ((-1),(mks (List.zip a3 a4)),(mvs (List.zip a3 a4))))
end
def zk0:LSh:=⟨[(4,(.d (.int .i64)))],[(.cells [(.map 1)]),(.mp 55 .bool)],2,19⟩
noncomputable def z04:FI dat:=FI.of dat 52 19 2 [(.d (.sl .str)),(.fn 103 [] [(.ptr 0 0)])] [(.cells [(.map 1)]),(.mp 55 .bool)] [(.d (.int .i64))] [(.cells [(.map 1)]),(.mp 55 .bool)] false zk0 (R:=Int×(List (List UInt8))×(List Bool)) (λx=>(x.1,x.2.1,x.2.2.1)) (λr=>(r.1,r.2.1,r.2.2,())) (λn x=>kzy n x.1 x.2.1 x.2.2.1)
 (λn=>[(0,⟨⟨[(8,(.d (.int .i64))),(0,(.d (.sl .str))),(1,(.fn 103 [] [(.ptr 0 0)])),(7,(.d (.int .i64)))],[(.cells [(.map 1)]),(.mp 55 .bool)],2,19⟩,λx=>yzf n x.1 x.2.1 x.2.2.1 x.2.2.2.1 x.2.2.2.2.1⟩)]) (ann [(6,0)] (Tryz.f52.body.getD .skip) 0).1
noncomputable def zk1:List (FI dat):=[zi3]
theorem zjl:(z04).Good Tryz.prog dat (tb zk1):=FI.yz4 (hD:=zz2 _) Tryz.func52 Tryz.ntmps52 Tryz.call52 (by kernel_rfl) (of_decide_eq_true (by kernel_rfl)) (by kernel_rfl) (λn=>by kernel_rfl) (λx=>by kernel_rfl) (λ_=>rfl) ⟨λ_=>rfl,trivial⟩
 (λn=>λx=>(kzy.eq_2 x.1 x.2.1 x.2.2.1 n).trans (by kernel_rfl))
 (λn=>⟨λx=>(yzf.eq_2 x.1 x.2.1 x.2.2.1 x.2.2.2.1 x.2.2.2.2.1 n).trans (by kernel_rfl),
  trivial⟩)
 (λx=>.inr (by kernel_rfl))
theorem zjg:OkL Tryz.prog [z04]:=zz6 (zz2 _) (bs:=[zi3]) ⟨y9k,trivial⟩ zjl
theorem zj3:FOk Tryz.prog z04:=zjg.1
end Go.Proofs.YtahcjggdcmgpkaaGreat
