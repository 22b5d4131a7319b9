/-
  THE GO STRUCTS AS LEAN STRUCTURES, by a program of this repo (types.py).
-/
import Derived.Test.YthphaiccgnkobaaGreatDoorLib2
import Derived.Test.YthphaiccgnkobaaGreatDoorLib4
import Derived.Test.YthphaiccgnkobaaGreatDoorLib7
import Derived.Test.YthphaiccgnkobaaGreatDoorLib8
import Derived.KernelRfl
import Derived.Shelf.Small.Strs
import Derived.Shelf.Strconv.AtoiAll
import Derived.Shelf.Strconv.Itoa4
import Derived.Shelf.Strings.Split
import Derived.Shelf.Strings.OnBuilder
import Derived.Shelf.Strings.Fields
import Derived.Shelf.Strings.Builder1
import Derived.Shelf.Strings.Search1
import Derived.Shelf.Strings.Search2
import Derived.Shelf.Slices.CompactS
import Derived.Shelf.Sort.Plain
import Derived.Shelf.Slices.In.SortNone
import Derived.Ground.NamesProg
import Derived.Test.YthphaiccgnkobaaGreatDoorProg
import Derived.RangeFuncBox
import Derived.RangeFuncLeaves
import Derived.RangeFuncFrom
import Derived.RangeFuncCalls
import Derived.Shelf.Abstract
import Derived.WalkKit
import Derived.OwnWalkIn
import Derived.TacticsInMore
import Derived.LoopNIn
import Derived.LoopIn
import Derived.Shelf.RegionOpen
import Derived.Test.YthphaiccgnkobaaGreatDoorLib9
set_option linter.defProp false
set_option linter.unusedSimpArgs false
set_option linter.unusedVariables false
namespace Go.Ab
open Go
structure yz4 where
 num:Int
 den:Int
def yz4.el(x:yz4):V:=.agg [.int .i64 x.num,.int .i64 x.den]
def yz4.size(x:yz4):Nat:=1+1+1
def yz4.wf(x:yz4):Prop:=(IntKind.i64.min<=x.num∧x.num<=IntKind.i64.max)∧(IntKind.i64.min<=x.den∧x.den<=IntKind.i64.max)
def yz4.zzg(x:yz4):x.el = .agg [.int .i64 x.num,.int .i64 x.den]:=by rw[yz4.el]
theorem yz4.size_eq(x:yz4):x.size=1+1+1:=by rw[yz4.size]
theorem yz4.z5s(x:yz4):x.wf=((IntKind.i64.min<=x.num∧x.num<=IntKind.i64.max)∧(IntKind.i64.min<=x.den∧x.den<=IntKind.i64.max)):=by rw[yz4.wf]
def yz4.zzv(x:yz4):x.el.cells.length=2:=by rw[yz4.zzg];rfl
def yz4.zkx(x:yz4):x.el = .agg x.el.cells:=by rw[yz4.zzg];rfl
theorem yz4.kin{D:Nat->Nat->Prop}(x:yz4):V.kin D x.el:=by rw[yz4.zzg];simp only[V.kin,V.ze2,and_true,true_and]
def yz4.ty:Ty yz4:=⟨yz4.el,2,yz4.size,yz4.wf,yz4.zzv⟩
structure kz1 where
 kind:Int
 num:yz4
 truth:Bool
 str:B8
 list:List kz1
def kz1.y9k{x y:kz1}(h:y∈x.list):SizeOf.sizeOf y<SizeOf.sizeOf x:=by cases x;have:=List.sizeOf_lt_of_mem h;simp at this ⊢;omega
def kz1.el(x:kz1):V:=.agg [.int .u8 x.kind,.int .i64 x.num.num,.int .i64 x.num.den,.bool x.truth,.str x.str,.sl 6 (x.list.map kz1.el) false]
 termination_by x
 decreasing_by all_goals first|exact kz1.y9k ‹_›
def kz1.size(x:kz1):Nat:=1+x.num.size+1+(x.str.length+1)+((x.list.map kz1.size).sum+1)+1
 termination_by x
 decreasing_by all_goals first|exact kz1.y9k ‹_›
def kz1.wf(x:kz1):Prop:=(IntKind.u8.min<=x.kind∧x.kind<=IntKind.u8.max)∧x.num.wf∧True∧True∧(∀y∈x.list,y.wf)
 termination_by x
 decreasing_by all_goals first|exact kz1.y9k ‹_›
def kz1.zzg(x:kz1):x.el = .agg [.int .u8 x.kind,.int .i64 x.num.num,.int .i64 x.num.den,.bool x.truth,.str x.str,.sl 6 (x.list.map kz1.el) false]:=by rw[kz1.el]
theorem kz1.size_eq(x:kz1):x.size=1+x.num.size+1+(x.str.length+1)+((x.list.map kz1.size).sum+1)+1:=by rw[kz1.size]
theorem kz1.z5s(x:kz1):x.wf=((IntKind.u8.min<=x.kind∧x.kind<=IntKind.u8.max)∧x.num.wf∧True∧True∧(∀y∈x.list,y.wf)):=by rw[kz1.wf]
def kz1.zzv(x:kz1):x.el.cells.length=6:=by rw[kz1.zzg];rfl
def kz1.zkx(x:kz1):x.el = .agg x.el.cells:=by rw[kz1.zzg];rfl
theorem kz1.kin{D:Nat->Nat->Prop}(x:kz1):V.kin D x.el:=by rw[kz1.zzg];simp only[V.kin,V.ze2,and_true,true_and];exact z9a λy a=>kz1.kin y
 termination_by x
 decreasing_by all_goals first|exact kz1.y9k ‹_›
def kz1.ty:Ty kz1:=⟨kz1.el,6,kz1.size,kz1.wf,kz1.zzv⟩
structure zz2 where
 op:Int
 value:kz1
 name:B8
 args:List zz2
def zz2.y9b{x y:zz2}(h:y∈x.args):SizeOf.sizeOf y<SizeOf.sizeOf x:=by cases x;have:=List.sizeOf_lt_of_mem h;simp at this ⊢;omega
def zz2.el(x:zz2):V:=.agg [.int .u8 x.op,.int .u8 x.value.kind,.int .i64 x.value.num.num,.int .i64 x.value.num.den,.bool x.value.truth,.str x.value.str,.sl 6 (x.value.list.map kz1.el) false,.str x.name,.sl 9 (x.args.map zz2.el) false]
 termination_by x
 decreasing_by all_goals first|exact zz2.y9b ‹_›
def zz2.size(x:zz2):Nat:=1+x.value.size+(x.name.length+1)+((x.args.map zz2.size).sum+1)+1
 termination_by x
 decreasing_by all_goals first|exact zz2.y9b ‹_›
def zz2.wf(x:zz2):Prop:=(IntKind.u8.min<=x.op∧x.op<=IntKind.u8.max)∧x.value.wf∧True∧(∀y∈x.args,y.wf)
 termination_by x
 decreasing_by all_goals first|exact zz2.y9b ‹_›
def zz2.zzg(x:zz2):x.el = .agg [.int .u8 x.op,.int .u8 x.value.kind,.int .i64 x.value.num.num,.int .i64 x.value.num.den,.bool x.value.truth,.str x.value.str,.sl 6 (x.value.list.map kz1.el) false,.str x.name,.sl 9 (x.args.map zz2.el) false]:=by rw[zz2.el]
theorem zz2.size_eq(x:zz2):x.size=1+x.value.size+(x.name.length+1)+((x.args.map zz2.size).sum+1)+1:=by rw[zz2.size]
theorem zz2.z5s(x:zz2):x.wf=((IntKind.u8.min<=x.op∧x.op<=IntKind.u8.max)∧x.value.wf∧True∧(∀y∈x.args,y.wf)):=by rw[zz2.wf]
def zz2.zzv(x:zz2):x.el.cells.length=9:=by rw[zz2.zzg];rfl
def zz2.zkx(x:zz2):x.el = .agg x.el.cells:=by rw[zz2.zzg];rfl
theorem zz2.kin{D:Nat->Nat->Prop}(x:zz2):V.kin D x.el:=by rw[zz2.zzg];simp only[V.kin,V.ze2,and_true,true_and];exact⟨z9a λy a=>kz1.kin y,z9a λy a=>zz2.kin y⟩
 termination_by x
 decreasing_by all_goals first|exact zz2.y9b ‹_›
def zz2.ty:Ty zz2:=⟨zz2.el,9,zz2.size,zz2.wf,zz2.zzv⟩
structure yzl where
 name:B8
 value:zz2
def yzl.el(x:yzl):V:=.agg [.str x.name,.int .u8 x.value.op,.int .u8 x.value.value.kind,.int .i64 x.value.value.num.num,.int .i64 x.value.value.num.den,.bool x.value.value.truth,.str x.value.value.str,.sl 6 (x.value.value.list.map kz1.el) false,.str x.value.name,.sl 9 (x.value.args.map zz2.el) false]
def yzl.size(x:yzl):Nat:=(x.name.length+1)+x.value.size+1
def yzl.wf(x:yzl):Prop:=True∧x.value.wf
def yzl.zzg(x:yzl):x.el = .agg [.str x.name,.int .u8 x.value.op,.int .u8 x.value.value.kind,.int .i64 x.value.value.num.num,.int .i64 x.value.value.num.den,.bool x.value.value.truth,.str x.value.value.str,.sl 6 (x.value.value.list.map kz1.el) false,.str x.value.name,.sl 9 (x.value.args.map zz2.el) false]:=by rw[yzl.el]
theorem yzl.size_eq(x:yzl):x.size=(x.name.length+1)+x.value.size+1:=by rw[yzl.size]
theorem yzl.z5s(x:yzl):x.wf=(True∧x.value.wf):=by rw[yzl.wf]
def yzl.zzv(x:yzl):x.el.cells.length=10:=by rw[yzl.zzg];rfl
def yzl.zkx(x:yzl):x.el = .agg x.el.cells:=by rw[yzl.zzg];rfl
theorem yzl.kin{D:Nat->Nat->Prop}(x:yzl):V.kin D x.el:=by rw[yzl.zzg];simp only[V.kin,V.ze2,and_true,true_and];exact⟨z9a λy a=>kz1.kin y,z9a λy a=>zz2.kin y⟩
def yzl.ty:Ty yzl:=⟨yzl.el,10,yzl.size,yzl.wf,yzl.zzv⟩
structure yzq where
 kind:Int
 name:B8
 args:List zz2
def yzq.el(x:yzq):V:=.agg [.int .u8 x.kind,.str x.name,.sl 9 (x.args.map zz2.el) false]
def yzq.size(x:yzq):Nat:=1+(x.name.length+1)+((x.args.map zz2.size).sum+1)+1
def yzq.wf(x:yzq):Prop:=(IntKind.u8.min<=x.kind∧x.kind<=IntKind.u8.max)∧True∧(∀y∈x.args,y.wf)
def yzq.zzg(x:yzq):x.el = .agg [.int .u8 x.kind,.str x.name,.sl 9 (x.args.map zz2.el) false]:=by rw[yzq.el]
theorem yzq.size_eq(x:yzq):x.size=1+(x.name.length+1)+((x.args.map zz2.size).sum+1)+1:=by rw[yzq.size]
theorem yzq.z5s(x:yzq):x.wf=((IntKind.u8.min<=x.kind∧x.kind<=IntKind.u8.max)∧True∧(∀y∈x.args,y.wf)):=by rw[yzq.wf]
def yzq.zzv(x:yzq):x.el.cells.length=3:=by rw[yzq.zzg];rfl
def yzq.zkx(x:yzq):x.el = .agg x.el.cells:=by rw[yzq.zzg];rfl
theorem yzq.kin{D:Nat->Nat->Prop}(x:yzq):V.kin D x.el:=by rw[yzq.zzg];simp only[V.kin,V.ze2,and_true,true_and];exact z9a λy a=>zz2.kin y
def yzq.ty:Ty yzq:=⟨yzq.el,3,yzq.size,yzq.wf,yzq.zzv⟩
structure zz4 where
 kind:Int
 axis:Int
 name:B8
 args:List zz2
 items:List yzq
def zz4.el(x:zz4):V:=.agg [.int .u8 x.kind,.int .u8 x.axis,.str x.name,.sl 9 (x.args.map zz2.el) false,.sl 3 (x.items.map yzq.el) false]
def zz4.size(x:zz4):Nat:=1+1+(x.name.length+1)+((x.args.map zz2.size).sum+1)+((x.items.map yzq.size).sum+1)+1
def zz4.wf(x:zz4):Prop:=(IntKind.u8.min<=x.kind∧x.kind<=IntKind.u8.max)∧(IntKind.u8.min<=x.axis∧x.axis<=IntKind.u8.max)∧True∧(∀y∈x.args,y.wf)∧(∀y∈x.items,y.wf)
def zz4.zzg(x:zz4):x.el = .agg [.int .u8 x.kind,.int .u8 x.axis,.str x.name,.sl 9 (x.args.map zz2.el) false,.sl 3 (x.items.map yzq.el) false]:=by rw[zz4.el]
theorem zz4.size_eq(x:zz4):x.size=1+1+(x.name.length+1)+((x.args.map zz2.size).sum+1)+((x.items.map yzq.size).sum+1)+1:=by rw[zz4.size]
theorem zz4.z5s(x:zz4):x.wf=((IntKind.u8.min<=x.kind∧x.kind<=IntKind.u8.max)∧(IntKind.u8.min<=x.axis∧x.axis<=IntKind.u8.max)∧True∧(∀y∈x.args,y.wf)∧(∀y∈x.items,y.wf)):=by rw[zz4.wf]
def zz4.zzv(x:zz4):x.el.cells.length=5:=by rw[zz4.zzg];rfl
def zz4.zkx(x:zz4):x.el = .agg x.el.cells:=by rw[zz4.zzg];rfl
theorem zz4.kin{D:Nat->Nat->Prop}(x:zz4):V.kin D x.el:=by rw[zz4.zzg];simp only[V.kin,V.ze2,and_true,true_and];exact⟨z9a λy a=>zz2.kin y,z9a λy a=>yzq.kin y⟩
def zz4.ty:Ty zz4:=⟨zz4.el,5,zz4.size,zz4.wf,zz4.zzv⟩
structure kz7 where
 weight:Int
 when_:zz2
 do_:List zz4
def kz7.el(x:kz7):V:=.agg [.int .i64 x.weight,.int .u8 x.when_.op,.int .u8 x.when_.value.kind,.int .i64 x.when_.value.num.num,.int .i64 x.when_.value.num.den,.bool x.when_.value.truth,.str x.when_.value.str,.sl 6 (x.when_.value.list.map kz1.el) false,.str x.when_.name,.sl 9 (x.when_.args.map zz2.el) false,.sl 5 (x.do_.map zz4.el) false]
def kz7.size(x:kz7):Nat:=1+x.when_.size+((x.do_.map zz4.size).sum+1)+1
def kz7.wf(x:kz7):Prop:=(IntKind.i64.min<=x.weight∧x.weight<=IntKind.i64.max)∧x.when_.wf∧(∀y∈x.do_,y.wf)
def kz7.zzg(x:kz7):x.el = .agg [.int .i64 x.weight,.int .u8 x.when_.op,.int .u8 x.when_.value.kind,.int .i64 x.when_.value.num.num,.int .i64 x.when_.value.num.den,.bool x.when_.value.truth,.str x.when_.value.str,.sl 6 (x.when_.value.list.map kz1.el) false,.str x.when_.name,.sl 9 (x.when_.args.map zz2.el) false,.sl 5 (x.do_.map zz4.el) false]:=by rw[kz7.el]
theorem kz7.size_eq(x:kz7):x.size=1+x.when_.size+((x.do_.map zz4.size).sum+1)+1:=by rw[kz7.size]
theorem kz7.z5s(x:kz7):x.wf=((IntKind.i64.min<=x.weight∧x.weight<=IntKind.i64.max)∧x.when_.wf∧(∀y∈x.do_,y.wf)):=by rw[kz7.wf]
def kz7.zzv(x:kz7):x.el.cells.length=11:=by rw[kz7.zzg];rfl
def kz7.zkx(x:kz7):x.el = .agg x.el.cells:=by rw[kz7.zzg];rfl
theorem kz7.kin{D:Nat->Nat->Prop}(x:kz7):V.kin D x.el:=by rw[kz7.zzg];simp only[V.kin,V.ze2,and_true,true_and];exact⟨z9a λy a=>kz1.kin y,z9a λy a=>zz2.kin y,z9a λy a=>zz4.kin y⟩
def kz7.ty:Ty kz7:=⟨kz7.el,11,kz7.size,kz7.wf,kz7.zzv⟩
structure yz7 where
 name:B8
 params:List B8
 cases:List kz7
def yz7.el(x:yz7):V:=.agg [.str x.name,.sl 1 (x.params.map V.str) false,.sl 11 (x.cases.map kz7.el) false]
def yz7.size(x:yz7):Nat:=(x.name.length+1)+((x.params.map (λs=>s.length+1)).sum+1)+((x.cases.map kz7.size).sum+1)+1
def yz7.wf(x:yz7):Prop:=True∧(∀y∈x.params,True)∧(∀y∈x.cases,y.wf)
def yz7.zzg(x:yz7):x.el = .agg [.str x.name,.sl 1 (x.params.map V.str) false,.sl 11 (x.cases.map kz7.el) false]:=by rw[yz7.el]
theorem yz7.size_eq(x:yz7):x.size=(x.name.length+1)+((x.params.map (λs=>s.length+1)).sum+1)+((x.cases.map kz7.size).sum+1)+1:=by rw[yz7.size]
theorem yz7.z5s(x:yz7):x.wf=(True∧(∀y∈x.params,True)∧(∀y∈x.cases,y.wf)):=by rw[yz7.wf]
def yz7.zzv(x:yz7):x.el.cells.length=3:=by rw[yz7.zzg];rfl
def yz7.zkx(x:yz7):x.el = .agg x.el.cells:=by rw[yz7.zzg];rfl
theorem yz7.kin{D:Nat->Nat->Prop}(x:yz7):V.kin D x.el:=by rw[yz7.zzg];simp only[V.kin,V.ze2,and_true,true_and];exact⟨z9a λ_ _=>by simp[V.kin],z9a λy a=>kz7.kin y⟩
def yz7.ty:Ty yz7:=⟨yz7.el,3,yz7.size,yz7.wf,yz7.zzv⟩
structure yz2 where
 attrs:List yzl
 rules:List yz7
def yz2.el(x:yz2):V:=.agg [.sl 10 (x.attrs.map yzl.el) false,.sl 3 (x.rules.map yz7.el) false]
def yz2.size(x:yz2):Nat:=((x.attrs.map yzl.size).sum+1)+((x.rules.map yz7.size).sum+1)+1
def yz2.wf(x:yz2):Prop:=(∀y∈x.attrs,y.wf)∧(∀y∈x.rules,y.wf)
def yz2.zzg(x:yz2):x.el = .agg [.sl 10 (x.attrs.map yzl.el) false,.sl 3 (x.rules.map yz7.el) false]:=by rw[yz2.el]
theorem yz2.size_eq(x:yz2):x.size=((x.attrs.map yzl.size).sum+1)+((x.rules.map yz7.size).sum+1)+1:=by rw[yz2.size]
theorem yz2.z5s(x:yz2):x.wf=((∀y∈x.attrs,y.wf)∧(∀y∈x.rules,y.wf)):=by rw[yz2.wf]
def yz2.zzv(x:yz2):x.el.cells.length=2:=by rw[yz2.zzg];rfl
def yz2.zkx(x:yz2):x.el = .agg x.el.cells:=by rw[yz2.zzg];rfl
theorem yz2.kin{D:Nat->Nat->Prop}(x:yz2):V.kin D x.el:=by rw[yz2.zzg];simp only[V.kin,V.ze2,and_true,true_and];exact⟨z9a λy a=>yzl.kin y,z9a λy a=>yz7.kin y⟩
def yz2.ty:Ty yz2:=⟨yz2.el,2,yz2.size,yz2.wf,yz2.zzv⟩
structure z0j where
 name:B8
 many:Int
def z0j.el(x:z0j):V:=.agg [.str x.name,.int .i64 x.many]
def z0j.size(x:z0j):Nat:=(x.name.length+1)+1+1
def z0j.wf(x:z0j):Prop:=True∧(IntKind.i64.min<=x.many∧x.many<=IntKind.i64.max)
def z0j.zzg(x:z0j):x.el = .agg [.str x.name,.int .i64 x.many]:=by rw[z0j.el]
theorem z0j.size_eq(x:z0j):x.size=(x.name.length+1)+1+1:=by rw[z0j.size]
theorem z0j.z5s(x:z0j):x.wf=(True∧(IntKind.i64.min<=x.many∧x.many<=IntKind.i64.max)):=by rw[z0j.wf]
def z0j.zzv(x:z0j):x.el.cells.length=2:=by rw[z0j.zzg];rfl
def z0j.zkx(x:z0j):x.el = .agg x.el.cells:=by rw[z0j.zzg];rfl
theorem z0j.kin{D:Nat->Nat->Prop}(x:z0j):V.kin D x.el:=by rw[z0j.zzg];simp only[V.kin,V.ze2,and_true,true_and]
def z0j.ty:Ty z0j:=⟨z0j.el,2,z0j.size,z0j.wf,z0j.zzv⟩
structure zzh where
 p:yz2
 ok:Bool
def zzh.el(x:zzh):V:=.agg [.sl 10 (x.p.attrs.map yzl.el) false,.sl 3 (x.p.rules.map yz7.el) false,.bool x.ok]
def zzh.size(x:zzh):Nat:=x.p.size+1+1
def zzh.wf(x:zzh):Prop:=x.p.wf∧True
def zzh.zzg(x:zzh):x.el = .agg [.sl 10 (x.p.attrs.map yzl.el) false,.sl 3 (x.p.rules.map yz7.el) false,.bool x.ok]:=by rw[zzh.el]
theorem zzh.size_eq(x:zzh):x.size=x.p.size+1+1:=by rw[zzh.size]
theorem zzh.z5s(x:zzh):x.wf=(x.p.wf∧True):=by rw[zzh.wf]
def zzh.zzv(x:zzh):x.el.cells.length=3:=by rw[zzh.zzg];rfl
def zzh.zkx(x:zzh):x.el = .agg x.el.cells:=by rw[zzh.zzg];rfl
theorem zzh.kin{D:Nat->Nat->Prop}(x:zzh):V.kin D x.el:=by rw[zzh.zzg];simp only[V.kin,V.ze2,and_true,true_and];exact⟨z9a λy a=>yzl.kin y,z9a λy a=>yz7.kin y⟩
def zzh.ty:Ty zzh:=⟨zzh.el,3,zzh.size,zzh.wf,zzh.zzv⟩
structure z4p where
 name:B8
 many:Int
def z4p.el(x:z4p):V:=.agg [.str x.name,.int .i64 x.many]
def z4p.size(x:z4p):Nat:=(x.name.length+1)+1+1
def z4p.wf(x:z4p):Prop:=True∧(IntKind.i64.min<=x.many∧x.many<=IntKind.i64.max)
def z4p.zzg(x:z4p):x.el = .agg [.str x.name,.int .i64 x.many]:=by rw[z4p.el]
theorem z4p.size_eq(x:z4p):x.size=(x.name.length+1)+1+1:=by rw[z4p.size]
theorem z4p.z5s(x:z4p):x.wf=(True∧(IntKind.i64.min<=x.many∧x.many<=IntKind.i64.max)):=by rw[z4p.wf]
def z4p.zzv(x:z4p):x.el.cells.length=2:=by rw[z4p.zzg];rfl
def z4p.zkx(x:z4p):x.el = .agg x.el.cells:=by rw[z4p.zzg];rfl
theorem z4p.kin{D:Nat->Nat->Prop}(x:z4p):V.kin D x.el:=by rw[z4p.zzg];simp only[V.kin,V.ze2,and_true,true_and]
def z4p.ty:Ty z4p:=⟨z4p.el,2,z4p.size,z4p.wf,z4p.zzv⟩
structure kz2 where
 s:B8
def kz2.el(x:kz2):V:=.agg [.str x.s]
def kz2.size(x:kz2):Nat:=(x.s.length+1)+1
def kz2.wf(x:kz2):Prop:=True
def kz2.zzg(x:kz2):x.el = .agg [.str x.s]:=by rw[kz2.el]
theorem kz2.size_eq(x:kz2):x.size=(x.s.length+1)+1:=by rw[kz2.size]
theorem kz2.z5s(x:kz2):x.wf=(True):=by rw[kz2.wf]
def kz2.zzv(x:kz2):x.el.cells.length=1:=by rw[kz2.zzg];rfl
def kz2.zkx(x:kz2):x.el = .agg x.el.cells:=by rw[kz2.zzg];rfl
theorem kz2.kin{D:Nat->Nat->Prop}(x:kz2):V.kin D x.el:=by rw[kz2.zzg];simp only[V.kin,V.ze2,and_true,true_and]
def kz2.ty:Ty kz2:=⟨kz2.el,1,kz2.size,kz2.wf,kz2.zzv⟩
structure zz3 where
 s:B8
 at_:Int
 ok:Bool
def zz3.el(x:zz3):V:=.agg [.str x.s,.int .i64 x.at_,.bool x.ok]
def zz3.size(x:zz3):Nat:=(x.s.length+1)+1+1+1
def zz3.wf(x:zz3):Prop:=True∧(IntKind.i64.min<=x.at_∧x.at_<=IntKind.i64.max)∧True
def zz3.zzg(x:zz3):x.el = .agg [.str x.s,.int .i64 x.at_,.bool x.ok]:=by rw[zz3.el]
theorem zz3.size_eq(x:zz3):x.size=(x.s.length+1)+1+1+1:=by rw[zz3.size]
theorem zz3.z5s(x:zz3):x.wf=(True∧(IntKind.i64.min<=x.at_∧x.at_<=IntKind.i64.max)∧True):=by rw[zz3.wf]
def zz3.zzv(x:zz3):x.el.cells.length=3:=by rw[zz3.zzg];rfl
def zz3.zkx(x:zz3):x.el = .agg x.el.cells:=by rw[zz3.zzg];rfl
theorem zz3.kin{D:Nat->Nat->Prop}(x:zz3):V.kin D x.el:=by rw[zz3.zzg];simp only[V.kin,V.ze2,and_true,true_and]
def zz3.ty:Ty zz3:=⟨zz3.el,3,zz3.size,zz3.wf,zz3.zzv⟩
abbrev GRatio_l:=List yz4
abbrev z3m:=List kz1
abbrev kz9:=List zz2
abbrev z2f:=List yzl
abbrev zm8:=List yzq
abbrev z9z:=List zz4
abbrev z4m:=List kz7
abbrev zzl:=List yz7
abbrev z0eq:=List yz2
abbrev z9d:=List z0j
abbrev z0e0:=List zzh
abbrev zer:=List z4p
abbrev z0bs:=List kz2
abbrev z0de:=List zz3
structure zh8 where
 e0:B8
 e1:B8
 e2:B8
 e3:B8
 e4:B8
 e5:B8
 e6:B8
 e7:B8
def zh8.el(x:zh8):V:=.agg [.str x.e0,.str x.e1,.str x.e2,.str x.e3,.str x.e4,.str x.e5,.str x.e6,.str x.e7]
def zh8.zzg(x:zh8):x.el = .agg [.str x.e0,.str x.e1,.str x.e2,.str x.e3,.str x.e4,.str x.e5,.str x.e6,.str x.e7]:=rfl
theorem zh8.kin{Dm:Nat->Nat->Prop}(x:zh8):V.kin Dm x.el:=by simp[zh8.el,V.kin,V.ze2]
structure zh1 where
 e0:B8
 e1:B8
 e2:B8
 e3:B8
 e4:B8
 e5:B8
 e6:B8
def zh1.el(x:zh1):V:=.agg [.str x.e0,.str x.e1,.str x.e2,.str x.e3,.str x.e4,.str x.e5,.str x.e6]
def zh1.zzg(x:zh1):x.el = .agg [.str x.e0,.str x.e1,.str x.e2,.str x.e3,.str x.e4,.str x.e5,.str x.e6]:=rfl
theorem zh1.kin{Dm:Nat->Nat->Prop}(x:zh1):V.kin Dm x.el:=by simp[zh1.el,V.kin,V.ze2]
structure zgv where
 e0:B8
 e1:B8
 e2:B8
 e3:B8
def zgv.el(x:zgv):V:=.agg [.str x.e0,.str x.e1,.str x.e2,.str x.e3]
def zgv.zzg(x:zgv):x.el = .agg [.str x.e0,.str x.e1,.str x.e2,.str x.e3]:=rfl
theorem zgv.kin{Dm:Nat->Nat->Prop}(x:zgv):V.kin Dm x.el:=by simp[zgv.el,V.kin,V.ze2]
def kz1.re(x:kz1):kz1:=⟨x.kind,x.num,x.truth,x.str,x.list⟩
@[simp] theorem kz1.kz3 (x:kz1):x.re=x:=by cases x;simp[kz1.re]
def zz2.re(x:zz2):zz2:=⟨x.op,x.value.re,x.name,x.args⟩
@[simp] theorem zz2.kz3 (x:zz2):x.re=x:=by cases x;simp[zz2.re]
def yzl.re(x:yzl):yzl:=⟨x.name,x.value.re⟩
@[simp] theorem yzl.kz3 (x:yzl):x.re=x:=by cases x;simp[yzl.re]
def kz7.re(x:kz7):kz7:=⟨x.weight,x.when_.re,x.do_⟩
@[simp] theorem kz7.kz3 (x:kz7):x.re=x:=by cases x;simp[kz7.re]
def datT:Nat->Type
 |0=>zh8
 |1=>zh1
 |2=>zgv
 |3=>yz4
 |4=>kz1
 |5=>zz2
 |6=>yzl
 |7=>yzq
 |8=>zz4
 |9=>kz7
 |10=>yz7
 |11=>yz2
 |12=>z0j
 |13=>zzh
 |14=>z4p
 |15=>kz2
 |16=>zz3
 |_=>Unit
def zl8:Nat->List DTy
 |0=>[.str,.str,.str,.str,.str,.str,.str,.str]
 |1=>[.str,.str,.str,.str,.str,.str,.str]
 |2=>[.str,.str,.str,.str]
 |3=>[.int .i64,.int .i64]
 |4=>[.int .u8,.int .i64,.int .i64,.bool,.str,.sl (.st 4)]
 |5=>[.int .u8,.int .u8,.int .i64,.int .i64,.bool,.str,.sl (.st 4),.str,.sl (.st 5)]
 |6=>[.str,.int .u8,.int .u8,.int .i64,.int .i64,.bool,.str,.sl (.st 4),.str,.sl (.st 5)]
 |7=>[.int .u8,.str,.sl (.st 5)]
 |8=>[.int .u8,.int .u8,.str,.sl (.st 5),.sl (.st 7)]
 |9=>[.int .i64,.int .u8,.int .u8,.int .i64,.int .i64,.bool,.str,.sl (.st 4),.str,.sl (.st 5),.sl (.st 8)]
 |10=>[.str,.sl .str,.sl (.st 9)]
 |11=>[.sl (.st 6),.sl (.st 10)]
 |12=>[.str,.int .i64]
 |13=>[.sl (.st 6),.sl (.st 10),.bool]
 |14=>[.str,.int .i64]
 |15=>[.str]
 |16=>[.str,.int .i64,.bool]
 |_=>[]
def z0a8:List (Nat×DTy):=[(2,.int .i64),(3,.int .i64),(4,.bool),(5,.int .u8),(6,.int .u8),(9,.str),(10,.str),(11,.str),(12,.int .u64),(21,.int .i32),(23,.st 3),(24,.sl (.st 4)),(26,.st 4),(27,.sl (.st 5)),(29,.st 5),(31,.int .i64),(33,.sl (.st 6)),(34,.sl (.st 10)),(36,.st 11),(38,.sl (.st 7)),(40,.st 8),(43,.st 7),(44,.sl .str),(45,.sl (.st 9)),(47,.st 10),(49,.st 6),(55,.sl (.st 8)),(57,.st 9),(83,.sl (.st 12)),(86,.st 12),(91,.st 13),(103,.sl (.st 14)),(106,.st 14),(109,.sl (.int .u8)),(152,.int .u64),(196,.int .i64),(203,.int .u32),(205,.int .u64),(217,.st 0),(218,.st 1),(219,.st 2),(230,.int .i64),(236,.int .u64),(270,.st 15),(295,.int .u16),(335,.st 16),(344,.int .u8),(345,.int .u8),(347,.int .i32),(348,.int .i32)]
def datOw:Nat->Nat->Option Nat
 |10,2=>some 57
 |9,10=>some 40
 |8,4=>some 43
 |_,_=>none
def dat:Dat where
 T:=datT
 fl:=zl8
 get:=λi=>match i with
  |0=>λ(x:zh8)=>(x.e0,x.e1,x.e2,x.e3,x.e4,x.e5,x.e6,x.e7,())
  |1=>λ(x:zh1)=>(x.e0,x.e1,x.e2,x.e3,x.e4,x.e5,x.e6,())
  |2=>λ(x:zgv)=>(x.e0,x.e1,x.e2,x.e3,())
  |3=>λ(x:yz4)=>(x.num,x.den,())
  |4=>λ(x:kz1)=>(x.kind,x.num.num,x.num.den,x.truth,x.str,x.list,())
  |5=>λ(x:zz2)=>(x.op,x.value.kind,x.value.num.num,x.value.num.den,x.value.truth,x.value.str,x.value.list,x.name,x.args,())
  |6=>λ(x:yzl)=>(x.name,x.value.op,x.value.value.kind,x.value.value.num.num,x.value.value.num.den,x.value.value.truth,x.value.value.str,x.value.value.list,x.value.name,x.value.args,())
  |7=>λ(x:yzq)=>(x.kind,x.name,x.args,())
  |8=>λ(x:zz4)=>(x.kind,x.axis,x.name,x.args,x.items,())
  |9=>λ(x:kz7)=>(x.weight,x.when_.op,x.when_.value.kind,x.when_.value.num.num,x.when_.value.num.den,x.when_.value.truth,x.when_.value.str,x.when_.value.list,x.when_.name,x.when_.args,x.do_,())
  |10=>λ(x:yz7)=>(x.name,x.params,x.cases,())
  |11=>λ(x:yz2)=>(x.attrs,x.rules,())
  |12=>λ(x:z0j)=>(x.name,x.many,())
  |13=>λ(x:zzh)=>(x.p.attrs,x.p.rules,x.ok,())
  |14=>λ(x:z4p)=>(x.name,x.many,())
  |15=>λ(x:kz2)=>(x.s,())
  |16=>λ(x:zz3)=>(x.s,x.at_,x.ok,())
  |_+17=>λ_=>()
 make:=λi=>match i with
  |0=>λx=>zh8.mk x.1 x.2.1 x.2.2.1 x.2.2.2.1 x.2.2.2.2.1 x.2.2.2.2.2.1 x.2.2.2.2.2.2.1 x.2.2.2.2.2.2.2.1
  |1=>λx=>zh1.mk x.1 x.2.1 x.2.2.1 x.2.2.2.1 x.2.2.2.2.1 x.2.2.2.2.2.1 x.2.2.2.2.2.2.1
  |2=>λx=>zgv.mk x.1 x.2.1 x.2.2.1 x.2.2.2.1
  |3=>λx=>yz4.mk x.1 x.2.1
  |4=>λx=>kz1.mk x.1 (yz4.mk x.2.1 x.2.2.1) x.2.2.2.1 x.2.2.2.2.1 x.2.2.2.2.2.1
  |5=>λx=>zz2.mk x.1 (kz1.mk x.2.1 (yz4.mk x.2.2.1 x.2.2.2.1) x.2.2.2.2.1 x.2.2.2.2.2.1 x.2.2.2.2.2.2.1) x.2.2.2.2.2.2.2.1 x.2.2.2.2.2.2.2.2.1
  |6=>λx=>yzl.mk x.1 (zz2.mk x.2.1 (kz1.mk x.2.2.1 (yz4.mk x.2.2.2.1 x.2.2.2.2.1) x.2.2.2.2.2.1 x.2.2.2.2.2.2.1 x.2.2.2.2.2.2.2.1) x.2.2.2.2.2.2.2.2.1 x.2.2.2.2.2.2.2.2.2.1)
  |7=>λx=>yzq.mk x.1 x.2.1 x.2.2.1
  |8=>λx=>zz4.mk x.1 x.2.1 x.2.2.1 x.2.2.2.1 x.2.2.2.2.1
  |9=>λx=>kz7.mk x.1 (zz2.mk x.2.1 (kz1.mk x.2.2.1 (yz4.mk x.2.2.2.1 x.2.2.2.2.1) x.2.2.2.2.2.1 x.2.2.2.2.2.2.1 x.2.2.2.2.2.2.2.1) x.2.2.2.2.2.2.2.2.1 x.2.2.2.2.2.2.2.2.2.1) x.2.2.2.2.2.2.2.2.2.2.1
  |10=>λx=>yz7.mk x.1 x.2.1 x.2.2.1
  |11=>λx=>yz2.mk x.1 x.2.1
  |12=>λx=>z0j.mk x.1 x.2.1
  |13=>λx=>zzh.mk (yz2.mk x.1 x.2.1) x.2.2.1
  |14=>λx=>z4p.mk x.1 x.2.1
  |15=>λx=>kz2.mk x.1
  |16=>λx=>zz3.mk x.1 x.2.1 x.2.2.1
  |_+17=>λ_=>()
 enc:=λi=>match i with
  |0=>zh8.el
  |1=>zh1.el
  |2=>zgv.el
  |3=>yz4.el
  |4=>kz1.el
  |5=>zz2.el
  |6=>yzl.el
  |7=>yzq.el
  |8=>zz4.el
  |9=>kz7.el
  |10=>yz7.el
  |11=>yz2.el
  |12=>z0j.el
  |13=>zzh.el
  |14=>z4p.el
  |15=>kz2.el
  |16=>zz3.el
  |_+17=>λ_=>.agg []
 ty:=fnd z0a8
 ow:=datOw
def kzd(P:Program):dat.Ok P where
 enc:=λi=>match i with
  |0=>λx=>zh8.zzg x
  |1=>λx=>zh1.zzg x
  |2=>λx=>zgv.zzg x
  |3=>λx=>yz4.zzg x
  |4=>λx=>kz1.zzg x
  |5=>λx=>zz2.zzg x
  |6=>λx=>yzl.zzg x
  |7=>λx=>yzq.zzg x
  |8=>λx=>zz4.zzg x
  |9=>λx=>kz7.zzg x
  |10=>λx=>yz7.zzg x
  |11=>λx=>yz2.zzg x
  |12=>λx=>z0j.zzg x
  |13=>λx=>zzh.zzg x
  |14=>λx=>z4p.zzg x
  |15=>λx=>kz2.zzg x
  |16=>λx=>zz3.zzg x
  |_+17=>λ_=>rfl
 getMake:=λi=>match i with
  |0=>λx=>rfl
  |1=>λx=>rfl
  |2=>λx=>rfl
  |3=>λx=>rfl
  |4=>λx=>rfl
  |5=>λx=>rfl
  |6=>λx=>rfl
  |7=>λx=>rfl
  |8=>λx=>rfl
  |9=>λx=>rfl
  |10=>λx=>rfl
  |11=>λx=>rfl
  |12=>λx=>rfl
  |13=>λx=>rfl
  |14=>λx=>rfl
  |15=>λx=>rfl
  |16=>λx=>rfl
  |_+17=>λ_=>rfl
 flat:=λi=>match i with
  |0=>λt h=>by simp only[dat,zl8,Qbf,List.not_mem_nil,or_false]at h;rcases h with rfl|rfl|rfl|rfl|rfl|rfl|rfl|rfl <;> trivial
  |1=>λt h=>by simp only[dat,zl8,Qbf,List.not_mem_nil,or_false]at h;rcases h with rfl|rfl|rfl|rfl|rfl|rfl|rfl <;> trivial
  |2=>λt h=>by simp only[dat,zl8,Qbf,List.not_mem_nil,or_false]at h;rcases h with rfl|rfl|rfl|rfl <;> trivial
  |3=>λt h=>by simp only[dat,zl8,Qbf,List.not_mem_nil,or_false]at h;rcases h with rfl|rfl <;> trivial
  |4=>λt h=>by simp only[dat,zl8,Qbf,List.not_mem_nil,or_false]at h;rcases h with rfl|rfl|rfl|rfl|rfl|rfl <;> trivial
  |5=>λt h=>by simp only[dat,zl8,Qbf,List.not_mem_nil,or_false]at h;rcases h with rfl|rfl|rfl|rfl|rfl|rfl|rfl|rfl|rfl <;> trivial
  |6=>λt h=>by simp only[dat,zl8,Qbf,List.not_mem_nil,or_false]at h;rcases h with rfl|rfl|rfl|rfl|rfl|rfl|rfl|rfl|rfl|rfl <;> trivial
  |7=>λt h=>by simp only[dat,zl8,Qbf,List.not_mem_nil,or_false]at h;rcases h with rfl|rfl|rfl <;> trivial
  |8=>λt h=>by simp only[dat,zl8,Qbf,List.not_mem_nil,or_false]at h;rcases h with rfl|rfl|rfl|rfl|rfl <;> trivial
  |9=>λt h=>by simp only[dat,zl8,Qbf,List.not_mem_nil,or_false]at h;rcases h with rfl|rfl|rfl|rfl|rfl|rfl|rfl|rfl|rfl|rfl|rfl <;> trivial
  |10=>λt h=>by simp only[dat,zl8,Qbf,List.not_mem_nil,or_false]at h;rcases h with rfl|rfl|rfl <;> trivial
  |11=>λt h=>by simp only[dat,zl8,Qbf,List.not_mem_nil,or_false]at h;rcases h with rfl|rfl <;> trivial
  |12=>λt h=>by simp only[dat,zl8,Qbf,List.not_mem_nil,or_false]at h;rcases h with rfl|rfl <;> trivial
  |13=>λt h=>by simp only[dat,zl8,Qbf,List.not_mem_nil,or_false]at h;rcases h with rfl|rfl|rfl <;> trivial
  |14=>λt h=>by simp only[dat,zl8,Qbf,List.not_mem_nil,or_false]at h;rcases h with rfl|rfl <;> trivial
  |15=>λt h=>by simp only[dat,zl8,Qbf,List.not_mem_nil,or_false]at h;rcases h with rfl <;> trivial
  |16=>λt h=>by simp only[dat,zl8,Qbf,List.not_mem_nil,or_false]at h;rcases h with rfl|rfl|rfl <;> trivial
  |_+17=>λt h=>by cases h
 ty:=λe t h=>by
  have:=z4o h;simp only[z0a8,Qbf,Qbs,List.not_mem_nil,or_false]at this
  rcases this with ⟨_,rfl⟩|⟨_,rfl⟩|⟨_,rfl⟩|⟨_,rfl⟩|⟨_,rfl⟩|⟨_,rfl⟩|⟨_,rfl⟩|⟨_,rfl⟩|⟨_,rfl⟩|⟨_,rfl⟩|⟨_,rfl⟩|⟨_,rfl⟩|⟨_,rfl⟩|⟨_,rfl⟩|⟨_,rfl⟩|⟨_,rfl⟩|⟨_,rfl⟩|⟨_,rfl⟩|⟨_,rfl⟩|⟨_,rfl⟩|⟨_,rfl⟩|⟨_,rfl⟩|⟨_,rfl⟩|⟨_,rfl⟩|⟨_,rfl⟩|⟨_,rfl⟩|⟨_,rfl⟩|⟨_,rfl⟩|⟨_,rfl⟩|⟨_,rfl⟩|⟨_,rfl⟩|⟨_,rfl⟩|⟨_,rfl⟩|⟨_,rfl⟩|⟨_,rfl⟩|⟨_,rfl⟩|⟨_,rfl⟩|⟨_,rfl⟩|⟨_,rfl⟩|⟨_,rfl⟩|⟨_,rfl⟩|⟨_,rfl⟩|⟨_,rfl⟩|⟨_,rfl⟩|⟨_,rfl⟩|⟨_,rfl⟩|⟨_,rfl⟩|⟨_,rfl⟩|⟨_,rfl⟩|⟨_,rfl⟩ <;> simp
 kin:=λi=>match i with
  |0=>λx _=>zh8.kin x
  |1=>λx _=>zh1.kin x
  |2=>λx _=>zgv.kin x
  |3=>λx _=>yz4.kin x
  |4=>λx _=>kz1.kin x
  |5=>λx _=>zz2.kin x
  |6=>λx _=>yzl.kin x
  |7=>λx _=>yzq.kin x
  |8=>λx _=>zz4.kin x
  |9=>λx _=>kz7.kin x
  |10=>λx _=>yz7.kin x
  |11=>λx _=>yz2.kin x
  |12=>λx _=>z0j.kin x
  |13=>λx _=>zzh.kin x
  |14=>λx _=>z4p.kin x
  |15=>λx _=>kz2.kin x
  |16=>λx _=>zz3.kin x
  |_+17=>λ_ _=>by simp only[dat,V.kin,V.ze2]
def anb(l:List (Nat×Nat))(f:Func):AC:=(ann l (f.body.getD .skip) 0).1
abbrev dI:Sh:=.d (.int .i64)
abbrev dB:Sh:=.d .bool
abbrev dS:Sh:=.d .str
abbrev dU:Sh:=.d (.int .u8)
abbrev dA:Sh:=.d (.sl .str)
abbrev dT(i:Nat):Sh:=.d (.st i)
abbrev dL(i:Nat):Sh:=.d (.sl (.st i))
abbrev Ot:=Option
def tr{α:Type}{a b c:α}(h:a=b)(k:b=c:=by kernel_rfl):a=c:=h.trans k
def u1{a r x:Type}(f:a->r)(y:a×x):r:=f y.1
def u2{a b r x:Type}(f:a->b->r)(y:a×b×x):r:=u1 (f y.1) y.2
def u3{a b c r x:Type}(f:a->b->c->r)(y:a×b×c×x):r:=u2 (f y.1) y.2
def u4{a b c d r x:Type}(f:a->b->c->d->r)(y:a×b×c×d×x):r:=u3 (f y.1) y.2
def u5{a b c d e r x:Type}(f:a->b->c->d->e->r)(y:a×b×c×d×e×x):r:=u4 (f y.1) y.2
def u6{a b c d e g r x:Type}(f:a->b->c->d->e->g->r)(y:a×b×c×d×e×g×x):r:=u5 (f y.1) y.2
def u7{a b c d e g h r x:Type}(f:a->b->c->d->e->g->h->r)(y:a×b×c×d×e×g×h×x):r:=u6 (f y.1) y.2
def u8{a b c d e g h i r x:Type}(f:a->b->c->d->e->g->h->i->r)(y:a×b×c×d×e×g×h×i×x):r:=u7 (f y.1) y.2
def u9{a b c d e g h i j r x:Type}(f:a->b->c->d->e->g->h->i->j->r)(y:a×b×c×d×e×g×h×i×j×x):r:=u8 (f y.1) y.2
def u10{a b c d e g h i j k r x:Type}(f:a->b->c->d->e->g->h->i->j->k->r)(y:a×b×c×d×e×g×h×i×j×k×x):r:=u9 (f y.1) y.2
def u11{a b c d e g h i j k l r x:Type}(f:a->b->c->d->e->g->h->i->j->k->l->r)(y:a×b×c×d×e×g×h×i×j×k×l×x):r:=u10 (f y.1) y.2
def okG{R:Type}{P:Program}{D:Dat}{hD:D.Ok P}{f h p:Nat}{args:List Sh}{aos:List OSh}{outs:List Sh}{ros:List OSh}{pure:Bool}{l:LSh}{pack:HL D.T l.tys->R}{un:R->HL D.T (Sh.z1i outs++z1j ros)}
  {go:Nat->HL D.T (Sh.z1i args++z1j aos)->Option R} {z2k:Nat->List (Nat×Lb D R)}{c:AC}{gs:List Nat}{fn:Func}{bs:List (FI D)}(u:OkL P bs)
  (B:P.funcs[f]? = some fn) (m:fn.ntmps=h) (e:∀args w,(callFunc f args).run P w = .ok (.enter f args) w)
  (z:∀n x,go (n+1) x=run P D (tb bs n) (jump D (z2k n)) c (entry D args aos h gs x) (y06 D l pack))
  (s:∀n,y2a (λj i=>∀x,i.go x=zyl P D (tb bs n) (jump D (z2k n)) j c (y06 D l pack) (i.sh.bld D x)) (z2k (n+1)))
  (C:fn.body=some c.erase) (q:decide c.labels.Nodup=true) (g:ywq p h args outs aos ros pure l c gs=true) (A:∀n,y92 p (z2k n)=true)
  (d:∀x,y1h P D (l.bld D x) fn.results.toList=some (z3n D (λk=>k) outs (HL.fst _ (un (pack x)))))
  (y:∀x,go 0 x=none) (r:y2a (λ_ i=>∀x,i.go x=none) (z2k 0))
  (a:∀x,pure=true∨(l.bld D x).o=z6j D (λk=>k) ros 0 (HL.snd _ (un (pack x)))) (b:c.zn2=[]) :
  FOk P (FI.of D f h p args aos outs ros pure l pack un go z2k c gs) :=
 (zth hD u (FI.z2i (hD:=hD) B m e C (Qac q) g A d y r z s a b)).1
def okF{R:Type}{f h p:Nat}{args:List Sh}{aos:List OSh}{outs:List Sh}{ros:List OSh}{pure:Bool}{l:LSh}{pack:HL dat.T l.tys->R}{un:R->HL dat.T (Sh.z1i outs++z1j ros)}
  {go:Nat->HL dat.T (Sh.z1i args++z1j aos)->Option R} {z2k:Nat->List (Nat×Lb dat R)}{c:AC}{gs:List Nat}{fn:Func}{P:Program}{bs:List (FI dat)}(u:OkL P bs)
  (B:P.funcs[f]? = some fn) (m:fn.ntmps=h) (e:∀args w,(callFunc f args).run P w = .ok (.enter f args) w)
  (z:∀n x,go (n+1) x=run P dat (tb bs n) (jump dat (z2k n)) c (entry dat args aos h gs x) (y06 dat l pack))
  (s:∀n,y2a (λj i=>∀x,i.go x=zyl P dat (tb bs n) (jump dat (z2k n)) j c (y06 dat l pack) (i.sh.bld dat x)) (z2k (n+1)))
  (C:fn.body=some c.erase:=by kernel_rfl) (q:decide c.labels.Nodup=true:=by kernel_rfl) (g:ywq p h args outs aos ros pure l c gs=true:=by kernel_rfl) (A:∀n,y92 p (z2k n)=true:=by exact λn=>by kernel_rfl)
  (d:∀x,y1h P dat (l.bld dat x) fn.results.toList=some (z3n dat (λk=>k) outs (HL.fst _ (un (pack x)))):=by exact λx=>by kernel_rfl)
  (y:∀x,go 0 x=none:=by exact λ_=>rfl) (r:y2a (λ_ i=>∀x,i.go x=none) (z2k 0):=by repeat (first|exact trivial|refine⟨λ_=>rfl,?_⟩))
  (a:∀x,pure=true∨(l.bld dat x).o=z6j dat (λk=>k) ros 0 (HL.snd _ (un (pack x))):=by first|exact λx=>.inl rfl|exact λx=>.inr (by kernel_rfl)) (b:c.zn2=[]:=by kernel_rfl) :
  FOk P (FI.of dat f h p args aos outs ros pure l pack un go z2k c gs) :=
 okG (hD:=kzd P) u B m e z s C q g A d y r a b
end Go.Ab
namespace Go.Proofs
open Go.Shelf
open Go.Proofs.Tryz
def yvi:Go.Shelf.Ren:=⟨λ|137=>99|217=>154|266=>198|n=>n,λ|9=>9|5=>5|3=>3|n=>n,λ|n=>n⟩
def z0cx:Go.Proofs.Lays.n137 prog yvi:={
 mixed:=by kernel_rfl
 f137:=func99.trans (congrArg some (by kernel_rfl))
 f217:=func154.trans (congrArg some (by kernel_rfl))
 f266:=func198.trans (congrArg some (by kernel_rfl))
 t3:=underlying3
 a3:=isAgg3
 z3:=sizeOf3
 v3:=zeroValue3
 t5:=underlying5
 a5:=isAgg5
 z5:=sizeOf5
 v5:=zeroValue5
 t9:=underlying9
 a9:=isAgg9
 z9:=sizeOf9
 v9:=zeroValue9}
def yy2:Go.Shelf.Ren:=⟨λ|190=>46|125=>109|258=>108|128=>171|129=>172|302=>162|303=>163|304=>164|305=>165|306=>166|307=>167|308=>168|309=>169|310=>170|333=>209|329=>210|330=>211|334=>212|335=>213|336=>214|344=>251|n=>n,λ|31=>44|9=>9|3=>3|46=>152|0=>0|51=>203|53=>205|4=>4|183=>197|182=>196|131=>79|5=>5|218=>236|222=>240|228=>282|229=>183|n=>n,λ|n=>n⟩
def z02t:Go.Proofs.Lays.n190 prog yy2:={
 mixed:=by kernel_rfl
 f125:=func109.trans (congrArg some (by kernel_rfl))
 f128:=func171.trans (congrArg some (by kernel_rfl))
 f129:=func172.trans (congrArg some (by kernel_rfl))
 f190:=func46.trans (congrArg some (by kernel_rfl))
 f258:=func108.trans (congrArg some (by kernel_rfl))
 f302:=func162.trans (congrArg some (by kernel_rfl))
 f303:=func163.trans (congrArg some (by kernel_rfl))
 f304:=func164.trans (congrArg some (by kernel_rfl))
 f305:=func165.trans (congrArg some (by kernel_rfl))
 f306:=func166.trans (congrArg some (by kernel_rfl))
 f307:=func167.trans (congrArg some (by kernel_rfl))
 f308:=func168.trans (congrArg some (by kernel_rfl))
 f309:=func169.trans (congrArg some (by kernel_rfl))
 f310:=func170.trans (congrArg some (by kernel_rfl))
 f329:=func210.trans (congrArg some (by kernel_rfl))
 f330:=func211.trans (congrArg some (by kernel_rfl))
 f333:=func209.trans (congrArg some (by kernel_rfl))
 f334:=func212.trans (congrArg some (by kernel_rfl))
 f335:=func213.trans (congrArg some (by kernel_rfl))
 f336:=func214.trans (congrArg some (by kernel_rfl))
 f344:=func251.trans (congrArg some (by kernel_rfl))
 t0:=underlying0
 a0:=isAgg0
 z0:=sizeOf0
 v0:=zeroValue0
 t3:=underlying3
 a3:=isAgg3
 z3:=sizeOf3
 v3:=zeroValue3
 t4:=underlying4
 a4:=isAgg4
 z4:=sizeOf4
 v4:=zeroValue4
 t5:=underlying5
 a5:=isAgg5
 z5:=sizeOf5
 v5:=zeroValue5
 t9:=underlying9
 a9:=isAgg9
 z9:=sizeOf9
 v9:=zeroValue9
 t31:=underlying44
 a31:=isAgg44
 z31:=sizeOf44
 v31:=zeroValue44
 t46:=underlying152
 a46:=isAgg152
 z46:=sizeOf152
 v46:=zeroValue152
 t51:=underlying203
 a51:=isAgg203
 z51:=sizeOf203
 v51:=zeroValue203
 t53:=underlying205
 a53:=isAgg205
 z53:=sizeOf205
 v53:=zeroValue205
 t131:=underlying79
 a131:=isAgg79
 z131:=sizeOf79
 v131:=zeroValue79
 t182:=underlying196
 a182:=isAgg196
 z182:=sizeOf196
 v182:=zeroValue196
 t183:=underlying197
 a183:=isAgg197
 z183:=sizeOf197
 v183:=zeroValue197
 t218:=underlying236
 a218:=isAgg236
 z218:=sizeOf236
 v218:=zeroValue236
 t222:=underlying240
 a222:=isAgg240
 z222:=sizeOf240
 v222:=zeroValue240
 t228:=underlying282
 a228:=isAgg282
 z228:=sizeOf282
 v228:=zeroValue282
 t229:=underlying183
 a229:=isAgg183
 z229:=sizeOf183
 v229:=zeroValue183}
def yuz:Go.Shelf.Ren:=⟨λ|194=>47|n=>n,λ|31=>44|9=>9|3=>3|4=>4|0=>0|n=>n,λ|n=>n⟩
def z02o:Go.Proofs.Lays.n194 prog yuz:={
 mixed:=by kernel_rfl
 f194:=func47.trans (congrArg some (by kernel_rfl))
 t0:=underlying0
 a0:=isAgg0
 z0:=sizeOf0
 v0:=zeroValue0
 t3:=underlying3
 a3:=isAgg3
 z3:=sizeOf3
 v3:=zeroValue3
 t4:=underlying4
 a4:=isAgg4
 z4:=sizeOf4
 v4:=zeroValue4
 t9:=underlying9
 a9:=isAgg9
 z9:=sizeOf9
 v9:=zeroValue9
 t31:=underlying44
 a31:=isAgg44
 z31:=sizeOf44
 v31:=zeroValue44}
def yct:Go.Shelf.Ren:=⟨λ|146=>102|221=>157|268=>201|138=>202|143=>203|195=>245|197=>246|218=>247|219=>199|260=>274|217=>154|225=>239|224=>240|267=>241|266=>198|314=>268|n=>n,λ|9=>9|31=>44|3=>3|4=>4|0=>0|105=>274|21=>21|5=>5|46=>152|119=>213|139=>328|138=>327|146=>306|51=>203|n=>n,λ|1=>2|3=>6|4=>7|n=>n⟩
def yty:Go.Proofs.Lays.n146 prog yct:={
 mixed:=by kernel_rfl
 f138:=func202.trans (congrArg some (by kernel_rfl))
 f143:=func203.trans (congrArg some (by kernel_rfl))
 f146:=func102.trans (congrArg some (by kernel_rfl))
 f195:=func245.trans (congrArg some (by kernel_rfl))
 f197:=func246.trans (congrArg some (by kernel_rfl))
 f217:=func154.trans (congrArg some (by kernel_rfl))
 f218:=func247.trans (congrArg some (by kernel_rfl))
 f219:=func199.trans (congrArg some (by kernel_rfl))
 f221:=func157.trans (congrArg some (by kernel_rfl))
 f224:=func240.trans (congrArg some (by kernel_rfl))
 f225:=func239.trans (congrArg some (by kernel_rfl))
 f260:=func274.trans (congrArg some (by kernel_rfl))
 f266:=func198.trans (congrArg some (by kernel_rfl))
 f267:=func241.trans (congrArg some (by kernel_rfl))
 f268:=func201.trans (congrArg some (by kernel_rfl))
 f314:=func268.trans (congrArg some (by kernel_rfl))
 t0:=underlying0
 a0:=isAgg0
 z0:=sizeOf0
 v0:=zeroValue0
 t3:=underlying3
 a3:=isAgg3
 z3:=sizeOf3
 v3:=zeroValue3
 t4:=underlying4
 a4:=isAgg4
 z4:=sizeOf4
 v4:=zeroValue4
 t5:=underlying5
 a5:=isAgg5
 z5:=sizeOf5
 v5:=zeroValue5
 t9:=underlying9
 a9:=isAgg9
 z9:=sizeOf9
 v9:=zeroValue9
 t21:=underlying21
 a21:=isAgg21
 z21:=sizeOf21
 v21:=zeroValue21
 t31:=underlying44
 a31:=isAgg44
 z31:=sizeOf44
 v31:=zeroValue44
 t46:=underlying152
 a46:=isAgg152
 z46:=sizeOf152
 v46:=zeroValue152
 t51:=underlying203
 a51:=isAgg203
 z51:=sizeOf203
 v51:=zeroValue203
 t105:=underlying274
 a105:=isAgg274
 z105:=sizeOf274
 v105:=zeroValue274
 t119:=underlying213
 a119:=isAgg213
 z119:=sizeOf213
 t138:=underlying327
 a138:=isAgg327
 z138:=sizeOf327
 v138:=zeroValue327
 t139:=underlying328
 a139:=isAgg328
 z139:=sizeOf328
 v139:=zeroValue328
 t146:=underlying306
 a146:=isAgg306
 z146:=sizeOf306
 v146:=zeroValue306
 g1:=by kernel_rfl
 g3:=by kernel_rfl
 g4:=by kernel_rfl}
def yda:Go.Shelf.Ren:=⟨λ|156=>60|165=>123|166=>59|169=>66|240=>122|241=>180|276=>179|277=>223|n=>n,λ|31=>44|9=>9|3=>3|4=>4|0=>0|20=>20|72=>111|76=>114|70=>108|37=>109|75=>113|127=>163|164=>209|5=>5|80=>123|n=>n,λ|n=>n⟩
def yq1:Go.Proofs.Lays.n156 prog yda:={
 mixed:=by kernel_rfl
 f156:=func60.trans (congrArg some (by kernel_rfl))
 f165:=func123.trans (congrArg some (by kernel_rfl))
 f166:=func59.trans (congrArg some (by kernel_rfl))
 f169:=func66.trans (congrArg some (by kernel_rfl))
 f240:=func122.trans (congrArg some (by kernel_rfl))
 f241:=func180.trans (congrArg some (by kernel_rfl))
 f276:=func179.trans (congrArg some (by kernel_rfl))
 f277:=func223.trans (congrArg some (by kernel_rfl))
 t0:=underlying0
 a0:=isAgg0
 z0:=sizeOf0
 v0:=zeroValue0
 t3:=underlying3
 a3:=isAgg3
 z3:=sizeOf3
 v3:=zeroValue3
 t4:=underlying4
 a4:=isAgg4
 z4:=sizeOf4
 v4:=zeroValue4
 t9:=underlying9
 a9:=isAgg9
 z9:=sizeOf9
 v9:=zeroValue9
 t20:=underlying20
 a20:=isAgg20
 z20:=sizeOf20
 v20:=zeroValue20
 t31:=underlying44
 a31:=isAgg44
 z31:=sizeOf44
 v31:=zeroValue44
 t37:=underlying109
 a37:=isAgg109
 z37:=sizeOf109
 v37:=zeroValue109
 t70:=underlying108
 a70:=isAgg108
 z70:=sizeOf108
 v70:=zeroValue108
 t72:=underlying111
 a72:=isAgg111
 z72:=sizeOf111
 v72:=zeroValue111
 t75:=underlying113
 a75:=isAgg113
 z75:=sizeOf113
 v75:=zeroValue113
 t76:=underlying114
 a76:=isAgg114
 z76:=sizeOf114
 v76:=zeroValue114
 t127:=underlying163
 a127:=isAgg163
 z127:=sizeOf163
 v127:=zeroValue163
 t164:=underlying209
 a164:=isAgg209
 z164:=sizeOf209
 v164:=zeroValue209}
def yu0:Go.Shelf.Ren:=⟨λ|157=>126|229=>184|199=>185|261=>229|311=>261|312=>262|n=>n,λ|9=>9|31=>44|3=>3|5=>5|4=>4|119=>213|0=>0|40=>215|152=>252|21=>21|154=>254|51=>203|141=>256|196=>294|193=>291|198=>297|49=>295|194=>292|201=>300|226=>314|46=>152|227=>315|n=>n,λ|0=>0|6=>1|n=>n⟩
def z0cb:Go.Proofs.Lays.n157 prog yu0:={
 mixed:=by kernel_rfl
 f157:=func126.trans (congrArg some (by kernel_rfl))
 f199:=func185.trans (congrArg some (by kernel_rfl))
 f229:=func184.trans (congrArg some (by kernel_rfl))
 f261:=func229.trans (congrArg some (by kernel_rfl))
 f311:=func261.trans (congrArg some (by kernel_rfl))
 f312:=func262.trans (congrArg some (by kernel_rfl))
 t0:=underlying0
 a0:=isAgg0
 z0:=sizeOf0
 v0:=zeroValue0
 t3:=underlying3
 a3:=isAgg3
 z3:=sizeOf3
 v3:=zeroValue3
 t4:=underlying4
 a4:=isAgg4
 z4:=sizeOf4
 v4:=zeroValue4
 t5:=underlying5
 a5:=isAgg5
 z5:=sizeOf5
 v5:=zeroValue5
 t9:=underlying9
 a9:=isAgg9
 z9:=sizeOf9
 v9:=zeroValue9
 t21:=underlying21
 a21:=isAgg21
 z21:=sizeOf21
 v21:=zeroValue21
 t31:=underlying44
 a31:=isAgg44
 z31:=sizeOf44
 v31:=zeroValue44
 t40:=underlying215
 a40:=isAgg215
 z40:=sizeOf215
 v40:=zeroValue215
 t46:=underlying152
 a46:=isAgg152
 z46:=sizeOf152
 v46:=zeroValue152
 t49:=underlying295
 a49:=isAgg295
 z49:=sizeOf295
 v49:=zeroValue295
 t51:=underlying203
 a51:=isAgg203
 z51:=sizeOf203
 v51:=zeroValue203
 t119:=underlying213
 a119:=isAgg213
 z119:=sizeOf213
 t141:=underlying256
 a141:=isAgg256
 z141:=sizeOf256
 v141:=zeroValue256
 t152:=underlying252
 a152:=isAgg252
 z152:=sizeOf252
 v152:=zeroValue252
 t154:=underlying254
 a154:=isAgg254
 z154:=sizeOf254
 v154:=zeroValue254
 t193:=underlying291
 a193:=isAgg291
 z193:=sizeOf291
 v193:=zeroValue291
 t194:=underlying292
 a194:=isAgg292
 z194:=sizeOf292
 v194:=zeroValue292
 t196:=underlying294
 a196:=isAgg294
 z196:=sizeOf294
 v196:=zeroValue294
 t198:=underlying297
 a198:=isAgg297
 z198:=sizeOf297
 v198:=zeroValue297
 t201:=underlying300
 a201:=isAgg300
 z201:=sizeOf300
 v201:=zeroValue300
 t226:=underlying314
 a226:=isAgg314
 z226:=sizeOf314
 v226:=zeroValue314
 t227:=underlying315
 a227:=isAgg315
 z227:=sizeOf315
 v227:=zeroValue315
 g0:=by kernel_rfl
 g6:=by kernel_rfl}
def ycs:Go.Shelf.Ren:=⟨λ|169=>66|n=>n,λ|70=>108|9=>9|0=>0|72=>111|37=>109|127=>163|3=>3|5=>5|n=>n,λ|n=>n⟩
def ytq:Go.Proofs.Lays.n169 prog ycs:={
 mixed:=by kernel_rfl
 f169:=func66.trans (congrArg some (by kernel_rfl))
 t0:=underlying0
 a0:=isAgg0
 z0:=sizeOf0
 v0:=zeroValue0
 t3:=underlying3
 a3:=isAgg3
 z3:=sizeOf3
 v3:=zeroValue3
 t9:=underlying9
 a9:=isAgg9
 z9:=sizeOf9
 v9:=zeroValue9
 t37:=underlying109
 a37:=isAgg109
 z37:=sizeOf109
 v37:=zeroValue109
 t70:=underlying108
 a70:=isAgg108
 z70:=sizeOf108
 v70:=zeroValue108
 t72:=underlying111
 a72:=isAgg111
 z72:=sizeOf111
 v72:=zeroValue111
 t127:=underlying163
 a127:=isAgg163
 z127:=sizeOf163
 v127:=zeroValue163}
def yww:Go.Shelf.Ren:=⟨λ|217=>154|266=>198|n=>n,λ|9=>9|5=>5|3=>3|n=>n,λ|n=>n⟩
def z0bp:Go.Proofs.Lays.n217 prog yww:={
 mixed:=by kernel_rfl
 f217:=func154.trans (congrArg some (by kernel_rfl))
 f266:=func198.trans (congrArg some (by kernel_rfl))
 t3:=underlying3
 a3:=isAgg3
 z3:=sizeOf3
 v3:=zeroValue3
 t5:=underlying5
 a5:=isAgg5
 z5:=sizeOf5
 v5:=zeroValue5
 t9:=underlying9
 a9:=isAgg9
 z9:=sizeOf9
 v9:=zeroValue9}
def yum:Go.Shelf.Ren:=⟨λ|219=>199|217=>154|225=>239|224=>240|267=>241|266=>198|314=>268|n=>n,λ|9=>9|3=>3|4=>4|5=>5|46=>152|146=>306|51=>203|n=>n,λ|1=>2|n=>n⟩
def z0dh:Go.Proofs.Lays.n219 prog yum:={
 mixed:=by kernel_rfl
 f217:=func154.trans (congrArg some (by kernel_rfl))
 f219:=func199.trans (congrArg some (by kernel_rfl))
 f224:=func240.trans (congrArg some (by kernel_rfl))
 f225:=func239.trans (congrArg some (by kernel_rfl))
 f266:=func198.trans (congrArg some (by kernel_rfl))
 f267:=func241.trans (congrArg some (by kernel_rfl))
 f314:=func268.trans (congrArg some (by kernel_rfl))
 t3:=underlying3
 a3:=isAgg3
 z3:=sizeOf3
 v3:=zeroValue3
 t4:=underlying4
 a4:=isAgg4
 z4:=sizeOf4
 v4:=zeroValue4
 t5:=underlying5
 a5:=isAgg5
 z5:=sizeOf5
 v5:=zeroValue5
 t9:=underlying9
 a9:=isAgg9
 z9:=sizeOf9
 v9:=zeroValue9
 t46:=underlying152
 a46:=isAgg152
 z46:=sizeOf152
 v46:=zeroValue152
 t51:=underlying203
 a51:=isAgg203
 z51:=sizeOf203
 v51:=zeroValue203
 t146:=underlying306
 a146:=isAgg306
 z146:=sizeOf306
 v146:=zeroValue306
 g1:=by kernel_rfl}
def yro:Go.Shelf.Ren:=⟨λ|171=>63|243=>125|246=>183|283=>225|284=>226|285=>227|286=>228|129=>172|317=>257|318=>258|319=>259|320=>260|337=>279|338=>280|n=>n,λ|3=>3|9=>9|2=>2|4=>4|171=>248|0=>0|53=>205|37=>109|5=>5|173=>250|212=>288|51=>203|20=>20|213=>289|46=>152|232=>329|233=>330|n=>n,λ|17=>5|18=>8|19=>9|n=>n⟩
def z09q:Go.Proofs.LaysM.n171 prog yro:={
 mixed:=by kernel_rfl
 f129:=func172.trans (congrArg some (by kernel_rfl))
 f171:=func63.trans (congrArg some (by kernel_rfl))
 f243:=func125.trans (congrArg some (by kernel_rfl))
 f246:=func183.trans (congrArg some (by kernel_rfl))
 f283:=func225.trans (congrArg some (by kernel_rfl))
 f284:=func226.trans (congrArg some (by kernel_rfl))
 f285:=func227.trans (congrArg some (by kernel_rfl))
 f286:=func228.trans (congrArg some (by kernel_rfl))
 f317:=func257.trans (congrArg some (by kernel_rfl))
 f318:=func258.trans (congrArg some (by kernel_rfl))
 f319:=func259.trans (congrArg some (by kernel_rfl))
 f320:=func260.trans (congrArg some (by kernel_rfl))
 f337:=func279.trans (congrArg some (by kernel_rfl))
 f338:=func280.trans (congrArg some (by kernel_rfl))
 t0:=underlying0
 a0:=isAgg0
 z0:=sizeOf0
 v0:=zeroValue0
 t2:=underlying2
 a2:=isAgg2
 z2:=sizeOf2
 v2:=zeroValue2
 t3:=underlying3
 a3:=isAgg3
 z3:=sizeOf3
 v3:=zeroValue3
 t4:=underlying4
 a4:=isAgg4
 z4:=sizeOf4
 v4:=zeroValue4
 t5:=underlying5
 a5:=isAgg5
 z5:=sizeOf5
 v5:=zeroValue5
 t9:=underlying9
 a9:=isAgg9
 z9:=sizeOf9
 v9:=zeroValue9
 t20:=underlying20
 a20:=isAgg20
 z20:=sizeOf20
 v20:=zeroValue20
 t37:=underlying109
 a37:=isAgg109
 z37:=sizeOf109
 v37:=zeroValue109
 t46:=underlying152
 a46:=isAgg152
 z46:=sizeOf152
 v46:=zeroValue152
 t51:=underlying203
 a51:=isAgg203
 z51:=sizeOf203
 v51:=zeroValue203
 t53:=underlying205
 a53:=isAgg205
 z53:=sizeOf205
 v53:=zeroValue205
 t171:=underlying248
 a171:=isAgg248
 z171:=sizeOf248
 v171:=zeroValue248
 t173:=underlying250
 a173:=isAgg250
 z173:=sizeOf250
 v173:=zeroValue250
 t212:=underlying288
 a212:=isAgg288
 z212:=sizeOf288
 v212:=zeroValue288
 t213:=underlying289
 a213:=isAgg289
 z213:=sizeOf289
 t232:=underlying329
 a232:=isAgg329
 z232:=sizeOf329
 v232:=zeroValue329
 t233:=underlying330
 a233:=isAgg330
 z233:=sizeOf330
 v233:=zeroValue330
 g17:=by kernel_rfl
 g18:=by kernel_rfl
 g19:=by kernel_rfl
 i0:=by kernel_rfl
 i2:=by kernel_rfl
 i3:=by kernel_rfl
 i4:=by kernel_rfl
 i5:=by kernel_rfl
 i9:=by kernel_rfl
 i20:=by kernel_rfl
 i37:=by kernel_rfl
 i46:=by kernel_rfl
 i51:=by kernel_rfl
 i53:=by kernel_rfl
 i171:=by kernel_rfl
 i173:=by kernel_rfl
 i212:=by kernel_rfl
 i232:=by kernel_rfl
 i233:=by kernel_rfl
 m17:=by kernel_rfl
 m18:=by kernel_rfl
 m19:=by kernel_rfl}
def ytm:Go.Shelf.Ren:=⟨λ|173=>277|246=>183|283=>225|284=>226|285=>227|286=>228|129=>172|317=>257|318=>258|319=>259|320=>260|337=>279|338=>280|n=>n,λ|2=>2|3=>3|9=>9|4=>4|171=>248|0=>0|53=>205|37=>109|5=>5|173=>250|212=>288|51=>203|20=>20|213=>289|46=>152|232=>329|233=>330|n=>n,λ|17=>5|18=>8|19=>9|n=>n⟩
def z0as:Go.Proofs.LaysM.n173 prog ytm:={
 mixed:=by kernel_rfl
 f129:=func172.trans (congrArg some (by kernel_rfl))
 f173:=func277.trans (congrArg some (by kernel_rfl))
 f246:=func183.trans (congrArg some (by kernel_rfl))
 f283:=func225.trans (congrArg some (by kernel_rfl))
 f284:=func226.trans (congrArg some (by kernel_rfl))
 f285:=func227.trans (congrArg some (by kernel_rfl))
 f286:=func228.trans (congrArg some (by kernel_rfl))
 f317:=func257.trans (congrArg some (by kernel_rfl))
 f318:=func258.trans (congrArg some (by kernel_rfl))
 f319:=func259.trans (congrArg some (by kernel_rfl))
 f320:=func260.trans (congrArg some (by kernel_rfl))
 f337:=func279.trans (congrArg some (by kernel_rfl))
 f338:=func280.trans (congrArg some (by kernel_rfl))
 t0:=underlying0
 a0:=isAgg0
 z0:=sizeOf0
 v0:=zeroValue0
 t2:=underlying2
 a2:=isAgg2
 z2:=sizeOf2
 v2:=zeroValue2
 t3:=underlying3
 a3:=isAgg3
 z3:=sizeOf3
 v3:=zeroValue3
 t4:=underlying4
 a4:=isAgg4
 z4:=sizeOf4
 v4:=zeroValue4
 t5:=underlying5
 a5:=isAgg5
 z5:=sizeOf5
 v5:=zeroValue5
 t9:=underlying9
 a9:=isAgg9
 z9:=sizeOf9
 v9:=zeroValue9
 t20:=underlying20
 a20:=isAgg20
 z20:=sizeOf20
 v20:=zeroValue20
 t37:=underlying109
 a37:=isAgg109
 z37:=sizeOf109
 v37:=zeroValue109
 t46:=underlying152
 a46:=isAgg152
 z46:=sizeOf152
 v46:=zeroValue152
 t51:=underlying203
 a51:=isAgg203
 z51:=sizeOf203
 v51:=zeroValue203
 t53:=underlying205
 a53:=isAgg205
 z53:=sizeOf205
 v53:=zeroValue205
 t171:=underlying248
 a171:=isAgg248
 z171:=sizeOf248
 v171:=zeroValue248
 t173:=underlying250
 a173:=isAgg250
 z173:=sizeOf250
 v173:=zeroValue250
 t212:=underlying288
 a212:=isAgg288
 z212:=sizeOf288
 v212:=zeroValue288
 t213:=underlying289
 a213:=isAgg289
 z213:=sizeOf289
 t232:=underlying329
 a232:=isAgg329
 z232:=sizeOf329
 v232:=zeroValue329
 t233:=underlying330
 a233:=isAgg330
 z233:=sizeOf330
 v233:=zeroValue330
 g17:=by kernel_rfl
 g18:=by kernel_rfl
 g19:=by kernel_rfl
 i0:=by kernel_rfl
 i2:=by kernel_rfl
 i3:=by kernel_rfl
 i4:=by kernel_rfl
 i5:=by kernel_rfl
 i9:=by kernel_rfl
 i20:=by kernel_rfl
 i37:=by kernel_rfl
 i46:=by kernel_rfl
 i51:=by kernel_rfl
 i53:=by kernel_rfl
 i171:=by kernel_rfl
 i173:=by kernel_rfl
 i212:=by kernel_rfl
 i232:=by kernel_rfl
 i233:=by kernel_rfl
 m17:=by kernel_rfl
 m18:=by kernel_rfl
 m19:=by kernel_rfl}
def yr4:Go.Shelf.Ren:=⟨λ|172=>103|244=>158|245=>159|247=>204|279=>205|280=>206|281=>207|282=>208|287=>248|316=>249|171=>63|205=>250|321=>275|322=>276|243=>125|246=>183|283=>225|284=>226|285=>227|286=>228|129=>172|317=>257|318=>258|319=>259|320=>260|337=>279|338=>280|n=>n,λ|9=>9|3=>3|75=>113|76=>114|4=>4|5=>5|167=>230|37=>109|0=>0|85=>231|2=>2|168=>233|53=>205|175=>276|46=>152|210=>280|127=>163|145=>312|143=>310|21=>21|171=>248|173=>250|212=>288|51=>203|20=>20|213=>289|232=>329|233=>330|80=>123|n=>n,λ|15=>3|16=>4|17=>5|18=>8|19=>9|n=>n⟩
def yif:Go.Proofs.LaysC.n172 prog yr4:={
 mixed:=by kernel_rfl
 f129:=func172.trans (congrArg some (by kernel_rfl))
 f171:=func63.trans (congrArg some (by kernel_rfl))
 f172:=func103.trans (congrArg some (by kernel_rfl))
 f205:=func250.trans (congrArg some (by kernel_rfl))
 f243:=func125.trans (congrArg some (by kernel_rfl))
 f244:=func158.trans (congrArg some (by kernel_rfl))
 f245:=func159.trans (congrArg some (by kernel_rfl))
 f246:=func183.trans (congrArg some (by kernel_rfl))
 f247:=func204.trans (congrArg some (by kernel_rfl))
 f279:=func205.trans (congrArg some (by kernel_rfl))
 f280:=func206.trans (congrArg some (by kernel_rfl))
 f281:=func207.trans (congrArg some (by kernel_rfl))
 f282:=func208.trans (congrArg some (by kernel_rfl))
 f283:=func225.trans (congrArg some (by kernel_rfl))
 f284:=func226.trans (congrArg some (by kernel_rfl))
 f285:=func227.trans (congrArg some (by kernel_rfl))
 f286:=func228.trans (congrArg some (by kernel_rfl))
 f287:=func248.trans (congrArg some (by kernel_rfl))
 f316:=func249.trans (congrArg some (by kernel_rfl))
 f317:=func257.trans (congrArg some (by kernel_rfl))
 f318:=func258.trans (congrArg some (by kernel_rfl))
 f319:=func259.trans (congrArg some (by kernel_rfl))
 f320:=func260.trans (congrArg some (by kernel_rfl))
 f321:=func275.trans (congrArg some (by kernel_rfl))
 f322:=func276.trans (congrArg some (by kernel_rfl))
 f337:=func279.trans (congrArg some (by kernel_rfl))
 f338:=func280.trans (congrArg some (by kernel_rfl))
 t0:=underlying0
 a0:=isAgg0
 z0:=sizeOf0
 v0:=zeroValue0
 t2:=underlying2
 a2:=isAgg2
 z2:=sizeOf2
 v2:=zeroValue2
 t3:=underlying3
 a3:=isAgg3
 z3:=sizeOf3
 v3:=zeroValue3
 t4:=underlying4
 a4:=isAgg4
 z4:=sizeOf4
 v4:=zeroValue4
 t5:=underlying5
 a5:=isAgg5
 z5:=sizeOf5
 v5:=zeroValue5
 t9:=underlying9
 a9:=isAgg9
 z9:=sizeOf9
 v9:=zeroValue9
 t20:=underlying20
 a20:=isAgg20
 z20:=sizeOf20
 v20:=zeroValue20
 t21:=underlying21
 a21:=isAgg21
 z21:=sizeOf21
 v21:=zeroValue21
 t37:=underlying109
 a37:=isAgg109
 z37:=sizeOf109
 v37:=zeroValue109
 t46:=underlying152
 a46:=isAgg152
 z46:=sizeOf152
 v46:=zeroValue152
 t51:=underlying203
 a51:=isAgg203
 z51:=sizeOf203
 v51:=zeroValue203
 t53:=underlying205
 a53:=isAgg205
 z53:=sizeOf205
 v53:=zeroValue205
 t75:=underlying113
 a75:=isAgg113
 z75:=sizeOf113
 v75:=zeroValue113
 t76:=underlying114
 a76:=isAgg114
 z76:=sizeOf114
 v76:=zeroValue114
 t85:=underlying231
 a85:=isAgg231
 z85:=sizeOf231
 v85:=zeroValue231
 t127:=underlying163
 a127:=isAgg163
 z127:=sizeOf163
 v127:=zeroValue163
 t143:=underlying310
 a143:=isAgg310
 z143:=sizeOf310
 v143:=zeroValue310
 t145:=underlying312
 a145:=isAgg312
 z145:=sizeOf312
 v145:=zeroValue312
 t167:=underlying230
 a167:=isAgg230
 z167:=sizeOf230
 v167:=zeroValue230
 t168:=underlying233
 a168:=isAgg233
 z168:=sizeOf233
 v168:=zeroValue233
 t171:=underlying248
 a171:=isAgg248
 z171:=sizeOf248
 v171:=zeroValue248
 t173:=underlying250
 a173:=isAgg250
 z173:=sizeOf250
 v173:=zeroValue250
 t175:=underlying276
 a175:=isAgg276
 z175:=sizeOf276
 v175:=zeroValue276
 t210:=underlying280
 a210:=isAgg280
 z210:=sizeOf280
 v210:=zeroValue280
 t212:=underlying288
 a212:=isAgg288
 z212:=sizeOf288
 v212:=zeroValue288
 t213:=underlying289
 a213:=isAgg289
 z213:=sizeOf289
 t232:=underlying329
 a232:=isAgg329
 z232:=sizeOf329
 v232:=zeroValue329
 t233:=underlying330
 a233:=isAgg330
 z233:=sizeOf330
 v233:=zeroValue330
 g15:=by kernel_rfl
 g16:=by kernel_rfl
 g17:=by kernel_rfl
 g18:=by kernel_rfl
 g19:=by kernel_rfl
 t80:=underlying123
 a80:=isAgg123
 z80:=sizeOf123
 v80:=zeroValue123
 i0:=by kernel_rfl
 i2:=by kernel_rfl
 i3:=by kernel_rfl
 i4:=by kernel_rfl
 i5:=by kernel_rfl
 i9:=by kernel_rfl
 i20:=by kernel_rfl
 i21:=by kernel_rfl
 i37:=by kernel_rfl
 i46:=by kernel_rfl
 i51:=by kernel_rfl
 i53:=by kernel_rfl
 i75:=by kernel_rfl
 i76:=by kernel_rfl
 i80:=by kernel_rfl
 i85:=by kernel_rfl
 i127:=by kernel_rfl
 i143:=by kernel_rfl
 i145:=by kernel_rfl
 i167:=by kernel_rfl
 i168:=by kernel_rfl
 i171:=by kernel_rfl
 i173:=by kernel_rfl
 i175:=by kernel_rfl
 i210:=by kernel_rfl
 i212:=by kernel_rfl
 i232:=by kernel_rfl
 i233:=by kernel_rfl
 m15:=by kernel_rfl
 m16:=by kernel_rfl
 m17:=by kernel_rfl
 m18:=by kernel_rfl
 m19:=by kernel_rfl
 c0:=by kernel_rfl
 c2:=by kernel_rfl
 c3:=by kernel_rfl
 c4:=by kernel_rfl
 c5:=by kernel_rfl
 c9:=by kernel_rfl
 c20:=by kernel_rfl
 c21:=by kernel_rfl
 c37:=by kernel_rfl
 c46:=by kernel_rfl
 c51:=by kernel_rfl
 c53:=by kernel_rfl
 c75:=by kernel_rfl
 c76:=by kernel_rfl
 c80:=by kernel_rfl
 c85:=by kernel_rfl
 c127:=by kernel_rfl
 c143:=by kernel_rfl
 c145:=by kernel_rfl
 c167:=by kernel_rfl
 c168:=by kernel_rfl
 c171:=by kernel_rfl
 c173:=by kernel_rfl
 c175:=by kernel_rfl
 c210:=by kernel_rfl
 c212:=by kernel_rfl
 c213:=by kernel_rfl
 c232:=by kernel_rfl
 c233:=by kernel_rfl}
def zk2:Builder.Extra prog yda:={
 sizeBuilder:=by kernel_rfl
 liesBuilder:=by kernel_rfl
 t5:=underlying5
 a5:=isAgg5
 z5:=sizeOf5
 v5:=zeroValue5
 infoByte:=by kernel_rfl
 cellsByte:=by kernel_rfl
 sizeByte:=by kernel_rfl
 neB5:=by decide}
def z6k:Builder.Extra prog ycs:={
 sizeBuilder:=by kernel_rfl
 liesBuilder:=by kernel_rfl
 t5:=underlying5
 a5:=isAgg5
 z5:=sizeOf5
 v5:=zeroValue5
 infoByte:=by kernel_rfl
 cellsByte:=by kernel_rfl
 sizeByte:=by kernel_rfl
 neB5:=by decide}
end Go.Proofs
namespace Go.Proofs.YthphaiccgnkobaaGreatDoor
open Go Go.Ab Go.Proofs
open Go.RowKit
open Go.Proofs.Tryz
attribute [local go_sem] Oper.semAt_some
def z02m:∀{s},s.any (· == 10)=false->lnA s=s∧lnB s=[]
 |[],_=>⟨rfl,rfl⟩
 |c::r,h=>by
  simp only[List.any_cons,Bool.or_eq_false_iff]at h;have⟨b,a⟩:=z02m h.2;simp[lnA,lnB,h.1,b,a,and_self]
def z02z:∀{s},s.any (· == 10)=true->lnA s=s.take ((s.takeWhile (· != 10)).length+1)∧lnB s=s.drop ((s.takeWhile (· != 10)).length+1)
 |[],h=>by simp at h
 |c::r,h=>by
  cases a:c==10;have b:=z02z (s:=r) (by simpa[a]using h);simp[lnA,lnB,List.takeWhile_cons,List.drop_succ_cons]
  grind
  simp[lnA,lnB,a,bne]
abbrev S(s:B8):Value:=.string ⟨s.toArray⟩
def yus(n)(s){k}(a:Lib.indexByte s 10=k)(W):CallsIn Fence.wide n prog 99 #[S s,.int .u8 10] W λe W'=>e = .returned (.int .i64 k)∧W'=W:=by
 subst a;refine callsIn_wide.2 ?_;exact(Any.strings_IndexByte {z0cx with} ⟨s.toArray⟩ 10 W).mono λe g ⟨d,b⟩=>⟨by rw[d];rfl,b⟩
def z00v(a:Nat)(W:World):Nat:=match W.cell? ⟨a,0,none⟩with
 |some (.string b)=>b.size
 |_=>0
set_option maxRecDepth 100000 in
set_option maxHeartbeats 2000000 in
def z04u(n l Bs:Nat)(K:B8->World->Prop)(Kx:World->Prop)(s:B8)(W:World)
  (hc:∀r W,K r W->W.cell? ⟨Bs,0,none⟩=some (.string ⟨r.toArray⟩)∧W.frozen? ⟨Bs,0,none⟩=false)
  (hg:∀r W W',K r W->Grow W W'->K r W')
  (hY:∀r W,r≠[]->K r W->YieldAt Fence.wide (n-1) prog l #[.string ⟨(lnA r).toArray⟩] (W.setCell ⟨Bs,0,none⟩ (.string ⟨(lnB r).toArray⟩)) λe W'=>
   (e = .returned (.bool true)∧K (lnB r) W')∨(e = .returned (.bool false)∧Kx W'))
  (hs:s.length<=4611686018427387904) (h0:K s W):CallsIn Fence.wide n prog 98 #[.func (.yield l) #[] #[],.pointer (some ⟨Bs,0,none⟩)] W λe W'=>(∃v,e = .returned v)∧(K [] W'∨Kx W'):=by
 refine callsIn_of_wp func98 rfl trivial ?_ rfl;simp only[ntmps98,List.size_toArray,List.length_cons,List.length_nil,Nat.reduceAdd,Nat.reduceSub,Array.replicate_succ,Array.replicate_zero,List.push_toArray,List.append_toArray,Qbz,Qby];have hmx:prog.follows .mixedOrders=true:=by kernel_rfl
 have hK1:∀r W,K r W->z00v Bs W=r.length:=λr W h=>by unfold z00v;rw[(hc r W h).1];simp[ByteArray.size]
 gi_wp2
 gi_loopw [] (λwr=>∃r,K r wr∧r.length<=4611686018427387904) (λwr=>z00v Bs wr)
 case atStart=>exact⟨s,h0,hs⟩
 case round=>
  obtain⟨r,hK,hr⟩:=hrel;obtain⟨hc1,hf1⟩:=hc _ _ hK;by_cases hr0:r=[]
  ·subst hr0
   gi_wp2
   go_end0
   exact⟨⟨_,rfl⟩,.inl hK⟩
  ·have hpos:(0:Int)<(r.length:Int):=by have:=List.length_pos_iff.2 hr0;omega
   cases ha:r.any (· == 10)with
   |false=>
    have hidx:Lib.indexByte r 10 = -1:=by rw[zox,ha];rfl
    obtain⟨l1,l2⟩:=z02m ha;have hy:=hY r wr hr0 hK;rw[l1,l2]at hy;obtain⟨fn,tmps,assign,body,hy,hR⟩:=hy
    gi_wp2_with (refine⟨trivial,(λh=>by cases h),?_⟩;gi_at_call 99;refine(yus _ r hidx _).mono ?_;rintro e w2 ⟨rfl,rfl⟩)
    refine⟨(λh=>by cases h),hR.mono ?_⟩
    rintro e W3 (⟨rfl,hK3⟩|⟨rfl,hKx⟩)
    ·gi_wp2
     go_roundw
     case rel=>exact⟨_,hK3,Qbo _⟩
     case measure=>
      have hl:=hK1 _ _ hK3;have hl0:=hK1 _ _ hK;simp only[hl,hl0];exact List.length_pos_iff.2 hr0
    ·gi_wp2
     refine bodyPost_ret (results_none rfl _ _ _) rfl ?_
     exact⟨⟨_,rfl⟩,.inr hKx⟩
   |true=>
    have hidx:Lib.indexByte r 10=((r.takeWhile (· != 10)).length:Int):=by rw[zox,ha];rfl
    obtain⟨l1,l2⟩:=z02z ha;obtain⟨hk,_,_⟩:=y97 ha;generalize (r.takeWhile (· != 10)).length=k at hidx l1 l2 hk;have hw1:IntKind.i64.wrap ((k:Int)+1)=((k+1:Nat):Int):=by rw[show((k:Int)+1)=((k+1:Nat):Int) by omega];exact wrk (by omega)
    have hy:=hY r wr.drew hr0 (hg _ _ _ hK (Grow.drawn wr _));rw[l1,l2]at hy;obtain⟨fn,tmps,assign,body,hy,hR⟩:=hy
    have ex1:ByteArray.extract ⟨r.toArray⟩ 0 (k+1)=⟨(r.take (k+1)).toArray⟩:=by
     apply ByteArray.ext;simp[ByteArray.data_extract]
    have ex2:ByteArray.extract ⟨r.toArray⟩ (k+1) r.length=⟨(r.drop (k+1)).toArray⟩:=by
     apply ByteArray.ext;simp[ByteArray.data_extract];rw[List.take_of_length_le (by simp)]
    rw[show wr.drew.setCell ⟨Bs,0,none⟩ (.string ⟨(r.drop (k+1)).toArray⟩)=(wr.setCell ⟨Bs,0,none⟩ (.string ⟨(r.drop (k+1)).toArray⟩)).drew from rfl]at hy hR
    gi_wp2_with (refine⟨trivial,(λh=>by cases h),?_⟩;gi_at_call 99;refine(yus _ r hidx _).mono ?_;rintro e w2 ⟨rfl,rfl⟩)
    gi_region_o
    gi_wp2
    refine⟨(λh=>by cases h),hR.mono ?_⟩
    rintro e W3 (⟨rfl,hK3⟩|⟨rfl,hKx⟩)
    ·gi_wp2
     go_roundw
     case rel=>exact⟨_,hK3,by rw[List.length_drop];omega⟩
     case measure=>
      have hl:=hK1 _ _ hK3;have hl0:=hK1 _ _ hK;simp only[hl,hl0];rw[List.length_drop];omega
    ·gi_wp2
     refine bodyPost_ret (results_none rfl _ _ _) rfl ?_;exact⟨⟨_,rfl⟩,.inr hKx⟩
def z04r:zjm prog 98:=⟨λ_ _=>call98 _ _,λn l i K h s W d b e a g=>z04u n l i K h s W d b e a g⟩
end Go.Proofs.YthphaiccgnkobaaGreatDoor
namespace Go.Proofs.YthphaiccgnkobaaGreatDoor
open Go Go.RowKit Go.Shelf Go.Proofs
open Go.Ab (Qaf)
open Go.Proofs.Tryz
set_option maxRecDepth 100000
def z06d(b)(w)(h0:w.cell? ⟨b,0,none⟩=some (.pointer (some ⟨b,0,none⟩))) :
  Calls prog 122 #[.pointer (some ⟨b,0,none⟩)] w λe w'=>e = .returned (.tuple #[])∧w'=w:=by
 obtain⟨j,hj,_⟩:=Qaf.1 z6k.sizeBuilder
 go_wp2
 rw[Lib.run_neq_ptr_same w _ underlying108 hj]
 go_wp2
 go_end0
 exact⟨rfl,rfl⟩
def z00e(b)(w)(h0:w.cell? ⟨b,0,none⟩=some (.pointer none))(hsh:w.shape? b=some (111,2))(hfz:w.frozen? ⟨b,0,none⟩=false) :
  Calls prog 122 #[.pointer (some ⟨b,0,none⟩)] w λe w'=>e = .returned (.tuple #[])∧w'=w.setCell ⟨b,0,none⟩ (.pointer (some ⟨b,0,none⟩)):=by
 obtain⟨j,hj,hjs⟩:=Qaf.1 z6k.sizeBuilder
 go_enter func122,ntmps122
 go_wp2
 rw[Lib.run_to_unsafe w ⟨b,0,none⟩ underlying108 underlying209 hj (by rw[hjs];decide) hsh (Nat.zero_lt_succ 1)];simp[Result.andThen];rw[Oper.upon_value]
 go_wp2
 rw[run_callFunc_extern func179 (by kernel_rfl) (by kernel_rfl) (by kernel_rfl) (e:=Extern.AbiNoEscape.same) (by kernel_rfl)];rw[Lib.run_noEscape];simp[Result.andThen];rw[Oper.upon_value]
 go_wp2
 rw[Lib.run_from_unsafe w ⟨b,0,none⟩ underlying209 underlying108 hj hsh z6k.liesBuilder];simp[Result.andThen];rw[Oper.upon_value]
 go_wp2
 go_end0
 exact⟨rfl,rfl⟩
def z017(b g cap)(p)(l)(cur)(w)(h0:l≠[])(hbk:w.heap[b]? = some (.cells #[p,.slice (some ⟨g,0,none⟩) l.length cap] 111 (0,0)))(hg:w.heap[g]? = some (.cells cur 5 (0,0)))(hlcap:l.length<=cap)(hlc:l.length<=cur.size)(hmax:l.length<=9223372036854775807)
  (hc:∀(j:Nat) (x:UInt8),l[j]? = some x->w.cell? ⟨g,j,none⟩=some (.int .u8 x.toNat)) :
  Calls prog 66 #[.pointer (some ⟨b,0,none⟩)] w λe w'=>e = .returned (.string ⟨l.toArray⟩)∧w'=w.drew.freeze ⟨g,0,none⟩ l.length:=by
 have hl0:l.length≠0:=by simpa using h0
 have c1:w.drew.cell? ⟨b,1,none⟩=some (.slice (some ⟨g,0,none⟩) l.length cap):=by
  have:w.drew.heap[b]? = some (.cells #[p,.slice (some ⟨g,0,none⟩) l.length cap] 111 (0,0)):=hbk;rw[Lib.cell_of_heap this];rfl
 have hSD:(Builtin.unsafeSliceData_ #[109] 163 #[.slice (some ⟨g,0,none⟩) l.length cap]).run prog w.drew = .ok (.pointer (some ⟨g,0,none⟩)) w.drew :=
  Lib.run_unsafeSliceData_row _ _ _ _ _ _ (by omega)
 have hUS:=by
  refine Lib.run_unsafeString_row w.drew 163 3 9 5 underlying163 z6k.cellsByte g cur.size (by have hg':w.drew.heap[g]? = some (.cells cur 5 (0,0)):=hg;simp[World.shape?,hg']) l h0 hlc hmax ?_;intro j x hx;have:=hc j x hx;have hadd:(⟨g,0,none⟩:Addr).add j=⟨g,j,none⟩:=by unfold Addr.add;split <;> simp_all
  simp_all
 go_wp2
 go_region
 all_goals (go_wp2;go_ret;exact⟨rfl,rfl⟩)
end Go.Proofs.YthphaiccgnkobaaGreatDoor
namespace Go.Proofs.YthphaiccgnkobaaGreatDoor
open Go Go.Ab Go.RowKit Go.Proofs
open Go.Proofs.Tryz
def yji{W g H u cs}(h:zmy W g H [u] cs):∃x,cs = #[x]∧Rel W g H u x:=by
 have⟨e,d⟩:=h;have a:=by simpa using e
 have⟨c,i⟩:=List.length_eq_one_iff.1 a;have b:cs = #[c]:=by grind
 subst b;exact⟨c,rfl,by simpa using d 0 _ rfl⟩
def z034{W g H lv i a c}(o:Go.Ab.Good W g H)(n:H.get lv i=some (.arr 0 111 2 [.agg [a,c]] (some 1))) :
  g.cap lv i=1∧∃p v,W.heap[g.ab lv i]? = some (.cells #[p,v] 111 (0,0))∧Rel W g H a p∧Rel W g H c v∧p.oneCell'=true∧v.oneCell'=true:=by
 have⟨q,m,w,j,r,u,k,s,e,d⟩:=o.obj _ _ _ n;have b:=k 1 rfl;rw[b]at j;have⟨l⟩:=q
 match l,j with
 |[p,v],_=>
  refine⟨b,p,v,m,d 0 _ 0 a rfl rfl,d 0 _ 1 c rfl rfl,e 0 _ 0 a rfl rfl,e 0 _ 1 c rfl rfl⟩
 |[],h=>simp at h
 |[_],h=>simp at h
 |_::_::_::_,h=>simp at h
def y9e{α:Type}{L:List α}{i x}(h:L[i]? = some x):L.set i x=L:=by
 refine List.ext_getElem? λj =>?_
 grind
def z0aq{lv i L E a c}(B:L[i]? = some (some (.arr 0 111 2 [.agg [a,c]] (some 1))))(M:a = .nilp∨a = .ap lv i 0 0 0) :
  zqp prog 122 [.ap lv i 0 0 0] ⟨lv,L,E⟩ λo H'=>o = .ret (.tup [])∧H'=⟨lv,L.set i (some (.arr 0 111 2 [.agg [.ap lv i 0 0 0,c]] (some 1))),E⟩:=by
 intro W g y q N;have n:(⟨lv,L,E⟩:Heap).get lv i=some (.arr 0 111 2 [.agg [a,c]] (some 1)):=by simp[Heap.get,B]
 obtain⟨x,rfl,O⟩:=yji N;have⟨m,p,v,l,z,F,Z,D⟩:=z034 q n;refine⟨call122 _ _,?_⟩
 cases O with
 |ap _ _ _ _ _ R A G k=>
  have w:=k _ _ _ _ n;subst w
  rcases M with rfl|rfl
  cases z;refine(z00e (g.ab lv i) W (by rw[Lib.cell_of_heap l];rfl) (by simp[World.shape?,l]) (by simp[World.frozen?,l])).mono ?_
  rintro e W' ⟨rfl,rfl⟩
  have J:(W.setCell ⟨g.ab lv i,0,none⟩ (.pointer (some ⟨g.ab lv i,0,none⟩))).heap[g.ab lv i]? = some (.cells #[.pointer (some ⟨g.ab lv i,0,none⟩),v] 111 (0,0)):=by simp[World.setCell,Qbx,l]
  have⟨Y,X⟩:=zgk (W':=W.setCell ⟨g.ab lv i,0,none⟩ (.pointer (some ⟨g.ab lv i,0,none⟩))) q (o':=.arr 0 111 2 [.agg [.ap lv i 0 0 0,c]] (some 1)) n rfl rfl rfl rfl (by simp[World.setCell]) (λb U s=>Below.heap_setCell _ _ _ _ λe=>s e)
   (λT ty C xs Q K=>by cases K;exact⟨_,_,_,rfl,Qbp _,λ_=>Qbp _⟩) (λr=>by
   refine yuk (c := #[.pointer (some ⟨g.ab lv i,0,none⟩),v]) m J (by decide) rfl ⟨rfl,λj u d =>?_,λj u d =>?_⟩
   match j,d with
   |0,_=>rfl
   |1,_=>exact D
   |j+2,d=>simp[V.cells]at d
   match j,d with
   |0,d=>
    simp[Qbn]at d;subst d
    exact .ap lv i 0 0 0 _ A (λ_ _ _ _ _ _=>Qbo _) λty C xs Q h=>by simp
   |1,d=>
    simp[Qbn]at d;subst d
    exact F.mono r
   |j+2,d=>simp[V.cells]at d)
  refine⟨.ret (.tup []),_,g,⟨rfl,rfl⟩,?_,?_,_,rfl,.tup [] #[] rfl (by simp)⟩
  simp_all[Heap.set]
  simp_all[Heap.set]
  have I:p = .pointer (some ⟨g.ab lv i,0,none⟩):=by
   cases z with
   |ap _ _ _ _ _ R A G k=>rw[k _ _ _ _ n]
  subst I;refine(z06d (g.ab lv i) W (by rw[Lib.cell_of_heap l];rfl)).mono ?_
  rintro e W' ⟨rfl,rfl⟩
  rw[y9e B];exact⟨.ret (.tup []),_,g,⟨rfl,rfl⟩,.refl _ _ _,q,_,rfl,.tup [] #[] rfl (by simp)⟩
def z0db{lv i:Nat}{L:List (Option yzm)}{E:Nat->Nat->Option yzm}{a c:V}{s:B8}(hL:L[i]? = some (some (.arr 0 111 2 [.agg [a,c]] (some 1))))
  (hb:(c = .nils∧s=[])∨∃j d ws Z,c = .hs lv j d 0 ws.length false∧L[j]? = some (some (.arr d 5 1 ws Z))∧zn5 ws=some s) :
  zqp prog 66 [.ap lv i 0 0 0] ⟨lv,L,E⟩ λo H'=>o = .ret (.str s)∧∃L',H'=⟨lv,L',E⟩∧L'.length=L.length∧∀k,(∀j d n,c = .hs lv j d 0 n false->k≠j)->L'[k]? = L[k]? := by
 intro W g h8 y hR;have hg:(⟨lv,L,E⟩:Heap).get lv i=some (.arr 0 111 2 [.agg [a,c]] (some 1)):=by simp[Heap.get,hL]
 obtain⟨x,rfl,h0⟩:=yji hR;have⟨h9,p,v,I,k2,k3,k4,k5⟩:=z034 y hg;refine⟨call66 _ _,?_⟩
 have below:∀{W':World},Below W.heap.size W W'->s=[]->∀(e:Ending),e = .returned (.string ⟨#[]⟩) ->
   ∃o H' g',(o=Out.ret (.str s)∧∃L',H'=⟨lv,L',E⟩∧L'.length=L.length∧∀k,(∀j d n,c = .hs lv j d 0 n false->k≠j)->L'[k]? = L[k]?)∧Step W g ⟨lv,L,E⟩ W' g' H'∧Go.Ab.Good W' g' H'∧z039 W' g' H' o e:=λ{W'} u hs e A=>by
  subst A;subst hs;have N:Grow W W':=⟨u.os,u.tape,u.output,u.size,u.block⟩;exact⟨.ret (.str []),⟨lv,L,E⟩,g,⟨rfl,L,rfl,rfl,λ_ _=>rfl⟩,N.step,y.grow N,_,rfl,.str []⟩
 cases h0 with
 |ap _ _ _ _ _ ad hd hv T=>
  have h6:ad=⟨g.ab lv i,0,none⟩:=T _ _ _ _ hg;subst h6
  rcases hb with ⟨rfl,hs⟩|⟨j,d,ws,Z,rfl,hj,h5⟩
  cases k3;refine(Any.Builder_String_nil ytq z6k W.heap.size (g.ab lv i) p W I).mono ?_
  rintro e W' ⟨A,u⟩
  exact below u hs e A;have w:(⟨lv,L,E⟩:Heap).get lv j=some (.arr d 5 1 ws Z):=by simp[Heap.get,hj]
  have⟨b1,b2⟩:=zr6 h5;have⟨J,X,m2,m3,H,m4,m5,m6,m7,m8⟩:=y.obj _ _ _ w
  cases k3 with
  |hs _ _ _ _ _ _ ad m F hc ha h7=>
   obtain⟨rfl,rfl,⟨c1,c2,_⟩,c3⟩:=h7 _ _ _ _ w;by_cases hs:s=[];have P:ws.length=0:=by rw[<-b1,hs];rfl
   rw[P]at I;by_cases Q:F=0;subst Q;refine(Any.Builder_String_noroom ytq z6k W.heap.size (g.ab lv i) (g.ab lv j) p J W (Qbp _) I X).mono ?_
   rintro e W' ⟨A,u⟩
   exact below u hs e A;refine(Any.Builder_String_room ytq z6k W.heap.size (g.ab lv i) (g.ab lv j) F p W Q I).mono ?_
   rintro e W' ⟨A,u⟩
   exact below u hs e A;have K:s.length<=J.size:=by rw[m3];omega
   refine(z017 (g.ab lv i) (g.ab lv j) F p s J W hs (by rw[b1];exact I) X (by rw[b1];exact c1) K (by unfold maxLen at H;omega) λq x hq =>?_).mono ?_;have h1:=b2 q x hq;have r:=m8 q _ 0 _ h1 rfl;rw[Lib.cell_of_heap X];have M:q<J.size:=Qbd (Qaa.1 hq).1 K;rw[Nat.mul_one,Nat.add_zero,Qae,Qas M]at r
   rw[Qas M];simp only[Option.getD_some]at r;generalize J[q]=z at r;cases r;rfl
   rintro e W' ⟨rfl,rfl⟩
   have⟨U,B,g3,g4⟩:=yp6 y w
   have O:∀k,k≠g.ab lv j->(W.drew.freeze ⟨g.ab lv j,0,none⟩ s.length).heap[k]? = W.heap[k]? := λk Y=>by
    unfold World.freeze;split;rfl;simp only[Qbx];rw[Qbr (λe=>Y e.symm)];rfl
   have h:(W.drew.freeze ⟨g.ab lv j,0,none⟩ s.length).heap.size=W.heap.size:=by
    unfold World.freeze;split;rfl;exact Array.size_modify ..
   have D:(W.drew.freeze ⟨g.ab lv j,0,none⟩ s.length).os=W.os∧(W.drew.freeze ⟨g.ab lv j,0,none⟩ s.length).tape=W.tape∧(W.drew.freeze ⟨g.ab lv j,0,none⟩ s.length).output=W.output:=by unfold World.freeze;split <;> exact⟨rfl,rfl,rfl⟩
   have h2:Go.Ab.Own g ⟨lv,L,E⟩ (g.ab lv j):=⟨_,_,_,w,rfl⟩
   have C:Step W g ⟨lv,L,E⟩ (W.drew.freeze ⟨g.ab lv j,0,none⟩ s.length) g ((⟨lv,L,E⟩:Heap).y4l j) :=
    ⟨D.1,D.2.1,D.2.2,Nat.le_of_eq h.symm,λb hb h4=>O b (λe=>h4 (by rw[e];exact h2)),B.own,B.dom,B.new,B.blk,B.arr,B.lv,B.base⟩
   have R:∀l k o,((⟨lv,L,E⟩:Heap).y4l j).get l k=some o->o.blk g l k≠g.ab lv j:=λl k o G e=>by
    have⟨q1,q2⟩:=Heap.zf5 G;exact q2 (y.inj _ _ _ _ _ _ q1 w e)
   refine⟨.ret (.str s),(⟨lv,L,E⟩:Heap).y4l j,g,⟨rfl,L.set j none,rfl,by simp,λk Y =>?_⟩,C,⟨U.dom,λl k o G=>by rw[h];exact U.lt l k o G,U.inj,U.fresh,λl k o G =>?_,y.zqr.step C,(by show g.base<=_;rw[h];exact y.base)⟩,_,rfl,.str s⟩;rw[Qam (λe=>Y j d ws.length rfl e.symm)];have h3:=y.obj l k o (Heap.zf5 G).1
   exact h3.mono C (O _ (R l k o G)) rfl rfl rfl
set_option maxRecDepth 100000
def z1p:Nat->List Int->Option (List Int):=λ_ xs=>some xs
noncomputable def z5p:FI dat :=
 {R:=List Int,ent:=λn=>{f:=122,p:=1,args:=[.bp 0],aos:=[.bld 111 1,.acc 5 (.int .u8) true],outs:=[],ros:=[.bld 111 1,.acc 5 (.int .u8) true],pan:=.nilp,pos:=[.bld 111 1,.acc 5 (.int .u8) true],pure:=false,go:=λx k _=>(z1p n x.1).bind λr=>k (r,())},
   c:=.skip,K:=⟨λ_=>none,[],λ_=>none,λ_ _=>none⟩,p:=0,args:=[],aos:=[],nt:=0,z2k:=λ_=>[],go:=λ_ _=>none}
def z1a:Nat->List Int->Option B8:=λ_ xs=>yiu xs
noncomputable def z4k:FI dat :=
 {R:=B8,ent:=λn=>{f:=66,p:=0,args:=[.bp 0],aos:=[.bld 111 1,.acc 5 (.int .u8) true],outs:=[.d .str],ros:=[],pan:=.nilp,pos:=[],pure:=false,go:=λx k _=>(z1a n x.1).bind λr=>k (r,())},
   c:=.skip,K:=⟨λ_=>none,[],λ_=>none,λ_ _=>none⟩,p:=0,args:=[],aos:=[],nt:=0,z2k:=λ_=>[],go:=λ_ _=>none}
def z07v{lv L ρ0 d}{xs:List Int}(u:ρ0.length=2)(s:VRL dat ρ0 lv [TV.bp 0 0] d)
  (l:∀j o,(j,o)∈[((0:Nat),(TO.bld 111 (some 1):TO dat.T)),(1,.acc 5 (.int .u8) xs true)]->∃sl,ρ0[j]? = some sl∧OR dat ρ0 lv L sl o) :
  ∃e g i a c,ρ0=[e,g]∧d=[.ap lv i 0 0 0]∧e.k=some i∧L[i]? = some (some (.arr 0 111 2 [.agg [a,c]] (some 1)))∧(a = .nilp∨a = .ap lv i 0 0 0)∧VR dat ρ0 lv (.own 1) c∧OR dat ρ0 lv L g (.acc 5 (.int .u8) xs true):=by
 obtain⟨e,g,rfl⟩:∃e g,ρ0=[e,g]:=by
  match ρ0,u with
  |[a,b],_=>exact⟨a,b,rfl⟩
 obtain⟨v,r,rfl,⟨sl,i,A,m,rfl⟩,rfl⟩:=s;obtain rfl:e=sl:=by simpa using A
 have⟨sl,z,y⟩:=l 0 (.bld 111 (some 1)) (by simp);obtain rfl:e=sl:=by simpa using z
 have⟨B,a,c,h,q,p,n⟩:=y;rw[m]at h;cases h;have⟨sl,x,w⟩:=l 1 (.acc 5 (.int .u8) xs true) (by simp);obtain rfl:g=sl:=by simpa using x
 exact⟨e,g,i,a,c,rfl,rfl,m,q,p,n,w⟩
def zak:FOk prog z5p:=λn R x k Q r h=>by
 refine .inl ⟨(x.1,()),h,λlv L E ρ0 B J I G p _ =>?_⟩;obtain⟨l,m,i,a,c,rfl,rfl,y,C,F,D,O⟩:=z07v (xs:=x.1) J I G;have A:=(Qaa.1 C).1
 refine(z0aq (E:=E) C F).mono λo H' ⟨N,M⟩=>⟨_,[l,m],M,⟨rfl,λj o u =>?_,p.1,λs sl g r w=>.inr ⟨s,sl,r,w⟩,λg d z =>?_,λj sl _ h=>h,λs sl g r w=>⟨(p.2 s sl g r w).1,?_⟩⟩,⟨(λq K=>by cases K),.nil⟩,[],N,(by simp[VRL]:VRL dat [l,m] lv [] [])⟩
 have u:(j,o)∈[((0:Nat),(TO.bld 111 (some 1):TO dat.T)),(1,.acc 5 (.int .u8) x.1 true)]:=u;simp[Qbs]at u
 rcases u with ⟨rfl,rfl⟩|⟨rfl,rfl⟩
 refine⟨l,rfl,?_⟩;simp only[OR];exact⟨i,.ap lv i 0 0 0,c,y,by simp[A],.inr rfl,D⟩;refine⟨m,rfl,?_⟩
 have:=O.mono (L':=L.set i (some (.arr 0 111 2 [.agg [.ap lv i 0 0 0,c]] (some 1)))) [] λg d _=>by
  rw[Qam];intro e;subst e;have:=p.1 0 1 l m i rfl rfl (.inl y) d;cases this
 simpa using this;exact⟨by simpa using d,Qam λe=>z 0 l rfl (.inl (by rw[y,e]))⟩;have⟨_,b,U⟩:=p.2 s sl g r w;by_cases e:i=g
 grind
 grind
def z7k:FOk prog z4k:=λn R x k kp r h=>by
 have⟨s,p,h⟩:=Qbw.1 h;have p:yiu x.1=some s:=p;refine .inl ⟨(s,()),h,λlv L E ρ0 z N M K k4 _ =>?_⟩;obtain⟨W,d,i,a,c,rfl,rfl,e2,G,P,F,H⟩:=z07v (xs:=x.1) N M K;have⟨sl,d1,d2,d3⟩:=F;obtain rfl:d=sl:=by simpa using d1
 subst d2;have⟨J,I,m⟩:=H
 have C:(d.v = .nils∧s=[])∨∃j b ws l,d.v = .hs lv j b 0 ws.length false∧L[j]? = some (some (.arr b 5 1 ws l))∧zn5 ws=some s∧d.k=some j:=by
  have y:zn5 d.ws=some s:=by rw[yc1 x.1 d.ws J I,p]
  cases B:d.k with
  |none=>
   rw[B]at m
   rcases m with ⟨g,w2⟩|⟨⟨_,w2⟩,_⟩
   simp_all[zn5]
   grind
  |some j=>
   rw[B]at m;have⟨b,l,g,w2⟩:=m;exact .inr ⟨j,b,d.ws,l,g,w2,y,rfl⟩
 refine(z0db (E:=E) (s:=s) G (C.imp id λ⟨j,b,ws,l,g,w2,w3,_⟩=>⟨j,b,ws,l,g,w2,w3⟩)).mono λo H' ⟨Z,L',Y,X,U⟩=>⟨L',[],Y,⟨rfl,λj o T=>(by cases T),λ_ _ _ _ _ h=>(by simp at h),λ_ _ _ h=>(by simp at h),λO w u=>⟨by rw[X];exact w,U O λj b n A e =>?_⟩,λ_ _ h=>(Nat.not_lt_zero _ h).elim,λ_ _ _ h=>(by simp at h)⟩,⟨(λq Q=>by cases Q),.nil⟩,[.str s],Z,?_⟩
 rcases C with ⟨g,_⟩|⟨j',D,ws,l,g,_,_,w4⟩
 grind
 rw[g]at A;cases A;exact u 1 d rfl (.inl (by rw[w4,e]));show VRL dat [] lv [TV.str s] [.str s];simp only[VRL,VR]
 grind
def zzf:Nat->B8->Option (List B8):=λ_ s=>if s.length<4294967281∧s.all (λb=>decide (b.toNat<128))=true then some (Lib.fields s)else none
def ybr:LSh:=⟨[(2,(.d (.sl .str)))],[],0,106,[]⟩
noncomputable def z5i:FI dat:=FI.of dat 126 106 0 [(.d .str)] [] [(.d (.sl .str))] [] true ybr (R:=List B8) (λx=>x.1) (λr=>(r,())) (λn x=>zzf n x.1) (λn=>[]) .skip
def z04a(s)(B:s.length<4294967281)(C:s.all (λb=>decide (b.toNat<128))=true):zrw prog 126 [.str s] (.sl 1 ((Lib.fields s).map V.str) false):=λH W g w p D=>by
 obtain⟨x,rfl,I⟩:=yji D;cases I
 have n:Lib.TabIs prog W "strings.asciiSpace" .u8 Lib.asciiSpaceTab:=by
  have⟨_,ty,q,A⟩:=p.zqr.1 0 gl0 rfl;unfold Lib.TabIs World.var?;rw[show prog.globalNamed "strings.asciiSpace" = some 0 by kernel_rfl];simp[A];rfl
 refine .inl ⟨call126 _ _,(Any.strings_Fields z0cb (by kernel_rfl) (by kernel_rfl) ⟨s.toArray⟩ W B (λj b K =>?_) n).mono λe W' ⟨G,F⟩ =>?_⟩;rw[Qat]at C
 grind
 subst G;subst F;have z:Grow W (W.alloc (.cells ((Lib.fields s).map λl=>Value.string ⟨l.toArray⟩).toArray 9)):=Grow.alloc W _;refine⟨_,g,rfl,z.step,p.grow z,?_⟩;have r:¬Go.Ab.Own g H W.heap.size:=λ⟨l,i,o,h,J⟩=>by have:=p.lt l i o h;omega
 have u:∀(j:Nat) (l:B8),(Lib.fields s)[j]? = some l->(W.alloc (.cells ((Lib.fields s).map λl=>Value.string ⟨l.toArray⟩).toArray 9)).cell? ⟨W.heap.size,j,none⟩=some (.string ⟨l.toArray⟩):=λj l a=>by
  simp_all
 have d:∀(j:Nat) (y:V),((Lib.fields s).map V.str)[j]? = some y->∃l,(Lib.fields s)[j]? = some l∧y = .str l:=λj y a=>by
  rw[Qan,Qaf]at a
  grind
 have:=Rel.sl (W:=W.alloc (.cells ((Lib.fields s).map λl=>Value.string ⟨l.toArray⟩).toArray 9)) (g:=g) (H:=H) 1 ((Lib.fields s).map V.str) false W.heap.size 0 (Lib.fields s).length (λj _=>.string ⟨((Lib.fields s)[j]?.getD []).toArray⟩) r (by decide) (by simp) (by simp)
  (λj y a=>by obtain⟨l,_,rfl⟩:=d j y a;rfl)
  (λj y t v a k=>by
   obtain⟨l,m,rfl⟩:=d j y a
   grind[V.cells])
  (λj y t v a k=>rfl)
  (λj y t v a k=>by
   obtain⟨l,m,rfl⟩:=d j y a
   cases t with
   |succ t=>simp[V.cells]at k
   |zero=>
    simp[Qbn]at k;subst k;rw[m]
    exact .str l)
 have E:=by simpa using this
 exact E
def zcl:FOk prog z5i:=λn R x k j r h=>by
 have⟨y,b,h⟩:=Qbw.1 (show(zzf n x.1).bind (λr=>k (r,()))=some r from h);unfold zzf at b;split at b;rename_i g;cases b;refine⟨(_,()),h,rfl,rfl,rfl,λlv a d=>⟨[.sl 1 ((Lib.fields x.1).map V.str) false],λρ e =>?_,?_⟩⟩;show VRL dat ρ e [TV.sl .str (Lib.fields x.1) 0] _;simp only[VRL,VR];exact⟨_,_,rfl,⟨DR.elsl .str _ λz=>.str z,by omega,by omega⟩,rfl⟩
 have d:VRL dat [] lv [TV.str x.1] a:=d;simp[VR]at d;obtain⟨v,i,rfl,rfl,rfl⟩:=d;exact z04a _ g.1 g.2;cases b
def z2v:Nat->Int->Int->Option B8:=λ_ n b=>if b=10 ∧ -9223372036854775808<=n∧n<=9223372036854775807 then some (Lib.itoa n)else none
def y4j:LSh:=⟨[(4,(.d .str))],[],0,8,[]⟩
noncomputable def zno:FI dat:=FI.of dat 277 8 0 [(.d (.int .i64)),(.d (.int .i64))] [] [(.d .str)] [] true y4j (R:=B8) (λx=>x.1) (λr=>(r,())) (λn x=>z2v n x.1 x.2.1) (λn=>[]) .skip
def z0ep(n)(r : -9223372036854775808<=n)(d:n<=9223372036854775807):zrw prog 277 [.int .i64 n,.int .i64 10] (.str (Lib.itoa n)):=λH W g h l o=>by
 obtain⟨x,y,rfl,u,s⟩:=yuh o;cases u;cases s
 have a:Lib.TabIs prog W "internal/strconv.uint64pow10" .u64 Lib.pow10Tab:=by
  have⟨_,ty,q,m⟩:=l.zqr.1 5 gl5 rfl;unfold Lib.TabIs World.var?;rw[show prog.globalNamed "internal/strconv.uint64pow10" = some 5 by kernel_rfl];simp[m];rfl
 have c:=Any.strconv_FormatInt_10 {z0as with} n r d W a;refine .inl ⟨call277 _ _,c.mono λe W' ⟨d,k,i,p⟩ =>?_⟩;subst d;subst p
 have j:Grow W (Sort.grow (W.drewN k) i):=⟨rfl,rfl,rfl,by simp_all,λb w=>by
  show(W.heap++i)[b]? = _
  grind⟩
 exact⟨_,g,rfl,j.step,l.grow j,.str _⟩
def zyr:FOk prog zno:=λn R x k m r h=>by
 have⟨y,b,h⟩:=Qbw.1 (show(z2v n x.1 x.2.1).bind (λr=>k (r,()))=some r from h);unfold z2v at b;split at b;rename_i e;cases b;refine⟨(_,()),h,rfl,rfl,rfl,λlv a d=>⟨[.str (Lib.itoa x.1)],λρ g =>?_,?_⟩⟩;show VRL dat ρ g [TV.str (Lib.itoa x.1)] _;simp only[VRL,VR]
 grind
 have d:VRL dat [] lv [TV.int .i64 x.1,TV.int .i64 x.2.1] a:=d;simp[VR]at d;obtain⟨v,l,rfl,rfl,i,j,rfl,rfl,rfl⟩:=d;rw[e.1];exact z0ep _ e.2.1 e.2.2;cases b
def z5q:Nat->B8->Int->Option Int:=λ_ s c=>some (Lib.indexByte s c.toNat.toUInt8)
def zko:LSh:=⟨[(4,(.d (.int .i64)))],[],0,8,[]⟩
noncomputable def zct:FI dat:=FI.of dat 154 8 0 [(.d .str),(.d (.int .u8))] [] [(.d (.int .i64))] [] true zko (R:=Int) (λx=>x.1) (λr=>(r,())) (λn x=>z5q n x.1 x.2.1) (λn=>[]) .skip
def z0eu(s)(c):zrw prog 154 [.str s,.int .u8 c] (.int .i64 (Lib.indexByte s c.toNat.toUInt8)):=λH W g b d h=>by
 obtain⟨x,y,rfl,j,a⟩:=yuh h;cases j;cases a;have c:=Any.stringslite_IndexByte {z0bp with} ⟨s.toArray⟩ c W;refine .inl ⟨call154 _ _,c.mono λe W' ⟨a,i⟩ =>?_⟩;subst a;subst i;exact⟨_,g,rfl,.refl _ _ _,d,.int _ _⟩
def zjg:FOk prog zct:=λn R x k j r h=>by
 refine⟨(Lib.indexByte x.1 x.2.1.toNat.toUInt8,()),h,rfl,rfl,rfl,λlv b d=>⟨[.int .i64 (Lib.indexByte x.1 x.2.1.toNat.toUInt8)],λρ a =>?_,?_⟩⟩;show VRL dat ρ a [TV.int .i64 (Lib.indexByte x.1 x.2.1.toNat.toUInt8)] _;simp only[VRL,VR]
 grind
 obtain⟨v,i,rfl,rfl,e,g,rfl,rfl,rfl⟩:=d;exact z0eu _ _
def kzq:Nat->B8->B8->Option Int:=λ_ s t=>match t with
 |[c]=>some (Lib.indexByte s c)
 |_=>none
def zn9:LSh:=⟨[(4,(.d (.int .i64)))],[],0,143,[]⟩
noncomputable def zaj:FI dat:=FI.of dat 199 143 0 [(.d .str),(.d .str)] [] [(.d (.int .i64))] [] true zn9 (R:=Int) (λx=>x.1) (λr=>(r,())) (λn x=>kzq n x.1 x.2.1) (λn=>[]) .skip
def z0fp(s)(c):zrw prog 199 [.str s,.str [c]] (.int .i64 (Lib.indexByte s c)):=λH W g b d h=>by
 obtain⟨x,y,rfl,j,a⟩:=yuh h;cases j;cases a;have c:=Any.stringslite_Index_one {z0dh with} ⟨s.toArray⟩ c W;refine .inl ⟨call199 _ _,c.mono λe W' ⟨a,i⟩ =>?_⟩;subst a;subst i;exact⟨_,g,rfl,.refl _ _ _,d,.int _ _⟩
def zei:FOk prog zaj:=λn R x k l r h=>by
 have⟨s,t,u⟩:=x;have⟨y,d,h⟩:=Qbw.1 (show(kzq n s t).bind (λr=>k (r,()))=some r from h)
 match t,d with
 |[c],d=>
  refine⟨(_,()),h,rfl,rfl,rfl,λlv b e=>⟨[.int .i64 (Lib.indexByte s c)],λρ a =>?_,?_⟩⟩;show VRL dat ρ a [TV.int .i64 (Lib.indexByte s c)] _;simp only[VRL,VR]
  grind
  obtain⟨v,j,rfl,rfl,g,i,rfl,rfl,rfl⟩:=e;exact z0fp _ _
def zc3:Nat->Int->Option B8:=λ_ n=>if -9223372036854775808<=n∧n<=9223372036854775807 then some (Lib.itoa n)else none
def yk1:LSh:=⟨[(2,(.d .str))],[],0,5,[]⟩
noncomputable def y1r:FI dat:=FI.of dat 63 5 0 [(.d (.int .i64))] [] [(.d .str)] [] true yk1 (R:=B8) (λx=>x.1) (λr=>(r,())) (λn x=>zc3 n x.1) (λn=>[]) .skip
def z0bu(n)(r : -9223372036854775808<=n)(d:n<=9223372036854775807):zrw prog 63 [.int .i64 n] (.str (Lib.itoa n)):=λH W g h l o=>by
 obtain⟨x,rfl,s⟩:=yji o;cases s
 have a:Lib.TabIs prog W "internal/strconv.uint64pow10" .u64 Lib.pow10Tab:=by
  have⟨_,ty,q,m⟩:=l.zqr.1 5 gl5 rfl;unfold Lib.TabIs World.var?;rw[show prog.globalNamed "internal/strconv.uint64pow10" = some 5 by kernel_rfl];simp[m];rfl
 have c:=Any.strconv_Itoa {z09q with} n r d W a;refine .inl ⟨call63 _ _,c.mono λe W' ⟨d,k,i,p⟩ =>?_⟩;subst d;subst p
 have j:Grow W (Sort.grow (W.drewN k) i):=⟨rfl,rfl,rfl,by simp_all,λb u=>by
  show(W.heap++i)[b]? = _
  grind⟩
 exact⟨_,g,rfl,j.step,l.grow j,.str _⟩
def yef:FOk prog y1r:=λn R x k j r h=>by
 have⟨y,b,h⟩:=Qbw.1 (show(zc3 n x.1).bind (λr=>k (r,()))=some r from h);unfold zc3 at b;split at b;rename_i g;cases b;refine⟨(_,()),h,rfl,rfl,rfl,λlv a d=>⟨[.str (Lib.itoa x.1)],λρ e =>?_,?_⟩⟩;show VRL dat ρ e [TV.str (Lib.itoa x.1)] _;simp only[VRL,VR]
 grind
 have d:VRL dat [] lv [TV.int .i64 x.1] a:=d;simp[VR]at d;obtain⟨v,i,rfl,rfl,rfl⟩:=d;exact z0bu _ g.1 g.2;cases b
def zzn:Nat->List B8->Option (List B8):=λ_ xs=>if xs.length<4611686018427387904 then some (yx9 xs)else none
noncomputable def z2j:FI dat:=yyj dat 46 9 zzn
def zao:FOk prog z2j:=by
 have e:zzn=λ_ xs=>if xs.length<4611686018427387904 then some (z90 xs)else none:=by grind[zzn,yxv]
 unfold z2j;rw[e];exact z0cj (λ_ _=>call46 _ _) (λblk a b w h g d=>Any.slices_Sort_string z02t blk 0 a b w h g d) (λp a w=>Any.slices_Sort_string_none z02t p a w)
def zdj:Nat->List B8->Option (List B8):=λ_ xs=>if xs.length<=9223372036854775807 then some (y20 xs)else none
noncomputable def zea:FI dat:=ybt dat 47 9 zdj
def zl2:FOk prog zea :=
 z007 (λ_ _=>call47 _ _) (λblk a zs w e d b=>Any.slices_Compact_string z02o blk 0 a zs w e d b) (λp a w=>Any.slices_Compact_string_empty z02o p a w)
def zbh:Nat->B8->B8->Option (List B8):=λ_ s t=>if t=[32]∧s.length<=1048576 then some (parts 32 s)else none
def ye9:LSh:=⟨[(4,(.d (.sl .str)))],[],0,8,[]⟩
noncomputable def zxp:FI dat:=FI.of dat 102 8 0 [(.d .str),(.d .str)] [] [(.d (.sl .str))] [] true ye9 (R:=List B8) (λx=>x.1) (λr=>(r,())) (λn x=>zbh n x.1 x.2.1) (λn=>[]) .skip
def y81(b):∀(k) (s),s.countP (· == b)=k->Lib.splitK [b] 0 k s=parts b s
 |0,s,h=>by
  have a:s.any (· == b)=false:=by
   grind
  rw[parts_eq,yaj a];rfl
 |k+1,s,h=>by
  have a:s.any (· == b)=true:=by
   grind[List.countP_pos_iff]
  have⟨l,j,i⟩:=y97 a;have hi:Lib.index s [b]=((s.takeWhile (· != b)).length:Int):=by rw[Lib.index_one,zox,Qbq a]
  have g:¬(Lib.index s [b] == -1)=true:=λe=>by grind
  have d:(cutAt b s).2.2=true:=a;have hlen:=congrArg List.length (parts_eq b s);rw[Qbq d,zsg,List.length_cons,zsg]at hlen;rw[Lib.splitK,Qbr g,hi,Int.toNat_natCast,parts_eq,Qbq d]
  congr 1
  rw[List.length_singleton,i];exact y81 b k _ (by grind[cutAt])
def yw4(s)(w)(hs:s.size<4294967281):Calls prog 102 #[.string s,.string ⟨#[32]⟩] w λe w'=>
  ∃l:List ByteArray,l.map (·.data.toList)=parts 32 s.data.toList∧e = .returned (.slice (some ⟨w.heap.size,0,none⟩) l.length l.length)∧w'=w.alloc (.cells (l.map Value.string).toArray 9):=by
 have h1:1<=(⟨#[32]⟩:ByteArray).size:=by decide
 have hlen:=Lib.splitB_all ⟨#[32]⟩ h1 0 _ s rfl
 have c:=Any.strings_genSplit_core (ρ:=yct) {yty with} (by kernel_rfl) s ⟨#[32]⟩ 0 (-1) (Lib.countB s ⟨#[32]⟩+1) w hs h1 (Qbo _)
  (λx c hx=>(Any.strings_Index_one {yty with} x 32 _).mono λe w' ⟨a1,a2⟩=>⟨by rw[a1];exact congrArg (λz=>Ending.returned (Value.int .i64 z)) (Lib.index_one _ _).symm,a2⟩)
  ((Any.strings_Count_one {yty with} s 32 w).mono λe w' ⟨a1,a2⟩=>⟨by
    rw[a1];show _=Ending.returned (Value.int .i64 ((Lib.count s.data.toList [32]:Nat):Int))
    rw[Lib.count_one];rfl,a2⟩) (by decide) (by decide) (by rw[Qbq (by decide)];have:=Lib.countB_le ⟨#[32]⟩ h1 s.size s (Qbp _);omega)
 have e2:Lib.cellsOf (Lib.splitB ⟨#[32]⟩ 0 (Lib.countB s ⟨#[32]⟩) s) (Lib.countB s ⟨#[32]⟩+1)=((Lib.splitB ⟨#[32]⟩ 0 (Lib.countB s ⟨#[32]⟩) s).map Value.string).toArray:=by rw[<-hlen];exact Lib.cellsOf_full _
 have hp:(Lib.splitB ⟨#[32]⟩ 0 (Lib.countB s ⟨#[32]⟩) s).map (·.data.toList)=parts 32 s.data.toList:=by
  rw[Lib.splitB_data];refine y81 32 _ _ ?_;show _=Lib.count s.data.toList [32];rw[Lib.count_one];rfl
 go_enter func102,ntmps102
 go_wp2_with (go_at_call 157;refine c.mono ?_;rintro e w' ⟨rfl,hw⟩;rw[hw])
 go_ret
 refine⟨_,hp,?_,rfl⟩;rw[hlen];rfl
def z0bk{W g H}(n:Go.Ab.Good W g H)(xs:List B8)(p:xs.length<=1073741824) :
  Rel (W.alloc (.cells (xs.map λl=>Value.string ⟨l.toArray⟩).toArray 9)) g H (.sl 1 (xs.map V.str) false) (.slice (some ⟨W.heap.size,0,none⟩) xs.length xs.length):=by
 have k:¬Go.Ab.Own g H W.heap.size:=λ⟨l,i,o,h,q⟩=>by have:=n.lt l i o h;omega
 have m:∀(j:Nat) (l:B8),xs[j]? = some l->(W.alloc (.cells (xs.map λl=>Value.string ⟨l.toArray⟩).toArray 9)).cell? ⟨W.heap.size,j,none⟩=some (.string ⟨l.toArray⟩):=λj l a=>by
  simp_all
 have b:∀(j:Nat) (y:V),(xs.map V.str)[j]? = some y->∃l,xs[j]? = some l∧y = .str l:=λj y a=>by
  rw[Qan,Qaf]at a
  grind
 have:=Rel.sl (W:=W.alloc (.cells (xs.map λl=>Value.string ⟨l.toArray⟩).toArray 9)) (g:=g) (H:=H) 1 (xs.map V.str) false W.heap.size 0 xs.length (λj _=>.string ⟨(xs[j]?.getD []).toArray⟩) k (by decide) (by simp) (by simp)
  (λj y a=>by obtain⟨l,_,rfl⟩:=b j y a;rfl)
  (λj y t v a d=>by
   obtain⟨l,e,rfl⟩:=b j y a
   grind[V.cells])
  (λj y t v a d=>rfl)
  (λj y t v a d=>by
   obtain⟨l,e,rfl⟩:=b j y a
   cases t with
   |succ t=>simp[V.cells]at d
   |zero=>
    simp[Qbn]at d;subst d;rw[e]
    exact .str l)
 simpa using this
def mk_data(s):(⟨s.toArray⟩:ByteArray).data.toList=s:=rfl
def z07k(s)(p:s.length<=1048576):zrw prog 102 [.str s,.str [32]] (.sl 1 ((parts 32 s).map V.str) false):=λH W g i k m=>by
 obtain⟨a,b,rfl,o,n⟩:=yuh m;cases o;cases n
 have hlen:(parts 32 s).length<=1048577:=by
  grind[zsg]
 refine .inl ⟨call102 _ _,(yw4 ⟨s.toArray⟩ W (by simp only[ByteArray.size];simp;omega)).mono ?_⟩
 rintro e W' ⟨l,q,rfl,rfl⟩
 have d:l.map Value.string=(parts 32 s).map λz=>Value.string ⟨z.toArray⟩:=by
  grind[List.map_congr_left]
 have h:l.length=(parts 32 s).length:=by grind
 rw[d,h];have j:Grow W (W.alloc (.cells ((parts 32 s).map λl=>Value.string ⟨l.toArray⟩).toArray 9)):=Grow.alloc W _;exact⟨_,g,rfl,j.step,k.grow j,z0bk k _ (by omega)⟩
def ybv:FOk prog zxp:=λn R x k m r h=>by
 have⟨y,b,h⟩:=Qbw.1 (show(zbh n x.1 x.2.1).bind (λr=>k (r,()))=some r from h);unfold zbh at b;split at b;rename_i g;cases b;refine⟨(_,()),h,rfl,rfl,rfl,λlv a d=>⟨[.sl 1 ((parts 32 x.1).map V.str) false],λρ e =>?_,?_⟩⟩;show VRL dat ρ e [TV.sl .str (parts 32 x.1) 0] _;simp only[VRL,VR];exact⟨_,_,rfl,⟨DR.elsl .str _ λz=>.str z,by omega,by omega⟩,rfl⟩
 have d:VRL dat [] lv [TV.str x.1,TV.str x.2.1] a:=d;simp[VR]at d;obtain⟨v,l,rfl,rfl,i,j,rfl,rfl,rfl⟩:=d;rw[g.1];exact z07k _ g.2;cases b
def yye(l)(d o c)(w)(a:∀(j:Nat) x,l[j]? = some x->w.cell? ⟨d,o+j,none⟩=some (.string x))(m:l.length<=1048576)(b:l.length<=c)
  (hlen:(Lib.join (l.map (·.data.toList)) [32]).length<=16777216) (k:l=[]∨d<w.heap.size) :
  Calls prog 60 #[.slice (some ⟨d,o,none⟩) l.length c,.string ⟨#[32]⟩] w λe g=>e = .returned (.string ⟨(Lib.join (l.map (·.data.toList)) [32]).toArray⟩)∧RowKit.Below w.heap.size w g:=by
 rcases k with rfl|hbk
 exact(Any.strings_Join_none yq1 zk2 _ c ⟨#[32]⟩ w).mono λe g ⟨i,h⟩=>⟨i,h▸RowKit.Below.refl _ _⟩
 exact Any.strings_Join yq1 zk2 d o c l ⟨#[32]⟩ w a hbk (by omega) b (by grind)
def join_none(a)(c)(w):Calls prog 60 #[.slice a 0 c,.string ⟨#[32]⟩] w λe b=>e = .returned (.string ⟨([]:B8).toArray⟩)∧b=w :=
 (Any.strings_Join_none yq1 zk2 a c ⟨#[32]⟩ w).mono λe b ⟨g,d⟩=>⟨g,d⟩
def zc7:Nat->List B8->B8->Option B8:=λ_ xs t=>if t=[32]∧xs.length<=1048576∧(Lib.join xs [32]).length<=16777216 then some (Lib.join xs [32])else none
noncomputable def y0z:FI dat :=
 {R:=B8,ent:=λn=>{f:=60,p:=0,args:=[.d (.sl .str),.d .str],aos:=[],outs:=[.d .str],ros:=[],pan:=.nilp,pos:=[],pure:=true,go:=λx k _=>(zc7 n x.1 x.2.1).bind λr=>k (r,())},
   c:=.skip,K:=⟨λ_=>none,[],λ_=>none,λ_ _=>none⟩,p:=0,args:=[],aos:=[],nt:=0,z2k:=λ_=>[],go:=λ_ _=>none}
def z0dq(xs)(D:xs.length<=1048576)(C:(Lib.join xs [32]).length<=16777216){v}(N:DR dat (.sl .str) xs v):zrw prog 60 [v,.str [32]] (.str (Lib.join xs [32])):=λH W g E K X=>by
 obtain⟨x,y,rfl,q,Y⟩:=yuh X;cases Y;refine .inl ⟨call60 _ _,?_⟩
 have nil:∀a c,xs=[]->Calls prog 60 #[.slice a 0 c,.string ⟨#[32]⟩] W λe W'=>∃c g',e = .returned c∧Step W g H W' g' H∧Go.Ab.Good W' g' H∧Rel W' g' H (.str (Lib.join xs [32])) c:=λa c R=>(join_none a c W).mono λe w' ⟨B,n⟩=>by
  subst R;subst n;exact⟨_,g,B,.refl _ _ _,K,.str _⟩
 cases N with
 |nil=>cases q;exact nil none 0 rfl
 |sl _ _ ws full I T=>
  have u:ws=xs.map V.str:=by
   refine List.ext_getElem? λj =>?_
   rw[Qan]
   cases h:xs[j]? with
   |none=>have:=List.getElem?_eq_none_iff.1 h;simp only[Option.map_none];exact List.getElem?_eq_none (by rw[I];exact this)
   |some z=>
    have A:=(Qaa.1 h).1;obtain⟨w,n⟩:∃w,ws[j]? = some w:=⟨_,Qab (by rw[I];exact A)⟩;have:=T j z w h n;rw[n];cases this;rfl
  subst u;generalize r:xs.map V.str=ys at q
  cases q with
  |slnil=>grind
  |sle _ _ a l Q=>grind
  |sl _ _ _ b o l c P F m Q G U Z O=>
   subst r
   have d:∀(j:Nat) (s:B8),xs[j]? = some s->W.cell? ⟨b,o+j,none⟩=some (.string ⟨s.toArray⟩):=λj s h=>by
    have M:(xs.map V.str)[j]? = some (.str s):=by grind
    have p:=U j (.str s) 0 (.str s) M rfl;have L:=O j (.str s) 0 (.str s) M rfl;have p:W.cell? ⟨b,o+j * 1+0,none⟩=some (c j 0):=p;rw[Nat.mul_one,Nat.add_zero]at p;rw[p];cases F:c j 0 <;> rw[F]at L <;> cases L
    rfl
   have k:(xs.map λs=>(⟨s.toArray⟩:ByteArray)).map (·.data.toList)=xs:=by rw[List.map_map];exact(List.map_congr_left λs _=>mk_data s).trans (List.map_id _)
   have:=yye (xs.map λs=>⟨s.toArray⟩) b o l W (λj x h=>by
    rw[Qan,Qaf]at h;obtain⟨s,G,rfl⟩:=h
    exact d j s G) (by simpa using D) (by simpa using m) (by rw[k];exact C) (by
    cases xs with
    |nil=>exact .inl rfl
    |cons s t=>exact .inr (y95 (d 0 s rfl)))
   rw[k,List.length_map]at this;rw[List.length_map];refine this.mono ?_
   rintro e W' ⟨rfl,i⟩
   have J:Grow W W':=⟨i.os,i.tape,i.output,i.size,i.block⟩;exact⟨_,g,rfl,J.step,K.grow J,.str _⟩
def yf2:FOk prog y0z:=λn R x k q r h=>by
 have⟨xs,t,u⟩:=x;have⟨y,a,h⟩:=Qbw.1 (show(zc7 n xs t).bind (λr=>k (r,()))=some r from h);unfold zc7 at a;split at a
 case isFalse=>cases a
 rename_i j;obtain⟨rfl,e,d⟩:=j;cases a;refine⟨(_,()),h,rfl,rfl,rfl,λlv g l=>⟨[.str (Lib.join xs [32])],λρ b =>?_,?_⟩⟩;show VRL dat ρ b [TV.str (Lib.join xs [32])] _;simp only[VRL,VR]
 grind
 obtain⟨v,p,rfl,⟨i,_,_⟩,m,o,rfl,rfl,rfl⟩:=l;exact z0dq xs e d i
def ya0{f:Nat}{b H rv}(d:∀args w,(callFunc f args).run prog w = .ok (.enter f args) w)
  (h:∀W g a,Go.Ab.Good W g H->zmy W g H b a->Calls prog f a W λe W'=>Grow W W'∧∃c,e = .returned c∧Rel W' g H rv c):zqp prog f b H λo H'=>o = .ret rv∧H'=H:=λW g a j m=>
 ⟨d _ _,(h W g a j m).mono λe W' ⟨i,c,l,k⟩=>⟨.ret rv,H,g,⟨rfl,rfl⟩,i.step,j.grow i,c,l,k⟩⟩
def y6k{lv L}:Go.Ab.Left dat lv L [] 0 L [] [] () :=
 ⟨rfl,λ_ _ h=>(by cases h),λ_ _ _ _ _ h=>(by simp at h),λ_ _ _ h=>(by simp at h),λi hi _=>⟨hi,rfl⟩,λ_ _ h=>(Nat.not_lt_zero _ h).elim,λ_ _ _ h=>(by simp at h)⟩
def ze3:Nat->B8->Option B8|0,_=>none|n+1,a=>some a
def yfj:LSh:=⟨[(2,(.fn 98 [] [.ptr 0 0]))],[.cells [.d .str]],0,4,[]⟩
noncomputable def zfa:FI dat:=FI.of dat 42 4 0 [(.d .str)] [] [(.fn 98 [] [.ptr 0 0])] [.cells [.d .str]] false yfj (R:=B8) (λx=>x.1) (λr=>(r,())) (λn x=>ze3 n x.1) (λn=>[]) (ann [] (f42.body.getD .skip) 0).1
def yfi:(zfa).Good prog dat (tb []):=FI.z2i (hD:=kzd _) func42 ntmps42 call42 (by kernel_rfl) (Qac (by kernel_rfl)) (by kernel_rfl) (λn=>by kernel_rfl) (λx=>by kernel_rfl) (λ_=>rfl) trivial (λn=>λx=>(ze3.eq_2 x.1 n).trans (by kernel_rfl)) (λn=>trivial) (λx=>.inr (by kernel_rfl))
def yee:OkL prog [zfa]:=zth (kzd _) (bs:=[]) trivial yfi
def yar:FOk prog zfa:=yee.1
def zcc:Nat->B8->Option (Res (Int×Unit) Int):=λ_ s=>if s.length<=1000000 then some (match Lib.atoiAll s with
 |.ok v=>.ok v
 |.range=>.pan (Lib.atoiSat s,())
 |_=>.pan (0,()))else none
noncomputable def y1x:FI dat :=
 {R:=Res (Int×Unit) Int,ent:=λn=>{f:=103,p:=0,args:=[.d .str],aos:=[],outs:=[.d (.int .i64),.nili],ros:=[],pan:=.tup [.d (.int .i64),.iface 233 .any],pos:=[],pure:=false,go:=λx k a=>(zcc n x.1).bind λo=>zp2 o (λr=>k (r,())) λy=>a y},
   c:=.skip,K:=⟨λ_=>none,[],λ_=>none,λ_ _=>none⟩,p:=0,args:=[],aos:=[],nt:=0,z2k:=λ_=>[],go:=λ_ _=>none}
def yug(W)(ty:Nat)(t):Below W.heap.size W (Lib.bytesWorld W ty t):=⟨rfl,rfl,rfl,by rw[Lib.bytesWorld_size];omega,λj a=>Lib.bytesWorld_at_old W ty t j a⟩
def z09z{W g H}(d:Go.Ab.Good W g H){k}(b:gle k=true):∃v,W.cell? ⟨k,0,none⟩=some v∧(v = .nilIface∨∃te a,v = .iface te a):=by
 have⟨_,v,ty,q,h,e⟩:=d.zqr.2 k b;exact⟨v,by rw[Lib.cell_of_heap h];rfl,e⟩
def z06u(s)(B:s.length<=1000000)(H):zqp prog 103 [.str s] H λo H'=>H'=H∧match Lib.atoiAll s with
  |.ok v=>o = .ret (.tup [.int .i64 v,.nili])
  |.range=>o = .ret (.tup [.int .i64 (Lib.atoiSat s),.iface 233 .any])
  |_=>o = .ret (.tup [.int .i64 0,.iface 233 .any]):=by
 have z:(⟨s.toArray⟩:ByteArray).size<=281474976710656:=by show s.toArray.size<=_;simp;omega
 have i:∀{W:World}{g:Gh}{a b:V}{x y:Value},Rel W g H a x->Rel W g H b y->Rel W g H (.tup [a,b]) (.tuple #[x,y]):=λ{W g a b x y} n A=>.tup _ _ rfl λj v p=>by
  match j,p with
  |0,p=>simp_all
  |1,p=>simp_all
  |j+2,p=>simp at p
 cases h:Lib.atoiAll s
 case ok v=>
  refine(ya0 (rv:=.tup [.int .i64 v,.nili]) (λ_ _=>call103 _ _) λW g l u q =>?_).mono λo H' ⟨a,b⟩=>⟨b,a⟩
  obtain⟨x,rfl,r⟩:=yji q;cases r;refine(Any.strconv_Atoi_ok yif ⟨s.toArray⟩ (by omega) v h W).mono λe W' ⟨n,A⟩ =>?_
  have d:Below W.heap.size W W':=by
   rcases A with rfl|⟨t,rfl⟩
   exact .refl _ _;exact yug _ _ _
  exact⟨⟨d.os,d.tape,d.output,d.size,d.block⟩,_,n,i (.int _ _) .nili⟩
 case range=>
  refine(ya0 (rv:=.tup [.int .i64 (Lib.atoiSat s),.iface 233 .any]) (λ_ _=>call103 _ _) λW g l u q =>?_).mono λo H' ⟨a,b⟩=>⟨b,a⟩
  obtain⟨x,rfl,r⟩:=yji q;cases r;have⟨ev,w,m⟩:=z09z u (k:=4) rfl;refine(Any.strconv_Atoi_range yif ⟨s.toArray⟩ z h ev W w m).mono λe W' ⟨N,n,_,_,d⟩ =>?_
  exact⟨⟨d.os,d.tape,d.output,d.size,d.block⟩,_,n,i (.int _ _) (.iface _ _ _ (.any _))⟩
 refine(ya0 (rv:=.tup [.int .i64 0,.iface 233 .any]) (λ_ _=>call103 _ _) λW g l u q =>?_).mono λo H' ⟨a,b⟩=>⟨b,a⟩
 obtain⟨x,rfl,r⟩:=yji q;cases r;have⟨ev,w,m⟩:=z09z u (k:=3) rfl;refine(Any.strconv_Atoi_syntax yif ⟨s.toArray⟩ z h ev W w m).mono λe W' ⟨N,n,_,_,d⟩ =>?_
 exact⟨⟨d.os,d.tape,d.output,d.size,d.block⟩,_,n,i (.int _ _) (.iface _ _ _ (.any _))⟩
def ye2:FOk prog y1x:=λn R x k w r h=>by
 have⟨o,d,h⟩:=Qbw.1 (show(zcc n x.1).bind (λo=>zp2 o (λr=>k (r,())) λy=>w y)=some r from h);unfold zcc at d;split at d
 case isFalse=>cases d
 rename_i z;injection d with d;have e:=λH=>z06u x.1 z H
 cases l:Lib.atoiAll x.1
 case ok v=>
  rw[l]at d e;subst d;refine .inl ⟨(v,()),h,λlv L E ρ0 a g b u s _ =>?_⟩;obtain rfl:ρ0=[]:=Qao g;have b:VRL dat [] lv [TV.str x.1] a:=b;simp[VR]at b;obtain⟨m,p,rfl,rfl,rfl⟩:=b;refine(e ⟨lv,L,E⟩).mono λo H' ⟨j,i⟩=>⟨L,[],j,y6k,⟨(λq A=>by cases A),.nil⟩,[.int .i64 v,.nili],i,?_⟩
  show VRL dat [] lv [TV.int .i64 v,TV.nili] _;simp only[VRL,VR]
  grind
 case range=>
  rw[l]at d e;subst d;refine .inr ⟨(Lib.atoiSat x.1,()),h,λlv L E ρ0 a g b u s _ =>?_⟩;obtain rfl:ρ0=[]:=Qao g;have b:VRL dat [] lv [TV.str x.1] a:=b;simp[VR]at b;obtain⟨m,p,rfl,rfl,rfl⟩:=b;refine(e ⟨lv,L,E⟩).mono λo H' ⟨j,i⟩=>⟨L,[],j,y6k,_,i,?_⟩
  show VR dat [] lv (.tup [TV.int .i64 (Lib.atoiSat x.1),TV.iface 233 .any]) _;simp only[VR,VRL];exact⟨_,rfl,_,_,rfl,rfl,_,_,rfl,⟨_,rfl,trivial⟩,rfl⟩
 rw[l]at d e;subst d;refine .inr ⟨((0:Int),()),h,λlv L E ρ0 a g b u s _ =>?_⟩;obtain rfl:ρ0=[]:=Qao g;obtain⟨m,p,rfl,rfl,rfl⟩:=b;refine(e ⟨lv,L,E⟩).mono λo H' ⟨j,i⟩=>⟨L,[],j,y6k,_,i,?_⟩
 exact⟨_,rfl,_,_,rfl,rfl,_,_,rfl,⟨_,rfl,trivial⟩,rfl⟩
end Go.Proofs.YthphaiccgnkobaaGreatDoor
namespace Go.Proofs.YthphaiccgnkobaaGreatDoor
open Go Go.Ab
open Go.Proofs.Tryz
set_option maxRecDepth 100000
set_option maxHeartbeats 4000000
def ywv:Nat->B8->Ot zz2|0,_=>none|n+1,a=>some (zz2.mk 2 (kz1.mk 0 (yz4.mk 0 0) false [] []) a [])
def zwi:Nat->Int->Ot zz2|0,_=>none|n+1,a=>some (zz2.mk 1 (kz1.mk 1 (yz4.mk a 1) false [] []) [] [])
def y4s:Nat->Option zz2|0=>none|n+1=>some (zz2.mk 1 (kz1.mk 2 (yz4.mk 0 0) true [] []) [] [])
def yru:Nat->zz4->Ot yz2|0,_=>none|n+1,a=>(zwi n 1).bind λd=>(y4s n).bind λb=>some (yz2.mk [(yzl.mk [107] d.re)] [(yz7.mk [97] [[110]] [(kz7.mk 1 b.re [a])])])
def zce:Nat->zz4->Ot Bool|0,_=>none|n+1,a=>some (decide ((a.items.length:Int)>10))
def yhy:LSh:=⟨[(2,dB)],[],0,7,[]⟩
noncomputable def zyf:FI dat:=FI.of dat 87 7 0 [dT 8] [] [dB] [] true yhy (R:=Bool) Prod.fst (·,()) (λn=>u1 (zce n)) (λn=>[]) (anb [] f87)
def yek:FOk prog zyf:=okF (bs:=[]) trivial func87 ntmps87 call87 (λn=>λ_=>tr (zce.eq_2 _ n)) (λn=>trivial)
mutual
def yzn:Nat->z9z->Ot Int|0,_=>none|n+1,a=>yzd n 0 a (a.length:Int)
def yzd:Nat->Int->z9z->Int->Ot Int|0,_,_,_=>none|n+1,a,b,c=>pIf (decide (a<c)) ((ix b a).bind λe=>(zce n e).bind λd=>pIf d (some a) (yzd n (IntKind.i64.wrap (a+1)) b c)) (some (-1))
end
def zft:LSh:=⟨[(4,dI)],[],0,19,[]⟩
noncomputable def z7m:FI dat:=FI.of dat 147 19 0 [dL 8,(.fn 87 [] [])] [] [dI] [] true zft (R:=Int) Prod.fst (·,()) (λn=>u1 (yzn n)) (λn=>[(0,⟨⟨[(8,dI),(0,dL 8),(1,(.fn 87 [] [])),(7,dI)],[],0,19,[]⟩,u3 (yzd n)⟩)]) (anb [(6,0)] f147)
def zf4:FOk prog z7m:=okF (bs:=[zyf]) ⟨yek,trivial⟩ func147 ntmps147 call147 (λ_ _=>tr (yzn.eq_2 ..)) (λn=>⟨λ_=>tr (yzd.eq_2 ..),trivial⟩)
def zzd:Nat->z9z->Ot Bool|0,_=>none|n+1,a=>(yzn n a).bind λb=>some (decide (b>=0))
def zef:LSh:=⟨[(4,dB)],[],0,9,[]⟩
noncomputable def z5t:FI dat:=FI.of dat 86 9 0 [dL 8,(.fn 87 [] [])] [] [dB] [] true zef (R:=Bool) Prod.fst (·,()) (λn=>u1 (zzd n)) (λn=>[]) (anb [] f86)
def zdn:FOk prog z5t:=okF (bs:=[z7m]) ⟨zf4,trivial⟩ func86 ntmps86 call86 (λ_ _=>tr (zzd.eq_2 ..)) (λn=>trivial)
mutual
def zfm:Nat->yz2->Ot Bool|0,_=>none|n+1,a=>pIf (decide ((a.attrs.length:Int)>20)) (z88 n true a) (z88 n (decide ((a.rules.length:Int)>40)) a)
def z88:Nat->Bool->yz2->Ot Bool|0,_,_=>none|n+1,a,b=>pIf a (some true) (z5a n 0 b.rules (b.rules.length:Int))
def z5a:Nat->Int->zzl->Int->Ot Bool|0,_,_,_=>none|n+1,a,b,c=>pIf (decide (a<c)) ((ix b a).bind λd=>pIf (decide ((d.params.length:Int)>4)) (z7p n b c a true d) (z7p n b c a (decide ((d.cases.length:Int)>6)) d)) (some false)
def z7p:Nat->zzl->Int->Int->Bool->yz7->Ot Bool|0,_,_,_,_,_=>none|n+1,a,b,c,d,e=>pIf d (some true) (z5l n 0 e.cases a b c (e.cases.length:Int))
def z5l:Nat->Int->z4m->zzl->Int->Int->Int->Ot Bool|0,_,_,_,_,_,_=>none|n+1,a,b,c,d,e,f=>pIf (decide (a<f)) ((ix b a).bind λg=>pIf (decide ((g.do_.length:Int)>10)) (z8t n b c d e f a true) ((zzd n g.do_).bind λh=>z8t n b c d e f a h)) (z5a n (IntKind.i64.wrap (e+1)) c d)
def z8t:Nat->z4m->zzl->Int->Int->Int->Int->Bool->Ot Bool|0,_,_,_,_,_,_,_=>none|n+1,a,b,c,d,e,f,g=>pIf g (some true) (z5l n (IntKind.i64.wrap (f+1)) a b c d e)
end
def ytu:LSh:=⟨[(2,dB)],[],0,52,[]⟩
noncomputable def y8d:FI dat:=FI.of dat 32 52 0 [dT 11] [] [dB] [] true ytu (R:=Bool) Prod.fst (·,()) (λn=>u1 (zfm n)) (λn=>[(0,⟨⟨[(1,(.ptr 0 0)),(16,dB)],[(.st 11)],0,52,[]⟩,u2 (z88 n)⟩),(1,⟨⟨[(20,dI),(18,dL 10),(19,dI)],[],0,52,[]⟩,u3 (z5a n)⟩),(2,⟨⟨[(18,dL 10),(19,dI),(20,dI),(4,(.ptr 0 0)),(33,dB)],[(.st 10)],0,52,[]⟩,u5 (z7p n)⟩),(3,⟨⟨[(37,dI),(35,dL 9),(18,dL 10),(19,dI),(20,dI),(36,dI)],[],0,52,[]⟩,u6 (z5l n)⟩),(4,⟨⟨[(35,dL 9),(18,dL 10),(19,dI),(20,dI),(36,dI),(37,dI),(49,dB)],[],0,52,[]⟩,u7 (z8t n)⟩)]) (anb [(5,0),(14,1),(28,2),(36,3),(49,4)] f32)
def ymy:FOk prog y8d:=okF (bs:=[z5t]) ⟨zdn,trivial⟩ func32 ntmps32 call32 (λ_ _=>tr (zfm.eq_2 ..)) (λn=>⟨λ_=>tr (z88.eq_2 ..),λ_=>tr (z5a.eq_2 ..),λ_=>tr (z7p.eq_2 ..),λ_=>tr (z5l.eq_2 ..),λ_=>tr (z8t.eq_2 ..),trivial⟩)
mutual
def zde:Nat->B8->Ot Bool|0,_=>none|n+1,a=>pIf ((a.length:Int)==0) (zb9 n a true) (zb9 n a (decide ((a.length:Int)>40)))
def zb9:Nat->B8->Bool->Ot Bool|0,_,_=>none|n+1,a,b=>pIf b (some false) (z1v n a 0)
def z1v:Nat->B8->Nat->Ot Bool|0,_,_=>none|n+1,a,b=>pIf (decide (b<a.length)) (pIf (decide (((zel a b).1:Int)>=97)) (z8c n ((zel a b).1:Int) (b:Int) (decide (((zel a b).1:Int)<=122)) a (b+(zel a b).2)) (z8c n ((zel a b).1:Int) (b:Int) false a (b+(zel a b).2))) (some true)
def z8c:Nat->Int->Int->Bool->B8->Nat->Ot Bool|0,_,_,_,_,_=>none|n+1,a,b,c,d,e=>pIf (!c) (pIf (b==0) (z0v n true d e) (pIf (a != 45) (pIf (decide (a<48)) (z0v n true d e) (z0v n (decide (a>57)) d e)) (z0v n false d e))) (z0v n false d e)
def z0v:Nat->Bool->B8->Nat->Ot Bool|0,_,_,_=>none|n+1,a,b,c=>pIf a (some false) (z1v n b c)
end
def yth:LSh:=⟨[(2,dB)],[],0,44,[]⟩
noncomputable def zxd:FI dat:=FI.of dat 148 44 0 [dS] [] [dB] [] true yth (R:=Bool) Prod.fst (·,()) (λn=>u1 (zde n)) (λn=>[(0,⟨⟨[(0,dS),(13,dB)],[],0,44,[]⟩,u2 (zb9 n)⟩),(1,⟨⟨[(15,(.ptr 0 0))],[.siter],0,44,[]⟩,u2 (z1v n)⟩),(2,⟨⟨[(15,(.ptr 0 0)),(4,(.d (.int .i32))),(3,dI),(5,dB)],[.siter],0,44,[]⟩,u5 (z8c n)⟩),(3,⟨⟨[(15,(.ptr 0 0)),(43,dB)],[.siter],0,44,[]⟩,u3 (z0v n)⟩)]) (anb [(5,0),(14,1),(26,2),(28,3)] f148)
def y5t:FOk prog zxd:=okF (bs:=[]) trivial func148 ntmps148 call148 (λ_ _=>tr (zde.eq_2 ..)) (λn=>⟨λ_=>tr (zb9.eq_2 ..),λ_=>tr (z1v.eq_2 ..),λ_=>tr (z8c.eq_2 ..),λ_=>tr (z0v.eq_2 ..),trivial⟩)
mutual
def yz5:Nat->(List B8)->B8->Ot Int|0,_,_=>none|n+1,a,b=>zz7 n 0 a b (a.length:Int)
def zz7:Nat->Int->(List B8)->B8->Int->Ot Int|0,_,_,_,_=>none|n+1,a,b,c,d=>pIf (decide (a<d)) ((ix b a).bind λe=>pIf (c==e) (some a) (zz7 n (IntKind.i64.wrap (a+1)) b c d)) (some (-1))
end
def zn6:LSh:=⟨[(4,dI)],[],0,19,[]⟩
noncomputable def z04:FI dat:=FI.of dat 35 19 0 [dA,dS] [] [dI] [] true zn6 (R:=Int) Prod.fst (·,()) (λn=>u2 (yz5 n)) (λn=>[(0,⟨⟨[(8,dI),(0,dA),(1,dS),(7,dI)],[],0,19,[]⟩,u4 (zz7 n)⟩)]) (anb [(6,0)] f35)
def z3t:FOk prog z04:=okF (bs:=[]) trivial func35 ntmps35 call35 (λ_ _=>tr (yz5.eq_2 ..)) (λn=>⟨λ_=>tr (zz7.eq_2 ..),trivial⟩)
end Go.Proofs.YthphaiccgnkobaaGreatDoor
