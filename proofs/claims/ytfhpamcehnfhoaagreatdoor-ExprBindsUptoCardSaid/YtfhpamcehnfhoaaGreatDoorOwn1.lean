/-
  THE GO STRUCTS AS LEAN STRUCTURES, by a program of this repo (types.py).
-/
import Derived.Test.YtfhpamcehnfhoaaGreatDoorLib2
import Derived.Test.YtfhpamcehnfhoaaGreatDoorLib3
import Derived.Test.YtfhpamcehnfhoaaGreatDoorLib5
import Derived.Shelf.Small.Strs
import Derived.Shelf.Sort.Plain
import Derived.Ground.NamesProg
import Derived.Test.YtfhpamcehnfhoaaGreatDoorProg
import Derived.Test.YtfhpamcehnfhoaaGreatDoorLib6
import Derived.Test.YtfhpamcehnfhoaaGreatDoorLib8
import Derived.Shelf.Slices.In.SortNone
import Derived.Test.YtfhpamcehnfhoaaGreatDoorRun8
import Derived.KernelRfl
namespace Go.Ab
open Go
set_option linter.unusedVariables false
set_option linter.unusedSimpArgs false
structure yz1 where
 num : Int
 den : Int
def yz1.el (x : yz1) : V := .agg [.int .i64 x.num, .int .i64 x.den]
def yz1.size (x : yz1) : Nat := 1 + 1 + 1
def yz1.wf (x : yz1) : Prop := (IntKind.i64.min ≤ x.num ∧ x.num ≤ IntKind.i64.max) ∧ (IntKind.i64.min ≤ x.den ∧ x.den ≤ IntKind.i64.max)
theorem yz1.yzf (x : yz1) : x.el = .agg [.int .i64 x.num, .int .i64 x.den] := by rw [yz1.el]
theorem yz1.size_eq (x : yz1) : x.size = 1 + 1 + 1 := by rw [yz1.size]
theorem yz1.z6p (x : yz1) : x.wf = ((IntKind.i64.min ≤ x.num ∧ x.num ≤ IntKind.i64.max) ∧ (IntKind.i64.min ≤ x.den ∧ x.den ≤ IntKind.i64.max)) := by rw [yz1.wf]
theorem yz1.z3f (x : yz1) : x.el.cells.length = 2 := by rw [yz1.yzf]; rfl
theorem yz1.zhj (x : yz1) : x.el = .agg x.el.cells := by rw [yz1.yzf]; rfl
theorem yz1.kin {D : Nat → Nat → Prop} (x : yz1) : V.kin D x.el := by rw [yz1.yzf]; simp only [V.kin, V.z6t, and_true, true_and]
def yz1.ty : Ty yz1 := ⟨yz1.el, 2, yz1.size, yz1.wf, yz1.z3f⟩
structure zz0 where
 kind : Int
 num : yz1
 truth : Bool
 str : List UInt8
 list : List zz0
theorem zz0.zna {x y : zz0} (h : y ∈ x.list) : SizeOf.sizeOf y < SizeOf.sizeOf x := by cases x; have := List.sizeOf_lt_of_mem h; simp at this ⊢; omega
def zz0.el (x : zz0) : V := .agg [.int .u8 x.kind, .int .i64 x.num.num, .int .i64 x.num.den, .bool x.truth, .str x.str, .sl 6 (x.list.map zz0.el) false]
 termination_by x
 decreasing_by all_goals first | exact zz0.zna ‹_›
def zz0.size (x : zz0) : Nat := 1 + x.num.size + 1 + (x.str.length + 1) + ((x.list.map zz0.size).sum + 1) + 1
 termination_by x
 decreasing_by all_goals first | exact zz0.zna ‹_›
def zz0.wf (x : zz0) : Prop := (IntKind.u8.min ≤ x.kind ∧ x.kind ≤ IntKind.u8.max) ∧ x.num.wf ∧ True ∧ True ∧ (∀ y ∈ x.list, y.wf)
 termination_by x
 decreasing_by all_goals first | exact zz0.zna ‹_›
theorem zz0.yzf (x : zz0) : x.el = .agg [.int .u8 x.kind, .int .i64 x.num.num, .int .i64 x.num.den, .bool x.truth, .str x.str, .sl 6 (x.list.map zz0.el) false] := by rw [zz0.el]
theorem zz0.size_eq (x : zz0) : x.size = 1 + x.num.size + 1 + (x.str.length + 1) + ((x.list.map zz0.size).sum + 1) + 1 := by rw [zz0.size]
theorem zz0.z6p (x : zz0) : x.wf = ((IntKind.u8.min ≤ x.kind ∧ x.kind ≤ IntKind.u8.max) ∧ x.num.wf ∧ True ∧ True ∧ (∀ y ∈ x.list, y.wf)) := by rw [zz0.wf]
theorem zz0.z3f (x : zz0) : x.el.cells.length = 6 := by rw [zz0.yzf]; rfl
theorem zz0.zhj (x : zz0) : x.el = .agg x.el.cells := by rw [zz0.yzf]; rfl
theorem zz0.kin {D : Nat → Nat → Prop} (x : zz0) : V.kin D x.el := by rw [zz0.yzf]; simp only [V.kin, V.z6t, and_true, true_and]; exact znd fun y hy => zz0.kin y
 termination_by x
 decreasing_by all_goals first | exact zz0.zna ‹_›
def zz0.ty : Ty zz0 := ⟨zz0.el, 6, zz0.size, zz0.wf, zz0.z3f⟩
structure zz1 where
 op : Int
 value : zz0
 name : List UInt8
 args : List zz1
theorem zz1.zmz {x y : zz1} (h : y ∈ x.args) : SizeOf.sizeOf y < SizeOf.sizeOf x := by cases x; have := List.sizeOf_lt_of_mem h; simp at this ⊢; omega
def zz1.el (x : zz1) : V := .agg [.int .u8 x.op, .int .u8 x.value.kind, .int .i64 x.value.num.num, .int .i64 x.value.num.den, .bool x.value.truth, .str x.value.str, .sl 6 (x.value.list.map zz0.el) false, .str x.name, .sl 9 (x.args.map zz1.el) false]
 termination_by x
 decreasing_by all_goals first | exact zz1.zmz ‹_›
def zz1.size (x : zz1) : Nat := 1 + x.value.size + (x.name.length + 1) + ((x.args.map zz1.size).sum + 1) + 1
 termination_by x
 decreasing_by all_goals first | exact zz1.zmz ‹_›
def zz1.wf (x : zz1) : Prop := (IntKind.u8.min ≤ x.op ∧ x.op ≤ IntKind.u8.max) ∧ x.value.wf ∧ True ∧ (∀ y ∈ x.args, y.wf)
 termination_by x
 decreasing_by all_goals first | exact zz1.zmz ‹_›
theorem zz1.yzf (x : zz1) : x.el = .agg [.int .u8 x.op, .int .u8 x.value.kind, .int .i64 x.value.num.num, .int .i64 x.value.num.den, .bool x.value.truth, .str x.value.str, .sl 6 (x.value.list.map zz0.el) false, .str x.name, .sl 9 (x.args.map zz1.el) false] := by rw [zz1.el]
theorem zz1.size_eq (x : zz1) : x.size = 1 + x.value.size + (x.name.length + 1) + ((x.args.map zz1.size).sum + 1) + 1 := by rw [zz1.size]
theorem zz1.z6p (x : zz1) : x.wf = ((IntKind.u8.min ≤ x.op ∧ x.op ≤ IntKind.u8.max) ∧ x.value.wf ∧ True ∧ (∀ y ∈ x.args, y.wf)) := by rw [zz1.wf]
theorem zz1.z3f (x : zz1) : x.el.cells.length = 9 := by rw [zz1.yzf]; rfl
theorem zz1.zhj (x : zz1) : x.el = .agg x.el.cells := by rw [zz1.yzf]; rfl
theorem zz1.kin {D : Nat → Nat → Prop} (x : zz1) : V.kin D x.el := by rw [zz1.yzf]; simp only [V.kin, V.z6t, and_true, true_and]; exact ⟨znd fun y hy => zz0.kin y, znd fun y hy => zz1.kin y⟩
 termination_by x
 decreasing_by all_goals first | exact zz1.zmz ‹_›
def zz1.ty : Ty zz1 := ⟨zz1.el, 9, zz1.size, zz1.wf, zz1.z3f⟩
structure yz4 where
 name : List UInt8
 value : zz0
def yz4.el (x : yz4) : V := .agg [.str x.name, .int .u8 x.value.kind, .int .i64 x.value.num.num, .int .i64 x.value.num.den, .bool x.value.truth, .str x.value.str, .sl 6 (x.value.list.map zz0.el) false]
def yz4.size (x : yz4) : Nat := (x.name.length + 1) + x.value.size + 1
def yz4.wf (x : yz4) : Prop := True ∧ x.value.wf
theorem yz4.yzf (x : yz4) : x.el = .agg [.str x.name, .int .u8 x.value.kind, .int .i64 x.value.num.num, .int .i64 x.value.num.den, .bool x.value.truth, .str x.value.str, .sl 6 (x.value.list.map zz0.el) false] := by rw [yz4.el]
theorem yz4.size_eq (x : yz4) : x.size = (x.name.length + 1) + x.value.size + 1 := by rw [yz4.size]
theorem yz4.z6p (x : yz4) : x.wf = (True ∧ x.value.wf) := by rw [yz4.wf]
theorem yz4.z3f (x : yz4) : x.el.cells.length = 7 := by rw [yz4.yzf]; rfl
theorem yz4.zhj (x : yz4) : x.el = .agg x.el.cells := by rw [yz4.yzf]; rfl
theorem yz4.kin {D : Nat → Nat → Prop} (x : yz4) : V.kin D x.el := by rw [yz4.yzf]; simp only [V.kin, V.z6t, and_true, true_and]; exact znd fun y hy => zz0.kin y
def yz4.ty : Ty yz4 := ⟨yz4.el, 7, yz4.size, yz4.wf, yz4.z3f⟩
structure zz7 where
 s : List UInt8
def zz7.el (x : zz7) : V := .agg [.str x.s]
def zz7.size (x : zz7) : Nat := (x.s.length + 1) + 1
def zz7.wf (x : zz7) : Prop := True
theorem zz7.yzf (x : zz7) : x.el = .agg [.str x.s] := by rw [zz7.el]
theorem zz7.size_eq (x : zz7) : x.size = (x.s.length + 1) + 1 := by rw [zz7.size]
theorem zz7.z6p (x : zz7) : x.wf = (True) := by rw [zz7.wf]
theorem zz7.z3f (x : zz7) : x.el.cells.length = 1 := by rw [zz7.yzf]; rfl
theorem zz7.zhj (x : zz7) : x.el = .agg x.el.cells := by rw [zz7.yzf]; rfl
theorem zz7.kin {D : Nat → Nat → Prop} (x : zz7) : V.kin D x.el := by rw [zz7.yzf]; simp only [V.kin, V.z6t, and_true, true_and]
def zz7.ty : Ty zz7 := ⟨zz7.el, 1, zz7.size, zz7.wf, zz7.z3f⟩
structure kz6 where
 s : List UInt8
 at_ : Int
 ok : Bool
def kz6.el (x : kz6) : V := .agg [.str x.s, .int .i64 x.at_, .bool x.ok]
def kz6.size (x : kz6) : Nat := (x.s.length + 1) + 1 + 1 + 1
def kz6.wf (x : kz6) : Prop := True ∧ (IntKind.i64.min ≤ x.at_ ∧ x.at_ ≤ IntKind.i64.max) ∧ True
theorem kz6.yzf (x : kz6) : x.el = .agg [.str x.s, .int .i64 x.at_, .bool x.ok] := by rw [kz6.el]
theorem kz6.size_eq (x : kz6) : x.size = (x.s.length + 1) + 1 + 1 + 1 := by rw [kz6.size]
theorem kz6.z6p (x : kz6) : x.wf = (True ∧ (IntKind.i64.min ≤ x.at_ ∧ x.at_ ≤ IntKind.i64.max) ∧ True) := by rw [kz6.wf]
theorem kz6.z3f (x : kz6) : x.el.cells.length = 3 := by rw [kz6.yzf]; rfl
theorem kz6.zhj (x : kz6) : x.el = .agg x.el.cells := by rw [kz6.yzf]; rfl
theorem kz6.kin {D : Nat → Nat → Prop} (x : kz6) : V.kin D x.el := by rw [kz6.yzf]; simp only [V.kin, V.z6t, and_true, true_and]
def kz6.ty : Ty kz6 := ⟨kz6.el, 3, kz6.size, kz6.wf, kz6.z3f⟩
structure yzx where
 a : yz1
 b : yz1
 out : yz1
 e : Int
def yzx.el (x : yzx) : V := .agg [.int .i64 x.a.num, .int .i64 x.a.den, .int .i64 x.b.num, .int .i64 x.b.den, .int .i64 x.out.num, .int .i64 x.out.den, .int .i64 x.e]
def yzx.size (x : yzx) : Nat := x.a.size + x.b.size + x.out.size + 1 + 1
def yzx.wf (x : yzx) : Prop := x.a.wf ∧ x.b.wf ∧ x.out.wf ∧ (IntKind.i64.min ≤ x.e ∧ x.e ≤ IntKind.i64.max)
theorem yzx.yzf (x : yzx) : x.el = .agg [.int .i64 x.a.num, .int .i64 x.a.den, .int .i64 x.b.num, .int .i64 x.b.den, .int .i64 x.out.num, .int .i64 x.out.den, .int .i64 x.e] := by rw [yzx.el]
theorem yzx.size_eq (x : yzx) : x.size = x.a.size + x.b.size + x.out.size + 1 + 1 := by rw [yzx.size]
theorem yzx.z6p (x : yzx) : x.wf = (x.a.wf ∧ x.b.wf ∧ x.out.wf ∧ (IntKind.i64.min ≤ x.e ∧ x.e ≤ IntKind.i64.max)) := by rw [yzx.wf]
theorem yzx.z3f (x : yzx) : x.el.cells.length = 7 := by rw [yzx.yzf]; rfl
theorem yzx.zhj (x : yzx) : x.el = .agg x.el.cells := by rw [yzx.yzf]; rfl
theorem yzx.kin {D : Nat → Nat → Prop} (x : yzx) : V.kin D x.el := by rw [yzx.yzf]; simp only [V.kin, V.z6t, and_true, true_and]
def yzx.ty : Ty yzx := ⟨yzx.el, 7, yzx.size, yzx.wf, yzx.z3f⟩
end Go.Ab


namespace Go.Ab
open Go
set_option linter.unusedVariables false
structure z7v where
 e0 : List UInt8
 e1 : List UInt8
 e2 : List UInt8
 e3 : List UInt8
 e4 : List UInt8
 e5 : List UInt8
 e6 : List UInt8
 e7 : List UInt8
def z7v.el (x : z7v) : V := .agg [.str x.e0, .str x.e1, .str x.e2, .str x.e3, .str x.e4, .str x.e5, .str x.e6, .str x.e7]
theorem z7v.yzf (x : z7v) : x.el = .agg [.str x.e0, .str x.e1, .str x.e2, .str x.e3, .str x.e4, .str x.e5, .str x.e6, .str x.e7] := rfl
theorem z7v.kin {Dm : Nat → Nat → Prop} (x : z7v) : V.kin Dm x.el := by simp [z7v.el, V.kin, V.z6t]
structure z7z where
 e0 : List UInt8
 e1 : List UInt8
 e2 : List UInt8
 e3 : List UInt8
 e4 : List UInt8
 e5 : List UInt8
 e6 : List UInt8
def z7z.el (x : z7z) : V := .agg [.str x.e0, .str x.e1, .str x.e2, .str x.e3, .str x.e4, .str x.e5, .str x.e6]
theorem z7z.yzf (x : z7z) : x.el = .agg [.str x.e0, .str x.e1, .str x.e2, .str x.e3, .str x.e4, .str x.e5, .str x.e6] := rfl
theorem z7z.kin {Dm : Nat → Nat → Prop} (x : z7z) : V.kin Dm x.el := by simp [z7z.el, V.kin, V.z6t]
def zz0.re (x : zz0) : zz0 := ⟨x.kind, x.num, x.truth, x.str, x.list⟩
@[simp] theorem zz0.zz3 (x : zz0) : x.re = x := by cases x; simp [zz0.re]
def zz1.re (x : zz1) : zz1 := ⟨x.op, x.value.re, x.name, x.args⟩
@[simp] theorem zz1.zz3 (x : zz1) : x.re = x := by cases x; simp [zz1.re]
def yz4.re (x : yz4) : yz4 := ⟨x.name, x.value.re⟩
@[simp] theorem yz4.zz3 (x : yz4) : x.re = x := by cases x; simp [yz4.re]
def datT : Nat → Type
 | 0 => z7v
 | 1 => z7z
 | 2 => yz1
 | 3 => zz0
 | 4 => zz1
 | 5 => yz4
 | 6 => zz7
 | 7 => kz6
 | 8 => yzx
 | _ => Unit
def zk9 : Nat → List DTy
 | 0 => [.str, .str, .str, .str, .str, .str, .str, .str]
 | 1 => [.str, .str, .str, .str, .str, .str, .str]
 | 2 => [.int .i64, .int .i64]
 | 3 => [.int .u8, .int .i64, .int .i64, .bool, .str, .sl (.st 3)]
 | 4 => [.int .u8, .int .u8, .int .i64, .int .i64, .bool, .str, .sl (.st 3), .str, .sl (.st 4)]
 | 5 => [.str, .int .u8, .int .i64, .int .i64, .bool, .str, .sl (.st 3)]
 | 6 => [.str]
 | 7 => [.str, .int .i64, .bool]
 | 8 => [.int .i64, .int .i64, .int .i64, .int .i64, .int .i64, .int .i64, .int .i64]
 | _ => []
def ykt : List (Nat × DTy) := [(2, .int .i64), (3, .int .i64), (4, .bool), (5, .int .u8), (6, .int .u8), (9, .str), (10, .str), (11, .str), (12, .int .u64), (21, .int .i32), (23, .st 2), (24, .sl (.st 3)), (26, .st 3), (27, .sl (.st 4)), (29, .st 4), (31, .int .i64), (49, .sl (.st 5)), (51, .st 5), (61, .sl .str), (72, .sl (.int .u8)), (106, .st 6), (123, .int .u64), (129, .st 0), (130, .st 1), (144, .int .i64), (152, .int .u32), (154, .int .u64), (186, .int .u64), (198, .int .u16), (207, .st 7), (220, .st 8), (241, .sl (.int .i64)), (252, .int .u8), (253, .int .u8), (255, .int .i32), (256, .int .i32)]
def dat : Dat where
 T := datT
 fl := zk9
 get := fun i => match i with
  | 0 => fun (x : z7v) => (x.e0, x.e1, x.e2, x.e3, x.e4, x.e5, x.e6, x.e7, ())
  | 1 => fun (x : z7z) => (x.e0, x.e1, x.e2, x.e3, x.e4, x.e5, x.e6, ())
  | 2 => fun (x : yz1) => (x.num, x.den, ())
  | 3 => fun (x : zz0) => (x.kind, x.num.num, x.num.den, x.truth, x.str, x.list, ())
  | 4 => fun (x : zz1) => (x.op, x.value.kind, x.value.num.num, x.value.num.den, x.value.truth, x.value.str, x.value.list, x.name, x.args, ())
  | 5 => fun (x : yz4) => (x.name, x.value.kind, x.value.num.num, x.value.num.den, x.value.truth, x.value.str, x.value.list, ())
  | 6 => fun (x : zz7) => (x.s, ())
  | 7 => fun (x : kz6) => (x.s, x.at_, x.ok, ())
  | 8 => fun (x : yzx) => (x.a.num, x.a.den, x.b.num, x.b.den, x.out.num, x.out.den, x.e, ())
  | _ + 9 => fun _ => ()
 make := fun i => match i with
  | 0 => fun x => z7v.mk x.1 x.2.1 x.2.2.1 x.2.2.2.1 x.2.2.2.2.1 x.2.2.2.2.2.1 x.2.2.2.2.2.2.1 x.2.2.2.2.2.2.2.1
  | 1 => fun x => z7z.mk x.1 x.2.1 x.2.2.1 x.2.2.2.1 x.2.2.2.2.1 x.2.2.2.2.2.1 x.2.2.2.2.2.2.1
  | 2 => fun x => yz1.mk x.1 x.2.1
  | 3 => fun x => zz0.mk x.1 (yz1.mk x.2.1 x.2.2.1) x.2.2.2.1 x.2.2.2.2.1 x.2.2.2.2.2.1
  | 4 => fun x => zz1.mk x.1 (zz0.mk x.2.1 (yz1.mk x.2.2.1 x.2.2.2.1) x.2.2.2.2.1 x.2.2.2.2.2.1 x.2.2.2.2.2.2.1) x.2.2.2.2.2.2.2.1 x.2.2.2.2.2.2.2.2.1
  | 5 => fun x => yz4.mk x.1 (zz0.mk x.2.1 (yz1.mk x.2.2.1 x.2.2.2.1) x.2.2.2.2.1 x.2.2.2.2.2.1 x.2.2.2.2.2.2.1)
  | 6 => fun x => zz7.mk x.1
  | 7 => fun x => kz6.mk x.1 x.2.1 x.2.2.1
  | 8 => fun x => yzx.mk (yz1.mk x.1 x.2.1) (yz1.mk x.2.2.1 x.2.2.2.1) (yz1.mk x.2.2.2.2.1 x.2.2.2.2.2.1) x.2.2.2.2.2.2.1
  | _ + 9 => fun _ => ()
 enc := fun i => match i with
  | 0 => z7v.el
  | 1 => z7z.el
  | 2 => yz1.el
  | 3 => zz0.el
  | 4 => zz1.el
  | 5 => yz4.el
  | 6 => zz7.el
  | 7 => kz6.el
  | 8 => yzx.el
  | _ + 9 => fun _ => .agg []
 ty := fnd ykt
end Go.Ab


namespace Go.Ab
open Go
set_option linter.unusedVariables false
theorem zz2 (P : Program) : dat.Ok P where
 enc := fun i => match i with
  | 0 => fun x => z7v.yzf x
  | 1 => fun x => z7z.yzf x
  | 2 => fun x => yz1.yzf x
  | 3 => fun x => zz0.yzf x
  | 4 => fun x => zz1.yzf x
  | 5 => fun x => yz4.yzf x
  | 6 => fun x => zz7.yzf x
  | 7 => fun x => kz6.yzf x
  | 8 => fun x => yzx.yzf x
  | _ + 9 => fun _ => rfl
 getMake := fun i => match i with
  | 0 => fun x => rfl
  | 1 => fun x => rfl
  | 2 => fun x => rfl
  | 3 => fun x => rfl
  | 4 => fun x => rfl
  | 5 => fun x => rfl
  | 6 => fun x => rfl
  | 7 => fun x => rfl
  | 8 => fun x => rfl
  | _ + 9 => fun _ => rfl
 flat := fun i => match i with
  | 0 => fun t h => by simp only [dat, zk9, List.mem_cons, List.not_mem_nil, or_false] at h; rcases h with rfl | rfl | rfl | rfl | rfl | rfl | rfl | rfl <;> trivial
  | 1 => fun t h => by simp only [dat, zk9, List.mem_cons, List.not_mem_nil, or_false] at h; rcases h with rfl | rfl | rfl | rfl | rfl | rfl | rfl <;> trivial
  | 2 => fun t h => by simp only [dat, zk9, List.mem_cons, List.not_mem_nil, or_false] at h; rcases h with rfl | rfl <;> trivial
  | 3 => fun t h => by simp only [dat, zk9, List.mem_cons, List.not_mem_nil, or_false] at h; rcases h with rfl | rfl | rfl | rfl | rfl | rfl <;> trivial
  | 4 => fun t h => by simp only [dat, zk9, List.mem_cons, List.not_mem_nil, or_false] at h; rcases h with rfl | rfl | rfl | rfl | rfl | rfl | rfl | rfl | rfl <;> trivial
  | 5 => fun t h => by simp only [dat, zk9, List.mem_cons, List.not_mem_nil, or_false] at h; rcases h with rfl | rfl | rfl | rfl | rfl | rfl | rfl <;> trivial
  | 6 => fun t h => by simp only [dat, zk9, List.mem_cons, List.not_mem_nil, or_false] at h; rcases h with rfl <;> trivial
  | 7 => fun t h => by simp only [dat, zk9, List.mem_cons, List.not_mem_nil, or_false] at h; rcases h with rfl | rfl | rfl <;> trivial
  | 8 => fun t h => by simp only [dat, zk9, List.mem_cons, List.not_mem_nil, or_false] at h; rcases h with rfl | rfl | rfl | rfl | rfl | rfl | rfl <;> trivial
  | _ + 9 => fun t h => by cases h
 ty := fun e t h => by
  have := z25 h
  simp only [ykt, List.mem_cons, Prod.mk.injEq, List.not_mem_nil, or_false] at this
  rcases this with ⟨_, rfl⟩ | ⟨_, rfl⟩ | ⟨_, rfl⟩ | ⟨_, rfl⟩ | ⟨_, rfl⟩ | ⟨_, rfl⟩ | ⟨_, rfl⟩ | ⟨_, rfl⟩ | ⟨_, rfl⟩ | ⟨_, rfl⟩ | ⟨_, rfl⟩ | ⟨_, rfl⟩ | ⟨_, rfl⟩ | ⟨_, rfl⟩ | ⟨_, rfl⟩ | ⟨_, rfl⟩ | ⟨_, rfl⟩ | ⟨_, rfl⟩ | ⟨_, rfl⟩ | ⟨_, rfl⟩ | ⟨_, rfl⟩ | ⟨_, rfl⟩ | ⟨_, rfl⟩ | ⟨_, rfl⟩ | ⟨_, rfl⟩ | ⟨_, rfl⟩ | ⟨_, rfl⟩ | ⟨_, rfl⟩ | ⟨_, rfl⟩ | ⟨_, rfl⟩ | ⟨_, rfl⟩ | ⟨_, rfl⟩ | ⟨_, rfl⟩ | ⟨_, rfl⟩ | ⟨_, rfl⟩ | ⟨_, rfl⟩ <;> simp
 kin := fun i => match i with
  | 0 => fun x _ => z7v.kin x
  | 1 => fun x _ => z7z.kin x
  | 2 => fun x _ => yz1.kin x
  | 3 => fun x _ => zz0.kin x
  | 4 => fun x _ => zz1.kin x
  | 5 => fun x _ => yz4.kin x
  | 6 => fun x _ => zz7.kin x
  | 7 => fun x _ => kz6.kin x
  | 8 => fun x _ => yzx.kin x
  | _ + 9 => fun _ _ => by simp only [dat, V.kin, V.z6t]
end Go.Ab


namespace Go.Proofs
open Go.Shelf
def Tryz.y9v : Go.Shelf.Ren := ⟨fun | 213 => 195 | 265 => 202 | n => n, fun | 9 => 9 | 3 => 3 | n => n, fun | n => n⟩
theorem Tryz.yll : Go.Proofs.Lays.n213 Tryz.prog Tryz.y9v := {
 mixed := by kernel_rfl
 f213 := Tryz.func195.trans (congrArg some (by kernel_rfl))
 f265 := Tryz.func202.trans (congrArg some (by kernel_rfl))
 t3 := Tryz.underlying3
 a3 := Tryz.isAgg3
 z3 := Tryz.sizeOf3
 v3 := Tryz.zeroValue3
 t9 := Tryz.underlying9
 a9 := Tryz.isAgg9
 z9 := Tryz.sizeOf9
 v9 := Tryz.zeroValue9 }
def Tryz.yca : Go.Shelf.Ren := ⟨fun | 190 => 61 | 125 => 92 | 258 => 91 | 128 => 125 | 129 => 126 | 302 => 116 | 303 => 117 | 304 => 118 | 305 => 119 | 306 => 120 | 307 => 121 | 308 => 122 | 309 => 123 | 310 => 124 | 333 => 151 | 329 => 152 | 330 => 153 | 334 => 154 | 335 => 155 | 336 => 156 | 344 => 174 | n => n, fun | 31 => 61 | 9 => 9 | 3 => 3 | 46 => 123 | 0 => 0 | 51 => 152 | 53 => 154 | 4 => 4 | 183 => 145 | 182 => 144 | 131 => 149 | 5 => 5 | 218 => 186 | 222 => 190 | 228 => 214 | 229 => 85 | n => n, fun | n => n⟩
theorem Tryz.yfj : Go.Proofs.Lays.n190 Tryz.prog Tryz.yca := {
 mixed := by kernel_rfl
 f125 := Tryz.func92.trans (congrArg some (by kernel_rfl))
 f128 := Tryz.func125.trans (congrArg some (by kernel_rfl))
 f129 := Tryz.func126.trans (congrArg some (by kernel_rfl))
 f190 := Tryz.func61.trans (congrArg some (by kernel_rfl))
 f258 := Tryz.func91.trans (congrArg some (by kernel_rfl))
 f302 := Tryz.func116.trans (congrArg some (by kernel_rfl))
 f303 := Tryz.func117.trans (congrArg some (by kernel_rfl))
 f304 := Tryz.func118.trans (congrArg some (by kernel_rfl))
 f305 := Tryz.func119.trans (congrArg some (by kernel_rfl))
 f306 := Tryz.func120.trans (congrArg some (by kernel_rfl))
 f307 := Tryz.func121.trans (congrArg some (by kernel_rfl))
 f308 := Tryz.func122.trans (congrArg some (by kernel_rfl))
 f309 := Tryz.func123.trans (congrArg some (by kernel_rfl))
 f310 := Tryz.func124.trans (congrArg some (by kernel_rfl))
 f329 := Tryz.func152.trans (congrArg some (by kernel_rfl))
 f330 := Tryz.func153.trans (congrArg some (by kernel_rfl))
 f333 := Tryz.func151.trans (congrArg some (by kernel_rfl))
 f334 := Tryz.func154.trans (congrArg some (by kernel_rfl))
 f335 := Tryz.func155.trans (congrArg some (by kernel_rfl))
 f336 := Tryz.func156.trans (congrArg some (by kernel_rfl))
 f344 := Tryz.func174.trans (congrArg some (by kernel_rfl))
 t0 := Tryz.underlying0
 a0 := Tryz.isAgg0
 z0 := Tryz.sizeOf0
 v0 := Tryz.zeroValue0
 t3 := Tryz.underlying3
 a3 := Tryz.isAgg3
 z3 := Tryz.sizeOf3
 v3 := Tryz.zeroValue3
 t4 := Tryz.underlying4
 a4 := Tryz.isAgg4
 z4 := Tryz.sizeOf4
 v4 := Tryz.zeroValue4
 t5 := Tryz.underlying5
 a5 := Tryz.isAgg5
 z5 := Tryz.sizeOf5
 v5 := Tryz.zeroValue5
 t9 := Tryz.underlying9
 a9 := Tryz.isAgg9
 z9 := Tryz.sizeOf9
 v9 := Tryz.zeroValue9
 t31 := Tryz.underlying61
 a31 := Tryz.isAgg61
 z31 := Tryz.sizeOf61
 v31 := Tryz.zeroValue61
 t46 := Tryz.underlying123
 a46 := Tryz.isAgg123
 z46 := Tryz.sizeOf123
 v46 := Tryz.zeroValue123
 t51 := Tryz.underlying152
 a51 := Tryz.isAgg152
 z51 := Tryz.sizeOf152
 v51 := Tryz.zeroValue152
 t53 := Tryz.underlying154
 a53 := Tryz.isAgg154
 z53 := Tryz.sizeOf154
 v53 := Tryz.zeroValue154
 t131 := Tryz.underlying149
 a131 := Tryz.isAgg149
 z131 := Tryz.sizeOf149
 v131 := Tryz.zeroValue149
 t182 := Tryz.underlying144
 a182 := Tryz.isAgg144
 z182 := Tryz.sizeOf144
 v182 := Tryz.zeroValue144
 t183 := Tryz.underlying145
 a183 := Tryz.isAgg145
 z183 := Tryz.sizeOf145
 v183 := Tryz.zeroValue145
 t218 := Tryz.underlying186
 a218 := Tryz.isAgg186
 z218 := Tryz.sizeOf186
 v218 := Tryz.zeroValue186
 t222 := Tryz.underlying190
 a222 := Tryz.isAgg190
 z222 := Tryz.sizeOf190
 v222 := Tryz.zeroValue190
 t228 := Tryz.underlying214
 a228 := Tryz.isAgg214
 z228 := Tryz.sizeOf214
 v228 := Tryz.zeroValue214
 t229 := Tryz.underlying85
 a229 := Tryz.isAgg85
 z229 := Tryz.sizeOf85
 v229 := Tryz.zeroValue85 }
end Go.Proofs


namespace Go.Proofs.YtfhpamcehnfhoaaGreatDoor
open Go Go.Ab
set_option linter.unusedVariables false
def z08 : Nat → List UInt8 → List UInt8 → Option Int := fun _ a b => some (Lib.compareBytes a b)
def za5 : LSh := ⟨[(4, (.d (.int .i64)))], [], 0, 8⟩
noncomputable def z0k : FI dat := FI.of dat 195 8 0 [(.d .str), (.d .str)] [] [(.d (.int .i64))] [] true za5 (R := Int) (fun x => x.1) (fun r => (r, ())) (fun n x => z08 n x.1 x.2.1)
 (fun n => []) .skip
theorem ymh (a b : List UInt8) : zsp Tryz.prog 195 [.str a, .str b] (.int .i64 (Lib.compareBytes a b)) := fun H W g cargs hG hA => by
 obtain ⟨x, y, rfl, h0, h1⟩ := yiq hA
 cases h0; cases h1
 have c := Any.bytealg_CompareString Tryz.yll ⟨a.toArray⟩ ⟨b.toArray⟩ W
 refine .inl ⟨Tryz.call195 _ _, c.mono fun e W' ⟨h1, h2⟩ => ?_⟩
 subst h1; subst h2
 exact ⟨_, g, rfl, .refl _ _ _, hG, .int _ _⟩
theorem z9v : FOk Tryz.prog z0k := fun n R x k kp r h => by
 refine ⟨(Lib.compareBytes x.1 x.2.1, ()), h, rfl, rfl, rfl, fun lv vargs ha => ⟨[.int .i64 (Lib.compareBytes x.1 x.2.1)], fun ρ lv' => ?_, ?_⟩⟩
 ·show VRL dat ρ lv' [TV.int .i64 (Lib.compareBytes x.1 x.2.1)] _
  simp only [VRL, VR]
  exact ⟨_, _, rfl, rfl, rfl⟩
 ·have ha : VRL dat [] lv [TV.str x.1, TV.str x.2.1] vargs := ha
  simp only [VRL, VR] at ha
  obtain ⟨v, r1, rfl, rfl, v2, r2, rfl, rfl, rfl⟩ := ha
  exact ymh _ _
def yzz : Nat → List (List UInt8) → Option (List (List UInt8)) := fun _ xs => if xs.length < 4611686018427387904 then some (z1u xs) else none
noncomputable def z2z : FI dat := yct dat 61 9 yzz
theorem zc5 : FOk Tryz.prog z2z :=
 ylp (fun _ _ => Tryz.call61 _ _) (fun blk cap ss w h1 h2 h3 => Any.slices_Sort_string Tryz.yfj blk 0 cap ss w h1 h2 h3) (fun p cap w => Any.slices_Sort_string_none Tryz.yfj p cap w)
theorem y47 {P : Program} {f lv : Nat} {b : Bool} (h : ∀ H : kz1, H.lv = lv → zg5 P f [] H (.bool b) H) : zsp P f [] (.bool b) := fun H W g cargs hG hA => by
 have hget : ∀ l i, (⟨lv, [], fun _ _ => none⟩ : kz1).get l i = none := fun l i => by unfold kz1.get; split <;> simp
 have hno : ∀ g b, ¬ Own g ⟨lv, [], fun _ _ => none⟩ b := fun g b ⟨l, i, o, h, _⟩ => by rw [hget] at h; cases h
 have bad : ∀ {l i : Nat} {o : kz3} {p : Prop}, (⟨lv, [], fun _ _ => none⟩ : kz1).get l i = some o → p := fun {l i o p} h => by rw [hget] at h; cases h
 have good : Go.Ab.Good W g0 ⟨lv, [], fun _ _ => none⟩ := ⟨fun _ _ _ h => bad h, fun _ _ _ h => bad h, fun _ _ _ _ _ _ h => bad h, fun _ _ h => h.elim, fun _ _ _ h => bad h, fun k cs hk => ⟨hno _ _, (hG.zn8 k cs hk).2⟩⟩
 have key : ∀ {W' : World} {g' : Gh}, Step W g0 ⟨lv, [], fun _ _ => none⟩ W' g' ⟨lv, [], fun _ _ => none⟩ → Grow W W' := fun s => ⟨s.os, s.tape, s.output, s.size, fun b hb => s.block b hb (hno _ _)⟩
 rcases h ⟨lv, [], fun _ _ => none⟩ rfl W g0 cargs good ⟨hA.1, fun j v hj => by simp at hj⟩ with ⟨h1, h2⟩ | ⟨c, W', g', h1, h2, h3, h4⟩
 ·refine .inl ⟨h1, h2.mono fun e W' ⟨c, g', he, hs, hg, hr⟩ => ?_⟩
  cases hr
  exact ⟨_, g, he, (key hs).step, hG.grow (key hs), .bool b⟩
 ·cases h4
  exact .inr ⟨_, W', g, h1, (key h2).step, hG.grow (key h2), .bool b⟩
def zzp : Nat → Option Bool := fun _ => some true
def zhp : LSh := ⟨[(0, (.d .bool))], [], 0, 76⟩
noncomputable def z73 : FI dat := FI.of dat 26 76 0 [] [] [(.d .bool)] [] true zhp (R := Bool) (fun x => x.1) (fun r => (r, ())) (fun n _ => zzp n)
 (fun n => []) .skip
theorem zhg : FOk Tryz.prog z73 := fun n R x k kp r h => by
 refine ⟨(true, ()), h, rfl, rfl, rfl, fun lv vargs ha => ⟨[.bool true], fun ρ lv' => ?_, ?_⟩⟩
 ·show VRL dat ρ lv' [TV.bool true] _
  simp only [VRL, VR]
  exact ⟨_, _, rfl, rfl, rfl⟩
 ·have ha : VRL dat [] lv [] vargs := ha
  simp only [VRL] at ha
  subst ha
  exact y47 ok73
end Go.Proofs.YtfhpamcehnfhoaaGreatDoor


namespace Go.Proofs.YtfhpamcehnfhoaaGreatDoor
open Go Go.Ab
set_option linter.unusedVariables false
set_option maxRecDepth 100000
mutual
def z3j : Nat → zz0 → Int → Option Bool
 | 0, _, _ => none
 | n + 1, a0, a1 =>
   pIf (a1 == 0)
     (zzx n a1 true a0.re)
     (pIf (decide ((a0.str.length : Int) > 200))
       (zzx n a1 true a0.re)
       (zzx n a1 (decide ((a0.list.length : Int) > 150)) a0.re))
def zzx : Nat → Int → Bool → zz0 → Option Bool
 | 0, _, _, _ => none
 | n + 1, a0, a1, a2 =>
   pIf a1
     (some true)
     (z0m n 0 a0 a2.re)
def z0m : Nat → Int → Int → zz0 → Option Bool
 | 0, _, _, _ => none
 | n + 1, a0, a1, a2 =>
   pIf (decide (a0 < (a2.list.length : Int)))
     ((ix a2.list a0).bind fun x0 =>
     (z3j n x0.re (IntKind.i64.wrap (a1 - 1))).bind fun y1 =>
     pIf y1
       (some true)
       (z0m n (IntKind.i64.wrap (a0 + 1)) a1 a2.re))
     (some false)
end
def zxk : LSh := ⟨[(4, (.d .bool))], [], 0, 35⟩
noncomputable def z6j : FI dat := FI.of dat 58 35 0 [(.d (.st 3)), (.d (.int .i64))] [] [(.d .bool)] [] true zxk (R := Bool) (fun x => x.1) (fun r => (r, ())) (fun n x => z3j n x.1 x.2.1)
 (fun n => [(0, ⟨⟨[(1, (.d (.int .i64))), (2, (.ptr 0 0)), (19, (.d .bool))], [(.st 3)], 0, 35⟩, fun x => zzx n x.1 x.2.1 x.2.2.1⟩), (1, ⟨⟨[(5, (.d (.int .i64))), (1, (.d (.int .i64))), (2, (.ptr 0 0))], [(.st 3)], 0, 35⟩, fun x => z0m n x.1 x.2.1 x.2.2.1⟩)]) (ann [(5, 0), (14, 1)] (Tryz.f58.body.getD .skip) 0).1
noncomputable def zwu : List (FI dat) := [z6j] ++ []
theorem zx3 : (z6j).Good Tryz.prog dat (tb zwu) := FI.kz4 (hD := zz2 _) Tryz.func58 Tryz.ntmps58 Tryz.call58 (by kernel_rfl) (of_decide_eq_true (by kernel_rfl)) (by kernel_rfl) (fun n => by kernel_rfl) (fun x => by kernel_rfl) (fun _ => rfl) ⟨fun _ => rfl, fun _ => rfl, trivial⟩
 (fun n => fun x => (z3j.eq_2 x.1 x.2.1 n).trans (by kernel_rfl))
 (fun n => ⟨fun x => (zzx.eq_2 x.1 x.2.1 x.2.2.1 n).trans (by kernel_rfl),
  fun x => (z0m.eq_2 x.1 x.2.1 x.2.2.1 n).trans (by kernel_rfl),
  trivial⟩)
 (fun x => .inl rfl)
theorem zxm : OkL Tryz.prog [z6j] := z2k (zz2 _) (bs := []) trivial ⟨zx3, trivial⟩
theorem ztl : FOk Tryz.prog z6j := zxm.1
mutual
def z2b : Nat → zz0 → Option Int
 | 0, _ => none
 | n + 1, a0 =>
   z0n n 0 1 a0.re
def z0n : Nat → Int → Int → zz0 → Option Int
 | 0, _, _, _ => none
 | n + 1, a0, a1, a2 =>
   pIf (decide (a0 < (a2.list.length : Int)))
     (z0p n a0 a1 (a2.kind == 4) a2.re)
     (z0p n a0 a1 false a2.re)
def z0p : Nat → Int → Int → Bool → zz0 → Option Int
 | 0, _, _, _, _ => none
 | n + 1, a0, a1, a2, a3 =>
   pIf a2
     ((ix a3.list a0).bind fun x0 =>
     (z2b n x0.re).bind fun y1 =>
     z0n n (IntKind.i64.wrap (a0 + 1)) (IntKind.i64.wrap (a1 + y1)) a3.re)
     (some a1)
end
def zxf : LSh := ⟨[(2, (.d (.int .i64)))], [], 0, 26⟩
noncomputable def z34 : FI dat := FI.of dat 59 26 0 [(.d (.st 3))] [] [(.d (.int .i64))] [] true zxf (R := Int) (fun x => x.1) (fun r => (r, ())) (fun n x => z2b n x.1)
 (fun n => [(0, ⟨⟨[(4, (.d (.int .i64))), (1, (.ptr 0 0)), (3, (.d (.int .i64)))], [(.st 3)], 0, 26⟩, fun x => z0n n x.1 x.2.1 x.2.2.1⟩), (1, ⟨⟨[(1, (.ptr 0 0)), (4, (.d (.int .i64))), (3, (.d (.int .i64))), (14, (.d .bool))], [(.st 3)], 0, 26⟩, fun x => z0p n x.1 x.2.1 x.2.2.1 x.2.2.2.1⟩)]) (ann [(8, 0), (12, 1)] (Tryz.f59.body.getD .skip) 0).1
noncomputable def zw6 : List (FI dat) := [z34] ++ []
theorem zwm : (z34).Good Tryz.prog dat (tb zw6) := FI.kz4 (hD := zz2 _) Tryz.func59 Tryz.ntmps59 Tryz.call59 (by kernel_rfl) (of_decide_eq_true (by kernel_rfl)) (by kernel_rfl) (fun n => by kernel_rfl) (fun x => by kernel_rfl) (fun _ => rfl) ⟨fun _ => rfl, fun _ => rfl, trivial⟩
 (fun n => fun x => (z2b.eq_2 x.1 n).trans (by kernel_rfl))
 (fun n => ⟨fun x => (z0n.eq_2 x.1 x.2.1 x.2.2.1 n).trans (by kernel_rfl),
  fun x => (z0p.eq_2 x.1 x.2.1 x.2.2.1 x.2.2.2.1 n).trans (by kernel_rfl),
  trivial⟩)
 (fun x => .inl rfl)
theorem zwn : OkL Tryz.prog [z34] := z2k (zz2 _) (bs := []) trivial ⟨zwm, trivial⟩
theorem zhu : FOk Tryz.prog z34 := zwn.1
def z29 : Nat → zz0 → Option Bool
 | 0, _ => none
 | n + 1, a0 =>
   (z3j n a0.re 10).bind fun y0 =>
   pIf y0
     (some true)
     ((z2b n a0.re).bind fun y1 =>
     some (decide (y1 > 150)))
def zxe : LSh := ⟨[(2, (.d .bool))], [], 0, 10⟩
noncomputable def z1x : FI dat := FI.of dat 31 10 0 [(.d (.st 3))] [] [(.d .bool)] [] true zxe (R := Bool) (fun x => x.1) (fun r => (r, ())) (fun n x => z29 n x.1)
 (fun n => []) (ann [] (Tryz.f31.body.getD .skip) 0).1
noncomputable def zwa : List (FI dat) := [z6j, z34]
theorem y0f : (z1x).Good Tryz.prog dat (tb zwa) := FI.kz4 (hD := zz2 _) Tryz.func31 Tryz.ntmps31 Tryz.call31 (by kernel_rfl) (of_decide_eq_true (by kernel_rfl)) (by kernel_rfl) (fun n => by kernel_rfl) (fun x => by kernel_rfl) (fun _ => rfl) trivial
 (fun n => fun x => (z29.eq_2 x.1 n).trans (by kernel_rfl))
 (fun n => trivial)
 (fun x => .inl rfl)
theorem zyn : OkL Tryz.prog [z1x] := kz7 (zz2 _) (bs := [z6j, z34]) ⟨ztl, zhu, trivial⟩ y0f
theorem zde : FOk Tryz.prog z1x := zyn.1
mutual
def z3q : Nat → zz1 → Int → Option Bool
 | 0, _, _ => none
 | n + 1, a0, a1 =>
   pIf (a1 == 0)
     (yzp n a1 true a0.re)
     (pIf (decide ((a0.args.length : Int) > 150))
       (yzp n a1 true a0.re)
       (pIf (decide ((a0.name.length : Int) > 200))
         (yzp n a1 true a0.re)
         ((z29 n a0.value.re).bind fun y0 =>
         yzp n a1 y0 a0.re)))
def yzp : Nat → Int → Bool → zz1 → Option Bool
 | 0, _, _, _ => none
 | n + 1, a0, a1, a2 =>
   pIf a1
     (some true)
     (z0i n 0 a0 a2.re)
def z0i : Nat → Int → Int → zz1 → Option Bool
 | 0, _, _, _ => none
 | n + 1, a0, a1, a2 =>
   pIf (decide (a0 < (a2.args.length : Int)))
     ((ix a2.args a0).bind fun x1 =>
     (z3q n x1.re (IntKind.i64.wrap (a1 - 1))).bind fun y2 =>
     pIf y2
       (some true)
       (z0i n (IntKind.i64.wrap (a0 + 1)) a1 a2.re))
     (some false)
end
def zwk : LSh := ⟨[(4, (.d .bool))], [], 0, 40⟩
noncomputable def z6f : FI dat := FI.of dat 35 40 0 [(.d (.st 4)), (.d (.int .i64))] [] [(.d .bool)] [] true zwk (R := Bool) (fun x => x.1) (fun r => (r, ())) (fun n x => z3q n x.1 x.2.1)
 (fun n => [(0, ⟨⟨[(1, (.d (.int .i64))), (2, (.ptr 0 0)), (24, (.d .bool))], [(.st 4)], 0, 40⟩, fun x => yzp n x.1 x.2.1 x.2.2.1⟩), (1, ⟨⟨[(5, (.d (.int .i64))), (1, (.d (.int .i64))), (2, (.ptr 0 0))], [(.st 4)], 0, 40⟩, fun x => z0i n x.1 x.2.1 x.2.2.1⟩)]) (ann [(5, 0), (14, 1)] (Tryz.f35.body.getD .skip) 0).1
noncomputable def zya : List (FI dat) := [z6f] ++ [z1x]
theorem zy5 : (z6f).Good Tryz.prog dat (tb zya) := FI.kz4 (hD := zz2 _) Tryz.func35 Tryz.ntmps35 Tryz.call35 (by kernel_rfl) (of_decide_eq_true (by kernel_rfl)) (by kernel_rfl) (fun n => by kernel_rfl) (fun x => by kernel_rfl) (fun _ => rfl) ⟨fun _ => rfl, fun _ => rfl, trivial⟩
 (fun n => fun x => (z3q.eq_2 x.1 x.2.1 n).trans (by kernel_rfl))
 (fun n => ⟨fun x => (yzp.eq_2 x.1 x.2.1 x.2.2.1 n).trans (by kernel_rfl),
  fun x => (z0i.eq_2 x.1 x.2.1 x.2.2.1 n).trans (by kernel_rfl),
  trivial⟩)
 (fun x => .inl rfl)
theorem zxx : OkL Tryz.prog [z6f] := z2k (zz2 _) (bs := [z1x]) ⟨zde, trivial⟩ ⟨zy5, trivial⟩
theorem zsh : FOk Tryz.prog z6f := zxx.1
mutual
def z2c : Nat → zz1 → Option Int
 | 0, _ => none
 | n + 1, a0 =>
   z0h n 0 1 a0.re
def z0h : Nat → Int → Int → zz1 → Option Int
 | 0, _, _, _ => none
 | n + 1, a0, a1, a2 =>
   pIf (decide (a0 < (a2.args.length : Int)))
     ((ix a2.args a0).bind fun x0 =>
     (z2c n x0.re).bind fun y1 =>
     z0h n (IntKind.i64.wrap (a0 + 1)) (IntKind.i64.wrap (a1 + y1)) a2.re)
     (some a1)
end
def zy7 : LSh := ⟨[(2, (.d (.int .i64)))], [], 0, 21⟩
noncomputable def z32 : FI dat := FI.of dat 36 21 0 [(.d (.st 4))] [] [(.d (.int .i64))] [] true zy7 (R := Int) (fun x => x.1) (fun r => (r, ())) (fun n x => z2c n x.1)
 (fun n => [(0, ⟨⟨[(4, (.d (.int .i64))), (1, (.ptr 0 0)), (3, (.d (.int .i64)))], [(.st 4)], 0, 21⟩, fun x => z0h n x.1 x.2.1 x.2.2.1⟩)]) (ann [(8, 0)] (Tryz.f36.body.getD .skip) 0).1
noncomputable def zx7 : List (FI dat) := [z32] ++ []
theorem zyv : (z32).Good Tryz.prog dat (tb zx7) := FI.kz4 (hD := zz2 _) Tryz.func36 Tryz.ntmps36 Tryz.call36 (by kernel_rfl) (of_decide_eq_true (by kernel_rfl)) (by kernel_rfl) (fun n => by kernel_rfl) (fun x => by kernel_rfl) (fun _ => rfl) ⟨fun _ => rfl, trivial⟩
 (fun n => fun x => (z2c.eq_2 x.1 n).trans (by kernel_rfl))
 (fun n => ⟨fun x => (z0h.eq_2 x.1 x.2.1 x.2.2.1 n).trans (by kernel_rfl),
  trivial⟩)
 (fun x => .inl rfl)
theorem zwh : OkL Tryz.prog [z32] := z2k (zz2 _) (bs := []) trivial ⟨zyv, trivial⟩
theorem zil : FOk Tryz.prog z32 := zwh.1
def z54 : Nat → zz1 → Option Bool
 | 0, _ => none
 | n + 1, a0 =>
   (z3q n a0.re 16).bind fun y0 =>
   pIf y0
     (some true)
     ((z2c n a0.re).bind fun y1 =>
     some (decide (y1 > 150)))
def zw8 : LSh := ⟨[(2, (.d .bool))], [], 0, 10⟩
noncomputable def z8y : FI dat := FI.of dat 10 10 0 [(.d (.st 4))] [] [(.d .bool)] [] true zw8 (R := Bool) (fun x => x.1) (fun r => (r, ())) (fun n x => z54 n x.1)
 (fun n => []) (ann [] (Tryz.f10.body.getD .skip) 0).1
noncomputable def zwc : List (FI dat) := [z6f, z32]
theorem zw3 : (z8y).Good Tryz.prog dat (tb zwc) := FI.kz4 (hD := zz2 _) Tryz.func10 Tryz.ntmps10 Tryz.call10 (by kernel_rfl) (of_decide_eq_true (by kernel_rfl)) (by kernel_rfl) (fun n => by kernel_rfl) (fun x => by kernel_rfl) (fun _ => rfl) trivial
 (fun n => fun x => (z54.eq_2 x.1 n).trans (by kernel_rfl))
 (fun n => trivial)
 (fun x => .inl rfl)
theorem y0u : OkL Tryz.prog [z8y] := kz7 (zz2 _) (bs := [z6f, z32]) ⟨zsh, zil, trivial⟩ zw3
theorem ztt : FOk Tryz.prog z8y := y0u.1
mutual
def z4f : Nat → zz1 → Option Int
 | 0, _ => none
 | n + 1, a0 =>
   z1i n 0 1 a0.re
def z1i : Nat → Int → Int → zz1 → Option Int
 | 0, _, _, _ => none
 | n + 1, a0, a1, a2 =>
   pIf (decide (a0 < (a2.args.length : Int)))
     ((ix a2.args a0).bind fun x0 =>
     (z4f n x0.re).bind fun y1 =>
     z1i n (IntKind.i64.wrap (a0 + 1)) (mxI a1 (IntKind.i64.wrap (1 + y1))) a2.re)
     (some a1)
end
def y7o : LSh := ⟨[(2, (.d (.int .i64)))], [], 0, 22⟩
noncomputable def z7o : FI dat := FI.of dat 67 22 0 [(.d (.st 4))] [] [(.d (.int .i64))] [] true y7o (R := Int) (fun x => x.1) (fun r => (r, ())) (fun n x => z4f n x.1)
 (fun n => [(0, ⟨⟨[(4, (.d (.int .i64))), (1, (.ptr 0 0)), (3, (.d (.int .i64)))], [(.st 4)], 0, 22⟩, fun x => z1i n x.1 x.2.1 x.2.2.1⟩)]) (ann [(8, 0)] (Tryz.f67.body.getD .skip) 0).1
noncomputable def y7h : List (FI dat) := [z7o] ++ []
theorem y3t : (z7o).Good Tryz.prog dat (tb y7h) := FI.kz4 (hD := zz2 _) Tryz.func67 Tryz.ntmps67 Tryz.call67 (by kernel_rfl) (of_decide_eq_true (by kernel_rfl)) (by kernel_rfl) (fun n => by kernel_rfl) (fun x => by kernel_rfl) (fun _ => rfl) ⟨fun _ => rfl, trivial⟩
 (fun n => fun x => (z4f.eq_2 x.1 n).trans (by kernel_rfl))
 (fun n => ⟨fun x => (z1i.eq_2 x.1 x.2.1 x.2.2.1 n).trans (by kernel_rfl),
  trivial⟩)
 (fun x => .inl rfl)
theorem y2v : OkL Tryz.prog [z7o] := z2k (zz2 _) (bs := []) trivial ⟨y3t, trivial⟩
theorem y06 : FOk Tryz.prog z7o := y2v.1
mutual
def z6g : Nat → Int → Option Int
 | 0, _ => none
 | n + 1, a0 =>
   pIf (a0 == 1)
     (z3g n a0 true)
     (z3g n a0 (a0 == 2))
def z3g : Nat → Int → Bool → Option Int
 | 0, _, _ => none
 | n + 1, a0, a1 =>
   pIf a1
     (some 0)
     (pIf (decide (a0 ≥ 3))
       (pIf (decide (a0 ≤ 10))
         (yze n a0 true)
         (pIf (a0 == 13)
           (yze n a0 true)
           (pIf (a0 == 14)
             (yze n a0 true)
             (yze n a0 (a0 == 17)))))
       (pIf (a0 == 13)
         (yze n a0 true)
         (pIf (a0 == 14)
           (yze n a0 true)
           (yze n a0 (a0 == 17)))))
def yze : Nat → Int → Bool → Option Int
 | 0, _, _ => none
 | n + 1, a0, a1 =>
   pIf a1
     (some 2)
     (pIf (a0 == 11)
       (z1q n a0 true)
       (pIf (a0 == 15)
         (z1q n a0 true)
         (z1q n a0 (a0 == 16))))
def z1q : Nat → Int → Bool → Option Int
 | 0, _, _ => none
 | n + 1, a0, a1 =>
   pIf a1
     (some 1)
     (pIf (a0 == 12)
       (some 3)
       (pIf (a0 == 18)
         (some (-1))
         (some (-2))))
end
def y45 : LSh := ⟨[(2, (.d (.int .i64)))], [], 0, 46⟩
noncomputable def zaa : FI dat := FI.of dat 97 46 0 [(.d (.int .u8))] [] [(.d (.int .i64))] [] true y45 (R := Int) (fun x => x.1) (fun r => (r, ())) (fun n x => z6g n x.1)
 (fun n => [(0, ⟨⟨[(0, (.d (.int .u8))), (3, (.d .bool))], [], 0, 46⟩, fun x => z3g n x.1 x.2.1⟩), (1, ⟨⟨[(0, (.d (.int .u8))), (10, (.d .bool))], [], 0, 46⟩, fun x => yze n x.1 x.2.1⟩), (2, ⟨⟨[(0, (.d (.int .u8))), (29, (.d .bool))], [], 0, 46⟩, fun x => z1q n x.1 x.2.1⟩)]) (ann [(6, 0), (12, 1), (18, 2)] (Tryz.f97.body.getD .skip) 0).1
noncomputable def y6h : List (FI dat) := []
theorem y4x : (zaa).Good Tryz.prog dat (tb y6h) := FI.kz4 (hD := zz2 _) Tryz.func97 Tryz.ntmps97 Tryz.call97 (by kernel_rfl) (of_decide_eq_true (by kernel_rfl)) (by kernel_rfl) (fun n => by kernel_rfl) (fun x => by kernel_rfl) (fun _ => rfl) ⟨fun _ => rfl, fun _ => rfl, fun _ => rfl, trivial⟩
 (fun n => fun x => (z6g.eq_2 x.1 n).trans (by kernel_rfl))
 (fun n => ⟨fun x => (z3g.eq_2 x.1 x.2.1 n).trans (by kernel_rfl),
  fun x => (yze.eq_2 x.1 x.2.1 n).trans (by kernel_rfl),
  fun x => (z1q.eq_2 x.1 x.2.1 n).trans (by kernel_rfl),
  trivial⟩)
 (fun x => .inl rfl)
theorem y3a : OkL Tryz.prog [zaa] := kz7 (zz2 _) (bs := []) trivial y4x
theorem zxz : FOk Tryz.prog zaa := y3a.1
end Go.Proofs.YtfhpamcehnfhoaaGreatDoor


namespace Go.Proofs.YtfhpamcehnfhoaaGreatDoor
open Go Go.Ab
set_option linter.unusedVariables false
set_option maxRecDepth 100000
mutual
def z4k : Nat → zz0 → Option Int
 | 0, _ => none
 | n + 1, a0 =>
   z1l n 0 1 a0.re
def z1l : Nat → Int → Int → zz0 → Option Int
 | 0, _, _, _ => none
 | n + 1, a0, a1, a2 =>
   pIf (decide (a0 < (a2.list.length : Int)))
     (z1m n a0 a1 (a2.kind == 4) a2.re)
     (z1m n a0 a1 false a2.re)
def z1m : Nat → Int → Int → Bool → zz0 → Option Int
 | 0, _, _, _, _ => none
 | n + 1, a0, a1, a2, a3 =>
   pIf a2
     ((ix a3.list a0).bind fun x0 =>
     (z4k n x0.re).bind fun y1 =>
     z1l n (IntKind.i64.wrap (a0 + 1)) (mxI a1 (IntKind.i64.wrap (1 + y1))) a3.re)
     (some a1)
end
def y3y : LSh := ⟨[(2, (.d (.int .i64)))], [], 0, 27⟩
noncomputable def z82 : FI dat := FI.of dat 88 27 0 [(.d (.st 3))] [] [(.d (.int .i64))] [] true y3y (R := Int) (fun x => x.1) (fun r => (r, ())) (fun n x => z4k n x.1)
 (fun n => [(0, ⟨⟨[(4, (.d (.int .i64))), (1, (.ptr 0 0)), (3, (.d (.int .i64)))], [(.st 3)], 0, 27⟩, fun x => z1l n x.1 x.2.1 x.2.2.1⟩), (1, ⟨⟨[(1, (.ptr 0 0)), (4, (.d (.int .i64))), (3, (.d (.int .i64))), (14, (.d .bool))], [(.st 3)], 0, 27⟩, fun x => z1m n x.1 x.2.1 x.2.2.1 x.2.2.2.1⟩)]) (ann [(8, 0), (12, 1)] (Tryz.f88.body.getD .skip) 0).1
noncomputable def y78 : List (FI dat) := [z82] ++ []
theorem y6x : (z82).Good Tryz.prog dat (tb y78) := FI.kz4 (hD := zz2 _) Tryz.func88 Tryz.ntmps88 Tryz.call88 (by kernel_rfl) (of_decide_eq_true (by kernel_rfl)) (by kernel_rfl) (fun n => by kernel_rfl) (fun x => by kernel_rfl) (fun _ => rfl) ⟨fun _ => rfl, fun _ => rfl, trivial⟩
 (fun n => fun x => (z4k.eq_2 x.1 n).trans (by kernel_rfl))
 (fun n => ⟨fun x => (z1l.eq_2 x.1 x.2.1 x.2.2.1 n).trans (by kernel_rfl),
  fun x => (z1m.eq_2 x.1 x.2.1 x.2.2.1 x.2.2.2.1 n).trans (by kernel_rfl),
  trivial⟩)
 (fun x => .inl rfl)
theorem y4p : OkL Tryz.prog [z82] := z2k (zz2 _) (bs := []) trivial ⟨y6x, trivial⟩
theorem y0m : FOk Tryz.prog z82 := y4p.1
mutual
def z3w : Nat → Int → Int → Option Int
 | 0, _, _ => none
 | n + 1, a0, a1 =>
   z02 n a1 a0
def z02 : Nat → Int → Int → Option Int
 | 0, _, _ => none
 | n + 1, a0, a1 =>
   pIf (a0 != 0)
     ((rem .i64 a1 a0).bind fun x0 =>
     z02 n x0 a0)
     (pIf (decide (a1 < 0))
       (some (IntKind.i64.wrap (0 - a1)))
       (some a1))
end
def zsg : LSh := ⟨[(4, (.d (.int .i64)))], [], 0, 16⟩
noncomputable def z6z : FI dat := FI.of dat 150 16 0 [(.d (.int .i64)), (.d (.int .i64))] [] [(.d (.int .i64))] [] true zsg (R := Int) (fun x => x.1) (fun r => (r, ())) (fun n x => z3w n x.1 x.2.1)
 (fun n => [(0, ⟨⟨[(1, (.d (.int .i64))), (0, (.d (.int .i64)))], [], 0, 16⟩, fun x => z02 n x.1 x.2.1⟩)]) (ann [(4, 0)] (Tryz.f150.body.getD .skip) 0).1
noncomputable def zvo : List (FI dat) := []
theorem zu3 : (z6z).Good Tryz.prog dat (tb zvo) := FI.kz4 (hD := zz2 _) Tryz.func150 Tryz.ntmps150 Tryz.call150 (by kernel_rfl) (of_decide_eq_true (by kernel_rfl)) (by kernel_rfl) (fun n => by kernel_rfl) (fun x => by kernel_rfl) (fun _ => rfl) ⟨fun _ => rfl, trivial⟩
 (fun n => fun x => (z3w.eq_2 x.1 x.2.1 n).trans (by kernel_rfl))
 (fun n => ⟨fun x => (z02.eq_2 x.1 x.2.1 n).trans (by kernel_rfl),
  trivial⟩)
 (fun x => .inl rfl)
theorem ztn : OkL Tryz.prog [z6z] := kz7 (zz2 _) (bs := []) trivial zu3
theorem zqi : FOk Tryz.prog z6z := ztn.1
mutual
def z52 : Nat → yz1 → Option Int
 | 0, _ => none
 | n + 1, a0 =>
   pIf (decide (a0.den < 1))
     (yzj n true)
     (pIf (decide (a0.den > 1000000000))
       (yzj n true)
       (pIf (decide (a0.num < (-1000000000)))
         (yzj n true)
         (pIf (decide (a0.num > 1000000000))
           (yzj n true)
           ((z3w n a0.num a0.den).bind fun y0 =>
           yzj n (y0 != 1)))))
def yzj : Nat → Bool → Option Int
 | 0, _ => none
 | n + 1, a0 =>
   pIf a0
     (some 8)
     (some 0)
end
def zvu : LSh := ⟨[(2, (.d (.int .i64)))], [], 0, 29⟩
noncomputable def z8o : FI dat := FI.of dat 115 29 0 [(.d (.st 2))] [] [(.d (.int .i64))] [] true zvu (R := Int) (fun x => x.1) (fun r => (r, ())) (fun n x => z52 n x.1)
 (fun n => [(0, ⟨⟨[(28, (.d .bool))], [], 0, 29⟩, fun x => yzj n x.1⟩)]) (ann [(5, 0)] (Tryz.f115.body.getD .skip) 0).1
noncomputable def y07 : List (FI dat) := [z6z]
theorem zye : (z8o).Good Tryz.prog dat (tb y07) := FI.kz4 (hD := zz2 _) Tryz.func115 Tryz.ntmps115 Tryz.call115 (by kernel_rfl) (of_decide_eq_true (by kernel_rfl)) (by kernel_rfl) (fun n => by kernel_rfl) (fun x => by kernel_rfl) (fun _ => rfl) ⟨fun _ => rfl, trivial⟩
 (fun n => fun x => (z52.eq_2 x.1 n).trans (by kernel_rfl))
 (fun n => ⟨fun x => (yzj.eq_2 x.1 n).trans (by kernel_rfl),
  trivial⟩)
 (fun x => .inl rfl)
theorem zxt : OkL Tryz.prog [z8o] := kz7 (zz2 _) (bs := [z6z]) ⟨zqi, trivial⟩ zye
theorem zvr : FOk Tryz.prog z8o := zxt.1
mutual
def z4l : Nat → zz0 → Option Bool
 | 0, _ => none
 | n + 1, a0 =>
   pIf (a0.kind == 1)
     ((z52 n a0.num).bind fun y0 =>
     pIf (y0 == 0)
       (pIf (!a0.truth)
         (pIf ((a0.str.length : Int) == 0)
           (some ((a0.list.length : Int) == 0))
           (some false))
         (some false))
       (some false))
     (pIf (a0.kind == 2)
       (pIf ((a0.num.num == 0) && ((a0.num.den == 0) && true))
         (pIf ((a0.str.length : Int) == 0)
           (some ((a0.list.length : Int) == 0))
           (some false))
         (some false))
       (pIf (a0.kind == 3)
         (pIf (!((a0.num.num == 0) && ((a0.num.den == 0) && true)))
           (yzn n true a0.re)
           (pIf a0.truth
             (yzn n true a0.re)
             (pIf (decide ((a0.list.length : Int) > 0))
               (yzn n true a0.re)
               (yzn n (decide ((a0.str.length : Int) > 60)) a0.re))))
         (pIf (a0.kind == 4)
           (pIf (!((a0.num.num == 0) && ((a0.num.den == 0) && true)))
             (kzu n true a0.re)
             (pIf a0.truth
               (kzu n true a0.re)
               (kzu n (decide ((a0.str.length : Int) > 0)) a0.re)))
           (some false))))
def yzn : Nat → Bool → zz0 → Option Bool
 | 0, _, _ => none
 | n + 1, a0, a1 =>
   pIf a0
     (some false)
     (z17 n 0 a1.re)
def z17 : Nat → Int → zz0 → Option Bool
 | 0, _, _ => none
 | n + 1, a0, a1 =>
   pIf (decide (a0 < (a1.str.length : Int)))
     ((ix a1.str a0).bind fun x1 =>
     pIf (decide ((x1.toNat : Int) < 32))
       (z1a n a0 true a1.re)
       ((ix a1.str a0).bind fun x2 =>
       z1a n a0 (decide ((x2.toNat : Int) > 126)) a1.re))
     (some true)
def z1a : Nat → Int → Bool → zz0 → Option Bool
 | 0, _, _, _ => none
 | n + 1, a0, a1, a2 =>
   pIf a1
     (some false)
     (z17 n (IntKind.i64.wrap (a0 + 1)) a2.re)
def kzu : Nat → Bool → zz0 → Option Bool
 | 0, _, _ => none
 | n + 1, a0, a1 =>
   pIf a0
     (some false)
     (z1b n 0 a1.re)
def z1b : Nat → Int → zz0 → Option Bool
 | 0, _, _ => none
 | n + 1, a0, a1 =>
   pIf (decide (a0 < (a1.list.length : Int)))
     ((ix a1.list a0).bind fun x3 =>
     (z4l n x3.re).bind fun y4 =>
     pIf (!y4)
       (some false)
       (z1b n (IntKind.i64.wrap (a0 + 1)) a1.re))
     (some true)
end
def y6j : LSh := ⟨[(2, (.d .bool))], [], 0, 121⟩
noncomputable def z7m : FI dat := FI.of dat 89 121 0 [(.d (.st 3))] [] [(.d .bool)] [] true y6j (R := Bool) (fun x => x.1) (fun r => (r, ())) (fun n x => z4l n x.1)
 (fun n => [(0, ⟨⟨[(1, (.ptr 0 0)), (71, (.d .bool))], [(.st 3)], 0, 121⟩, fun x => yzn n x.1 x.2.1⟩), (1, ⟨⟨[(4, (.d (.int .i64))), (1, (.ptr 0 0))], [(.st 3)], 0, 121⟩, fun x => z17 n x.1 x.2.1⟩), (2, ⟨⟨[(1, (.ptr 0 0)), (4, (.d (.int .i64))), (90, (.d .bool))], [(.st 3)], 0, 121⟩, fun x => z1a n x.1 x.2.1 x.2.2.1⟩), (3, ⟨⟨[(1, (.ptr 0 0)), (106, (.d .bool))], [(.st 3)], 0, 121⟩, fun x => kzu n x.1 x.2.1⟩), (4, ⟨⟨[(5, (.d (.int .i64))), (1, (.ptr 0 0))], [(.st 3)], 0, 121⟩, fun x => z1b n x.1 x.2.1⟩)]) (ann [(26, 0), (35, 1), (46, 2), (61, 3), (70, 4)] (Tryz.f89.body.getD .skip) 0).1
noncomputable def y3c : List (FI dat) := [z7m] ++ [z8o]
theorem y3b : (z7m).Good Tryz.prog dat (tb y3c) := FI.kz4 (hD := zz2 _) Tryz.func89 Tryz.ntmps89 Tryz.call89 (by kernel_rfl) (of_decide_eq_true (by kernel_rfl)) (by kernel_rfl) (fun n => by kernel_rfl) (fun x => by kernel_rfl) (fun _ => rfl) ⟨fun _ => rfl, fun _ => rfl, fun _ => rfl, fun _ => rfl, fun _ => rfl, trivial⟩
 (fun n => fun x => (z4l.eq_2 x.1 n).trans (by kernel_rfl))
 (fun n => ⟨fun x => (yzn.eq_2 x.1 x.2.1 n).trans (by kernel_rfl),
  fun x => (z17.eq_2 x.1 x.2.1 n).trans (by kernel_rfl),
  fun x => (z1a.eq_2 x.1 x.2.1 x.2.2.1 n).trans (by kernel_rfl),
  fun x => (kzu.eq_2 x.1 x.2.1 n).trans (by kernel_rfl),
  fun x => (z1b.eq_2 x.1 x.2.1 n).trans (by kernel_rfl),
  trivial⟩)
 (fun x => .inl rfl)
theorem y70 : OkL Tryz.prog [z7m] := z2k (zz2 _) (bs := [z8o]) ⟨zvr, trivial⟩ ⟨y3b, trivial⟩
theorem zyr : FOk Tryz.prog z7m := y70.1
mutual
def z5g : Nat → zz0 → Option Int
 | 0, _ => none
 | n + 1, a0 =>
   (z2b n a0.re).bind fun y0 =>
   pIf (decide (y0 > 100))
     (z0o n true a0.re)
     ((z4k n a0.re).bind fun y1 =>
     z0o n (decide (y1 > 6)) a0.re)
def z0o : Nat → Bool → zz0 → Option Int
 | 0, _, _ => none
 | n + 1, a0, a1 =>
   pIf a0
     (some 4)
     ((z4l n a1.re).bind fun y2 =>
     pIf (!y2)
       (some 8)
       (some 0))
end
def zy1 : LSh := ⟨[(2, (.d (.int .i64)))], [], 0, 14⟩
noncomputable def z8u : FI dat := FI.of dat 55 14 0 [(.d (.st 3))] [] [(.d (.int .i64))] [] true zy1 (R := Int) (fun x => x.1) (fun r => (r, ())) (fun n x => z5g n x.1)
 (fun n => [(0, ⟨⟨[(1, (.ptr 0 0)), (10, (.d .bool))], [(.st 3)], 0, 14⟩, fun x => z0o n x.1 x.2.1⟩)]) (ann [(5, 0)] (Tryz.f55.body.getD .skip) 0).1
noncomputable def zxp : List (FI dat) := [z34, z82, z7m]
theorem zvx : (z8u).Good Tryz.prog dat (tb zxp) := FI.kz4 (hD := zz2 _) Tryz.func55 Tryz.ntmps55 Tryz.call55 (by kernel_rfl) (of_decide_eq_true (by kernel_rfl)) (by kernel_rfl) (fun n => by kernel_rfl) (fun x => by kernel_rfl) (fun _ => rfl) ⟨fun _ => rfl, trivial⟩
 (fun n => fun x => (z5g.eq_2 x.1 n).trans (by kernel_rfl))
 (fun n => ⟨fun x => (z0o.eq_2 x.1 x.2.1 n).trans (by kernel_rfl),
  trivial⟩)
 (fun x => .inl rfl)
theorem y0z : OkL Tryz.prog [z8u] := kz7 (zz2 _) (bs := [z34, z82, z7m]) ⟨zhu, y0m, zyr, trivial⟩ zvx
theorem zss : FOk Tryz.prog z8u := y0z.1
mutual
def zzy : Nat → zz0 → zz0 → Option Bool
 | 0, _, _ => none
 | n + 1, a0, a1 =>
   pIf (a0.kind != a1.kind)
     (yzm n true a1.re a0.re)
     (pIf (!((a0.num.num == a1.num.num) && ((a0.num.den == a1.num.den) && true)))
       (yzm n true a1.re a0.re)
       (pIf (!(a0.truth == a1.truth))
         (yzm n true a1.re a0.re)
         (pIf (!(a0.str == a1.str))
           (yzm n true a1.re a0.re)
           (yzm n ((a0.list.length : Int) != (a1.list.length : Int)) a1.re a0.re))))
def yzm : Nat → Bool → zz0 → zz0 → Option Bool
 | 0, _, _, _ => none
 | n + 1, a0, a1, a2 =>
   pIf a0
     (some false)
     (z1p n 0 a1.re a2.re)
def z1p : Nat → Int → zz0 → zz0 → Option Bool
 | 0, _, _, _ => none
 | n + 1, a0, a1, a2 =>
   pIf (decide (a0 < (a2.list.length : Int)))
     ((ix a2.list a0).bind fun x0 =>
     (ix a1.list a0).bind fun x1 =>
     (zzy n x0.re x1.re).bind fun y2 =>
     pIf (!y2)
       (some false)
       (z1p n (IntKind.i64.wrap (a0 + 1)) a1.re a2.re))
     (some true)
end
def y4w : LSh := ⟨[(4, (.d .bool))], [], 0, 60⟩
noncomputable def z4a : FI dat := FI.of dat 23 60 0 [(.d (.st 3)), (.d (.st 3))] [] [(.d .bool)] [] true y4w (R := Bool) (fun x => x.1) (fun r => (r, ())) (fun n x => zzy n x.1 x.2.1)
 (fun n => [(0, ⟨⟨[(3, (.ptr 0 0)), (2, (.ptr 1 0)), (40, (.d .bool))], [(.st 3), (.st 3)], 0, 60⟩, fun x => yzm n x.1 x.2.1 x.2.2.1⟩), (1, ⟨⟨[(5, (.d (.int .i64))), (3, (.ptr 0 0)), (2, (.ptr 1 0))], [(.st 3), (.st 3)], 0, 60⟩, fun x => z1p n x.1 x.2.1 x.2.2.1⟩)]) (ann [(5, 0), (14, 1)] (Tryz.f23.body.getD .skip) 0).1
noncomputable def y4i : List (FI dat) := [z4a] ++ []
theorem y4n : (z4a).Good Tryz.prog dat (tb y4i) := FI.kz4 (hD := zz2 _) Tryz.func23 Tryz.ntmps23 Tryz.call23 (by kernel_rfl) (of_decide_eq_true (by kernel_rfl)) (by kernel_rfl) (fun n => by kernel_rfl) (fun x => by kernel_rfl) (fun _ => rfl) ⟨fun _ => rfl, fun _ => rfl, trivial⟩
 (fun n => fun x => (zzy.eq_2 x.1 x.2.1 n).trans (by kernel_rfl))
 (fun n => ⟨fun x => (yzm.eq_2 x.1 x.2.1 x.2.2.1 n).trans (by kernel_rfl),
  fun x => (z1p.eq_2 x.1 x.2.1 x.2.2.1 n).trans (by kernel_rfl),
  trivial⟩)
 (fun x => .inl rfl)
theorem y4v : OkL Tryz.prog [z4a] := z2k (zz2 _) (bs := []) trivial ⟨y4n, trivial⟩
theorem zk8 : FOk Tryz.prog z4a := y4v.1
end Go.Proofs.YtfhpamcehnfhoaaGreatDoor


namespace Go.Proofs.YtfhpamcehnfhoaaGreatDoor
open Go Go.Ab
set_option linter.unusedVariables false
set_option maxRecDepth 100000
def z3x : Nat → Int → Option Bool
 | 0, _ => none
 | n + 1, a0 =>
   pIf (decide (a0 ≥ 97))
     (some (decide (a0 ≤ 122)))
     (some false)
def zsb : LSh := ⟨[(2, (.d .bool))], [], 0, 9⟩
noncomputable def z77 : FI dat := FI.of dat 86 9 0 [(.d (.int .u8))] [] [(.d .bool)] [] true zsb (R := Bool) (fun x => x.1) (fun r => (r, ())) (fun n x => z3x n x.1)
 (fun n => []) (ann [] (Tryz.f86.body.getD .skip) 0).1
noncomputable def zvh : List (FI dat) := []
theorem zvc : (z77).Good Tryz.prog dat (tb zvh) := FI.kz4 (hD := zz2 _) Tryz.func86 Tryz.ntmps86 Tryz.call86 (by kernel_rfl) (of_decide_eq_true (by kernel_rfl)) (by kernel_rfl) (fun n => by kernel_rfl) (fun x => by kernel_rfl) (fun _ => rfl) trivial
 (fun n => fun x => (z3x.eq_2 x.1 n).trans (by kernel_rfl))
 (fun n => trivial)
 (fun x => .inl rfl)
theorem zsd : OkL Tryz.prog [z77] := kz7 (zz2 _) (bs := []) trivial zvc
theorem zqc : FOk Tryz.prog z77 := zsd.1
def z5h : Nat → Int → Option Bool
 | 0, _ => none
 | n + 1, a0 =>
   pIf (decide (a0 ≥ 48))
     (some (decide (a0 ≤ 57)))
     (some false)
def zwi : LSh := ⟨[(2, (.d .bool))], [], 0, 9⟩
noncomputable def z8n : FI dat := FI.of dat 87 9 0 [(.d (.int .u8))] [] [(.d .bool)] [] true zwi (R := Bool) (fun x => x.1) (fun r => (r, ())) (fun n x => z5h n x.1)
 (fun n => []) (ann [] (Tryz.f87.body.getD .skip) 0).1
noncomputable def zxr : List (FI dat) := []
theorem zyg : (z8n).Good Tryz.prog dat (tb zxr) := FI.kz4 (hD := zz2 _) Tryz.func87 Tryz.ntmps87 Tryz.call87 (by kernel_rfl) (of_decide_eq_true (by kernel_rfl)) (by kernel_rfl) (fun n => by kernel_rfl) (fun x => by kernel_rfl) (fun _ => rfl) trivial
 (fun n => fun x => (z5h.eq_2 x.1 n).trans (by kernel_rfl))
 (fun n => trivial)
 (fun x => .inl rfl)
theorem zyc : OkL Tryz.prog [z8n] := kz7 (zz2 _) (bs := []) trivial zyg
theorem zt8 : FOk Tryz.prog z8n := zyc.1
mutual
def z6d : Nat → (List UInt8) → Option Bool
 | 0, _ => none
 | n + 1, a0 =>
   zzi n 0 a0
def zzi : Nat → Int → (List UInt8) → Option Bool
 | 0, _, _ => none
 | n + 1, a0, a1 =>
   pIf (decide (a0 < (a1.length : Int)))
     ((ix a1 a0).bind fun x0 =>
     (z3x n (x0.toNat : Int)).bind fun y1 =>
     pIf (!y1)
       (pIf (a0 == 0)
         (kzl n a1 a0 true)
         ((ix a1 a0).bind fun x2 =>
         pIf ((x2.toNat : Int) != 45)
           ((ix a1 a0).bind fun x3 =>
           (z5h n (x3.toNat : Int)).bind fun y4 =>
           kzl n a1 a0 (!y4))
           (kzl n a1 a0 false)))
       (kzl n a1 a0 false))
     (pIf (decide ((a1.length : Int) ≥ 1))
       (some (decide ((a1.length : Int) ≤ 40)))
       (some false))
def kzl : Nat → (List UInt8) → Int → Bool → Option Bool
 | 0, _, _, _ => none
 | n + 1, a0, a1, a2 =>
   pIf a2
     (some false)
     (zzi n (IntKind.i64.wrap (a1 + 1)) a0)
end
def y4e : LSh := ⟨[(2, (.d .bool))], [], 0, 40⟩
noncomputable def za3 : FI dat := FI.of dat 54 40 0 [(.d .str)] [] [(.d .bool)] [] true y4e (R := Bool) (fun x => x.1) (fun r => (r, ())) (fun n x => z6d n x.1)
 (fun n => [(0, ⟨⟨[(3, (.d (.int .i64))), (0, (.d .str))], [], 0, 40⟩, fun x => zzi n x.1 x.2.1⟩), (1, ⟨⟨[(0, (.d .str)), (3, (.d (.int .i64))), (31, (.d .bool))], [], 0, 40⟩, fun x => kzl n x.1 x.2.1 x.2.2.1⟩)]) (ann [(6, 0), (17, 1)] (Tryz.f54.body.getD .skip) 0).1
noncomputable def y59 : List (FI dat) := [z77, z8n]
theorem y2n : (za3).Good Tryz.prog dat (tb y59) := FI.kz4 (hD := zz2 _) Tryz.func54 Tryz.ntmps54 Tryz.call54 (by kernel_rfl) (of_decide_eq_true (by kernel_rfl)) (by kernel_rfl) (fun n => by kernel_rfl) (fun x => by kernel_rfl) (fun _ => rfl) ⟨fun _ => rfl, fun _ => rfl, trivial⟩
 (fun n => fun x => (z6d.eq_2 x.1 n).trans (by kernel_rfl))
 (fun n => ⟨fun x => (zzi.eq_2 x.1 x.2.1 n).trans (by kernel_rfl),
  fun x => (kzl.eq_2 x.1 x.2.1 x.2.2.1 n).trans (by kernel_rfl),
  trivial⟩)
 (fun x => .inl rfl)
theorem y5m : OkL Tryz.prog [za3] := kz7 (zz2 _) (bs := [z77, z8n]) ⟨zqc, zt8, trivial⟩ y2n
theorem y0r : FOk Tryz.prog za3 := y5m.1
def z5j : Nat → (List UInt8) → Option Bool
 | 0, _ => none
 | n + 1, a0 =>
   (z6d n a0).bind fun y0 =>
   pIf y0
     (pIf (!(a0 == [116, 114, 117, 101]))
       (some (!(a0 == [102, 97, 108, 115, 101])))
       (some false))
     (some false)
def zyy : LSh := ⟨[(2, (.d .bool))], [], 0, 13⟩
noncomputable def z8m : FI dat := FI.of dat 98 13 0 [(.d .str)] [] [(.d .bool)] [] true zyy (R := Bool) (fun x => x.1) (fun r => (r, ())) (fun n x => z5j n x.1)
 (fun n => []) (ann [] (Tryz.f98.body.getD .skip) 0).1
noncomputable def y0l : List (FI dat) := [za3]
theorem zy0 : (z8m).Good Tryz.prog dat (tb y0l) := FI.kz4 (hD := zz2 _) Tryz.func98 Tryz.ntmps98 Tryz.call98 (by kernel_rfl) (of_decide_eq_true (by kernel_rfl)) (by kernel_rfl) (fun n => by kernel_rfl) (fun x => by kernel_rfl) (fun _ => rfl) trivial
 (fun n => fun x => (z5j.eq_2 x.1 n).trans (by kernel_rfl))
 (fun n => trivial)
 (fun x => .inl rfl)
theorem zw2 : OkL Tryz.prog [z8m] := kz7 (zz2 _) (bs := [za3]) ⟨y0r, trivial⟩ zy0
theorem ztm : FOk Tryz.prog z8m := zw2.1
mutual
def z4q : Nat → zz1 → Option Bool
 | 0, _ => none
 | n + 1, a0 =>
   (z6g n a0.op).bind fun y0 =>
   pIf (y0 == (-2))
     (z03 n true a0.re)
     (pIf (decide (y0 ≥ 0))
       (z03 n ((a0.args.length : Int) != y0) a0.re)
       (z03 n false a0.re))
def z03 : Nat → Bool → zz1 → Option Bool
 | 0, _, _ => none
 | n + 1, a0, a1 =>
   pIf a0
     (some false)
     (pIf (a1.op == 1)
       ((z5g n a1.value.re).bind fun y1 =>
       pIf (y1 != 0)
         (zzh n true a1.re)
         (pIf (a1.value.kind == 4)
           (zzh n true a1.re)
           (pIf (a1.op != 1)
             ((zzy n a1.value.re (zz0.mk 0 (yz1.mk 0 0) false [] [])).bind fun y2 =>
             zzh n (!y2) a1.re)
             (zzh n false a1.re))))
       (pIf (a1.op != 1)
         ((zzy n a1.value.re (zz0.mk 0 (yz1.mk 0 0) false [] [])).bind fun y3 =>
         zzh n (!y3) a1.re)
         (zzh n false a1.re)))
def zzh : Nat → Bool → zz1 → Option Bool
 | 0, _, _ => none
 | n + 1, a0, a1 =>
   pIf a0
     (some false)
     (pIf (a1.op == 2)
       ((z5j n a1.name).bind fun y4 =>
       pIf (!y4)
         (zzn n true a1.re)
         (pIf (a1.op != 2)
           (zzn n (decide ((a1.name.length : Int) > 0)) a1.re)
           (zzn n false a1.re)))
       (pIf (a1.op != 2)
         (zzn n (decide ((a1.name.length : Int) > 0)) a1.re)
         (zzn n false a1.re)))
def zzn : Nat → Bool → zz1 → Option Bool
 | 0, _, _ => none
 | n + 1, a0, a1 =>
   pIf a0
     (some false)
     (z13 n 0 a1.re)
def z13 : Nat → Int → zz1 → Option Bool
 | 0, _, _ => none
 | n + 1, a0, a1 =>
   pIf (decide (a0 < (a1.args.length : Int)))
     ((ix a1.args a0).bind fun x5 =>
     (z4q n x5.re).bind fun y6 =>
     pIf (!y6)
       (some false)
       (z13 n (IntKind.i64.wrap (a0 + 1)) a1.re))
     (some true)
end
def y2r : LSh := ⟨[(2, (.d .bool))], [], 0, 82⟩
noncomputable def z7x : FI dat := FI.of dat 68 82 0 [(.d (.st 4))] [] [(.d .bool)] [] true y2r (R := Bool) (fun x => x.1) (fun r => (r, ())) (fun n x => z4q n x.1)
 (fun n => [(0, ⟨⟨[(1, (.ptr 0 0)), (20, (.d .bool))], [(.st 4)], 0, 82⟩, fun x => z03 n x.1 x.2.1⟩), (1, ⟨⟨[(1, (.ptr 0 0)), (47, (.d .bool))], [(.st 4)], 0, 82⟩, fun x => zzh n x.1 x.2.1⟩), (2, ⟨⟨[(1, (.ptr 0 0)), (67, (.d .bool))], [(.st 4)], 0, 82⟩, fun x => zzn n x.1 x.2.1⟩), (3, ⟨⟨[(4, (.d (.int .i64))), (1, (.ptr 0 0))], [(.st 4)], 0, 82⟩, fun x => z13 n x.1 x.2.1⟩)]) (ann [(7, 0), (15, 1), (23, 2), (32, 3)] (Tryz.f68.body.getD .skip) 0).1
noncomputable def y2t : List (FI dat) := [z7x] ++ [zaa, z8u, z4a, z8m]
theorem y7e : (z7x).Good Tryz.prog dat (tb y2t) := FI.kz4 (hD := zz2 _) Tryz.func68 Tryz.ntmps68 Tryz.call68 (by kernel_rfl) (of_decide_eq_true (by kernel_rfl)) (by kernel_rfl) (fun n => by kernel_rfl) (fun x => by kernel_rfl) (fun _ => rfl) ⟨fun _ => rfl, fun _ => rfl, fun _ => rfl, fun _ => rfl, trivial⟩
 (fun n => fun x => (z4q.eq_2 x.1 n).trans (by kernel_rfl))
 (fun n => ⟨fun x => (z03.eq_2 x.1 x.2.1 n).trans (by kernel_rfl),
  fun x => (zzh.eq_2 x.1 x.2.1 n).trans (by kernel_rfl),
  fun x => (zzn.eq_2 x.1 x.2.1 n).trans (by kernel_rfl),
  fun x => (z13.eq_2 x.1 x.2.1 n).trans (by kernel_rfl),
  trivial⟩)
 (fun x => .inl rfl)
theorem y7r : OkL Tryz.prog [z7x] := z2k (zz2 _) (bs := [zaa, z8u, z4a, z8m]) ⟨zxz, zss, zk8, ztm, trivial⟩ ⟨y7e, trivial⟩
theorem zy9 : FOk Tryz.prog z7x := y7r.1
mutual
def z4y : Nat → zz1 → Option Int
 | 0, _ => none
 | n + 1, a0 =>
   (z2c n a0.re).bind fun y0 =>
   pIf (decide (y0 > 100))
     (z0d n true a0.re)
     ((z4f n a0.re).bind fun y1 =>
     z0d n (decide (y1 > 12)) a0.re)
def z0d : Nat → Bool → zz1 → Option Int
 | 0, _, _ => none
 | n + 1, a0, a1 =>
   pIf a0
     (some 4)
     ((z4q n a1.re).bind fun y2 =>
     pIf (!y2)
       (some 8)
       (some 0))
end
def zw9 : LSh := ⟨[(2, (.d (.int .i64)))], [], 0, 14⟩
noncomputable def z8q : FI dat := FI.of dat 40 14 0 [(.d (.st 4))] [] [(.d (.int .i64))] [] true zw9 (R := Int) (fun x => x.1) (fun r => (r, ())) (fun n x => z4y n x.1)
 (fun n => [(0, ⟨⟨[(1, (.ptr 0 0)), (10, (.d .bool))], [(.st 4)], 0, 14⟩, fun x => z0d n x.1 x.2.1⟩)]) (ann [(5, 0)] (Tryz.f40.body.getD .skip) 0).1
noncomputable def zxu : List (FI dat) := [z32, z7o, z7x]
theorem zym : (z8q).Good Tryz.prog dat (tb zxu) := FI.kz4 (hD := zz2 _) Tryz.func40 Tryz.ntmps40 Tryz.call40 (by kernel_rfl) (of_decide_eq_true (by kernel_rfl)) (by kernel_rfl) (fun n => by kernel_rfl) (fun x => by kernel_rfl) (fun _ => rfl) ⟨fun _ => rfl, trivial⟩
 (fun n => fun x => (z4y.eq_2 x.1 n).trans (by kernel_rfl))
 (fun n => ⟨fun x => (z0d.eq_2 x.1 x.2.1 n).trans (by kernel_rfl),
  trivial⟩)
 (fun x => .inl rfl)
theorem zxl : OkL Tryz.prog [z8q] := kz7 (zz2 _) (bs := [z32, z7o, z7x]) ⟨zil, y06, zy9, trivial⟩ zym
theorem zuo : FOk Tryz.prog z8q := zxl.1
def kzo : Nat → zz1 → Option Bool
 | 0, _ => none
 | n + 1, a0 =>
   (z54 n a0.re).bind fun y0 =>
   pIf (!y0)
     ((z4y n a0.re).bind fun y1 =>
     some (y1 == 0))
     (some false)
def zif : LSh := ⟨[(2, (.d .bool))], [], 0, 11⟩
noncomputable def z2i : FI dat := FI.of dat 27 11 0 [(.d (.st 4))] [] [(.d .bool)] [] true zif (R := Bool) (fun x => x.1) (fun r => (r, ())) (fun n x => kzo n x.1)
 (fun n => []) (ann [] (Tryz.f27.body.getD .skip) 0).1
noncomputable def zim : List (FI dat) := [z8y, z8q]
theorem zin : (z2i).Good Tryz.prog dat (tb zim) := FI.kz4 (hD := zz2 _) Tryz.func27 Tryz.ntmps27 Tryz.call27 (by kernel_rfl) (of_decide_eq_true (by kernel_rfl)) (by kernel_rfl) (fun n => by kernel_rfl) (fun x => by kernel_rfl) (fun _ => rfl) trivial
 (fun n => fun x => (kzo.eq_2 x.1 n).trans (by kernel_rfl))
 (fun n => trivial)
 (fun x => .inl rfl)
theorem zis : OkL Tryz.prog [z2i] := kz7 (zz2 _) (bs := [z8y, z8q]) ⟨ztt, zuo, trivial⟩ zin
theorem zhh : FOk Tryz.prog z2i := zis.1
mutual
def z0r : Nat → (List yz4) → Option Bool
 | 0, _ => none
 | n + 1, a0 =>
   kzj n 0 a0
def kzj : Nat → Int → (List yz4) → Option Bool
 | 0, _, _ => none
 | n + 1, a0, a1 =>
   pIf (decide (a0 < (a1.length : Int)))
     (zzf n a1 a0 (decide (a0 < 60)))
     (zzf n a1 a0 false)
def zzf : Nat → (List yz4) → Int → Bool → Option Bool
 | 0, _, _, _ => none
 | n + 1, a0, a1, a2 =>
   pIf a2
     ((ix a0 a1).bind fun x0 =>
     pIf (decide ((x0.name.length : Int) > 200))
       (zzk n a0 a1 true)
       ((ix a0 a1).bind fun x1 =>
       (z29 n x1.value.re).bind fun y2 =>
       zzk n a0 a1 y2))
     (some (decide ((a0.length : Int) > 60)))
def zzk : Nat → (List yz4) → Int → Bool → Option Bool
 | 0, _, _, _ => none
 | n + 1, a0, a1, a2 =>
   pIf a2
     (some true)
     (kzj n (IntKind.i64.wrap (a1 + 1)) a0)
end
def zlt : LSh := ⟨[(2, (.d .bool))], [], 0, 32⟩
noncomputable def z3m : FI dat := FI.of dat 29 32 0 [(.d (.sl (.st 5)))] [] [(.d .bool)] [] true zlt (R := Bool) (fun x => x.1) (fun r => (r, ())) (fun n x => z0r n x.1)
 (fun n => [(0, ⟨⟨[(3, (.d (.int .i64))), (0, (.d (.sl (.st 5))))], [], 0, 32⟩, fun x => kzj n x.1 x.2.1⟩), (1, ⟨⟨[(0, (.d (.sl (.st 5)))), (3, (.d (.int .i64))), (11, (.d .bool))], [], 0, 32⟩, fun x => zzf n x.1 x.2.1 x.2.2.1⟩), (2, ⟨⟨[(0, (.d (.sl (.st 5)))), (3, (.d (.int .i64))), (28, (.d .bool))], [], 0, 32⟩, fun x => zzk n x.1 x.2.1 x.2.2.1⟩)]) (ann [(6, 0), (10, 1), (17, 2)] (Tryz.f29.body.getD .skip) 0).1
noncomputable def zl6 : List (FI dat) := [z1x]
theorem zld : (z3m).Good Tryz.prog dat (tb zl6) := FI.kz4 (hD := zz2 _) Tryz.func29 Tryz.ntmps29 Tryz.call29 (by kernel_rfl) (of_decide_eq_true (by kernel_rfl)) (by kernel_rfl) (fun n => by kernel_rfl) (fun x => by kernel_rfl) (fun _ => rfl) ⟨fun _ => rfl, fun _ => rfl, fun _ => rfl, trivial⟩
 (fun n => fun x => (z0r.eq_2 x.1 n).trans (by kernel_rfl))
 (fun n => ⟨fun x => (kzj.eq_2 x.1 x.2.1 n).trans (by kernel_rfl),
  fun x => (zzf.eq_2 x.1 x.2.1 x.2.2.1 n).trans (by kernel_rfl),
  fun x => (zzk.eq_2 x.1 x.2.1 x.2.2.1 n).trans (by kernel_rfl),
  trivial⟩)
 (fun x => .inl rfl)
theorem zl9 : OkL Tryz.prog [z3m] := kz7 (zz2 _) (bs := [z1x]) ⟨zde, trivial⟩ zld
theorem zjr : FOk Tryz.prog z3m := zl9.1
end Go.Proofs.YtfhpamcehnfhoaaGreatDoor


namespace Go.Proofs.YtfhpamcehnfhoaaGreatDoor
open Go Go.Ab
set_option linter.unusedVariables false
set_option maxRecDepth 100000
mutual
def z2s : Nat → zz1 → Option (Int × Int)
 | 0, _ => none
 | n + 1, a0 =>
   z00 n 0 1 1 a0.args (a0.args.length : Int)
def z00 : Nat → Int → Int → Int → (List zz1) → Int → Option (Int × Int)
 | 0, _, _, _, _, _ => none
 | n + 1, a0, a1, a2, a3, a4 =>
   pIf (decide (a0 < a4))
     ((ix a3 a0).bind fun x0 =>
     (z2s n x0.re).bind fun y1 =>
     z00 n (IntKind.i64.wrap (a0 + 1)) (mxI a1 (IntKind.i64.wrap (y1.2 + 1))) (IntKind.i64.wrap (a2 + y1.1)) a3 a4)
     (some (a2, a1))
end
def zu0 : LSh := ⟨[(2, (.d (.int .i64))), (3, (.d (.int .i64)))], [], 0, 30⟩
noncomputable def z5f : FI dat := FI.of dat 52 30 0 [(.d (.st 4))] [] [(.d (.int .i64)), (.d (.int .i64))] [] true zu0 (R := Int × Int) (fun x => (x.1, x.2.1)) (fun r => (r.1, r.2, ())) (fun n x => z2s n x.1)
 (fun n => [(0, ⟨⟨[(11, (.d (.int .i64))), (3, (.d (.int .i64))), (2, (.d (.int .i64))), (9, (.d (.sl (.st 4)))), (10, (.d (.int .i64)))], [], 0, 30⟩, fun x => z00 n x.1 x.2.1 x.2.2.1 x.2.2.2.1 x.2.2.2.2.1⟩)]) (ann [(8, 0)] (Tryz.f52.body.getD .skip) 0).1
noncomputable def ztf : List (FI dat) := [z5f] ++ []
theorem zue : (z5f).Good Tryz.prog dat (tb ztf) := FI.kz4 (hD := zz2 _) Tryz.func52 Tryz.ntmps52 Tryz.call52 (by kernel_rfl) (of_decide_eq_true (by kernel_rfl)) (by kernel_rfl) (fun n => by kernel_rfl) (fun x => by kernel_rfl) (fun _ => rfl) ⟨fun _ => rfl, trivial⟩
 (fun n => fun x => (z2s.eq_2 x.1 n).trans (by kernel_rfl))
 (fun n => ⟨fun x => (z00.eq_2 x.1 x.2.1 x.2.2.1 x.2.2.2.1 x.2.2.2.2.1 n).trans (by kernel_rfl),
  trivial⟩)
 (fun x => .inl rfl)
theorem zuk : OkL Tryz.prog [z5f] := z2k (zz2 _) (bs := []) trivial ⟨zue, trivial⟩
theorem zqk : FOk Tryz.prog z5f := zuk.1
mutual
def z6a : Nat → Int → Option Int
 | 0, _ => none
 | n + 1, a0 =>
   pIf (a0 == 12)
     (zzm n 3)
     (pIf (a0 == 3)
       (kze n (-2) a0 true)
       (pIf (a0 == 4)
         (kze n (-2) a0 true)
         (pIf (a0 == 5)
           (kze n (-2) a0 true)
           (pIf (a0 == 6)
             (kze n (-2) a0 true)
             (pIf (a0 == 7)
               (kze n (-2) a0 true)
               (pIf (a0 == 8)
                 (kze n (-2) a0 true)
                 (pIf (a0 == 9)
                   (kze n (-2) a0 true)
                   (kze n (-2) a0 (a0 == 10)))))))))
def kze : Nat → Int → Int → Bool → Option Int
 | 0, _, _, _ => none
 | n + 1, a0, a1, a2 =>
   pIf a2
     (z3e n )
     (pIf (a1 == 13)
       (z1g n a0 a1 true)
       (pIf (a1 == 14)
         (z1g n a0 a1 true)
         (z1g n a0 a1 (a1 == 17))))
def z1g : Nat → Int → Int → Bool → Option Int
 | 0, _, _, _ => none
 | n + 1, a0, a1, a2 =>
   pIf a2
     (z3e n )
     (pIf (a1 == 11)
       (z1c n a0 a1 true)
       (pIf (a1 == 15)
         (z1c n a0 a1 true)
         (z1c n a0 a1 (a1 == 16))))
def z1c : Nat → Int → Int → Bool → Option Int
 | 0, _, _, _ => none
 | n + 1, a0, a1, a2 =>
   pIf a2
     (zzm n 1)
     (pIf (a1 == 1)
       (z38 n a0 a1 true)
       (z38 n a0 a1 (a1 == 2)))
def z38 : Nat → Int → Int → Bool → Option Int
 | 0, _, _, _ => none
 | n + 1, a0, a1, a2 =>
   pIf a2
     (zzm n 0)
     (pIf (a1 == 18)
       (zzm n (-1))
       (zzm n a0))
def z3e : Nat → Option Int
 | 0 => none
 | n + 1 =>
   zzm n 2
def zzm : Nat → Int → Option Int
 | 0, _ => none
 | n + 1, a0 =>
   some a0
end
def y4z : LSh := ⟨[(2, (.d (.int .i64)))], [], 0, 30⟩
noncomputable def za7 : FI dat := FI.of dat 83 30 0 [(.d (.int .u8))] [] [(.d (.int .i64))] [] true y4z (R := Int) (fun x => x.1) (fun r => (r, ())) (fun n x => z6a n x.1)
 (fun n => [(0, ⟨⟨[(3, (.d (.int .i64))), (4, (.d (.int .u8))), (7, (.d .bool))], [], 0, 30⟩, fun x => kze n x.1 x.2.1 x.2.2.1⟩), (1, ⟨⟨[(3, (.d (.int .i64))), (4, (.d (.int .u8))), (16, (.d .bool))], [], 0, 30⟩, fun x => z1g n x.1 x.2.1 x.2.2.1⟩), (2, ⟨⟨[(3, (.d (.int .i64))), (4, (.d (.int .u8))), (20, (.d .bool))], [], 0, 30⟩, fun x => z1c n x.1 x.2.1 x.2.2.1⟩), (3, ⟨⟨[(3, (.d (.int .i64))), (4, (.d (.int .u8))), (24, (.d .bool))], [], 0, 30⟩, fun x => z38 n x.1 x.2.1 x.2.2.1⟩), (4, ⟨⟨[], [], 0, 30⟩, fun x => z3e n ⟩), (5, ⟨⟨[(3, (.d (.int .i64)))], [], 0, 30⟩, fun x => zzm n x.1⟩)]) (ann [(57, 0), (71, 1), (85, 2), (95, 3), (107, 4), (119, 5)] (Tryz.f83.body.getD .skip) 0).1
noncomputable def y5t : List (FI dat) := []
theorem y38 : (za7).Good Tryz.prog dat (tb y5t) := FI.kz4 (hD := zz2 _) Tryz.func83 Tryz.ntmps83 Tryz.call83 (by kernel_rfl) (of_decide_eq_true (by kernel_rfl)) (by kernel_rfl) (fun n => by kernel_rfl) (fun x => by kernel_rfl) (fun _ => rfl) ⟨fun _ => rfl, fun _ => rfl, fun _ => rfl, fun _ => rfl, fun _ => rfl, fun _ => rfl, trivial⟩
 (fun n => fun x => (z6a.eq_2 x.1 n).trans (by kernel_rfl))
 (fun n => ⟨fun x => (kze.eq_2 x.1 x.2.1 x.2.2.1 n).trans (by kernel_rfl),
  fun x => (z1g.eq_2 x.1 x.2.1 x.2.2.1 n).trans (by kernel_rfl),
  fun x => (z1c.eq_2 x.1 x.2.1 x.2.2.1 n).trans (by kernel_rfl),
  fun x => (z38.eq_2 x.1 x.2.1 x.2.2.1 n).trans (by kernel_rfl),
  fun x => (z3e.eq_2  n).trans (by kernel_rfl),
  fun x => (zzm.eq_2 x.1 n).trans (by kernel_rfl),
  trivial⟩)
 (fun x => .inl rfl)
theorem y5w : OkL Tryz.prog [za7] := kz7 (zz2 _) (bs := []) trivial y38
theorem zxj : FOk Tryz.prog za7 := y5w.1
mutual
def zzt : Nat → zz0 → Option (Int × Int)
 | 0, _ => none
 | n + 1, a0 =>
   pIf (a0.kind == 4)
     (yzw n 0 1 1 a0.list (a0.list.length : Int))
     (zzw n 1 1)
def yzw : Nat → Int → Int → Int → (List zz0) → Int → Option (Int × Int)
 | 0, _, _, _, _, _ => none
 | n + 1, a0, a1, a2, a3, a4 =>
   pIf (decide (a0 < a4))
     ((ix a3 a0).bind fun x0 =>
     (zzt n x0.re).bind fun y1 =>
     yzw n (IntKind.i64.wrap (a0 + 1)) (mxI a1 (IntKind.i64.wrap (y1.2 + 1))) (IntKind.i64.wrap (a2 + y1.1)) a3 a4)
     (zzw n a1 a2)
def zzw : Nat → Int → Int → Option (Int × Int)
 | 0, _, _ => none
 | n + 1, a0, a1 =>
   some (a1, a0)
end
def zqr : LSh := ⟨[(2, (.d (.int .i64))), (3, (.d (.int .i64)))], [], 0, 33⟩
noncomputable def z0t : FI dat := FI.of dat 79 33 0 [(.d (.st 3))] [] [(.d (.int .i64)), (.d (.int .i64))] [] true zqr (R := Int × Int) (fun x => (x.1, x.2.1)) (fun r => (r.1, r.2, ())) (fun n x => zzt n x.1)
 (fun n => [(0, ⟨⟨[(14, (.d (.int .i64))), (3, (.d (.int .i64))), (2, (.d (.int .i64))), (12, (.d (.sl (.st 3)))), (13, (.d (.int .i64)))], [], 0, 33⟩, fun x => yzw n x.1 x.2.1 x.2.2.1 x.2.2.2.1 x.2.2.2.2.1⟩), (1, ⟨⟨[(3, (.d (.int .i64))), (2, (.d (.int .i64)))], [], 0, 33⟩, fun x => zzw n x.1 x.2.1⟩)]) (ann [(11, 0), (29, 1)] (Tryz.f79.body.getD .skip) 0).1
noncomputable def zqn : List (FI dat) := [z0t] ++ []
theorem zqv : (z0t).Good Tryz.prog dat (tb zqn) := FI.kz4 (hD := zz2 _) Tryz.func79 Tryz.ntmps79 Tryz.call79 (by kernel_rfl) (of_decide_eq_true (by kernel_rfl)) (by kernel_rfl) (fun n => by kernel_rfl) (fun x => by kernel_rfl) (fun _ => rfl) ⟨fun _ => rfl, fun _ => rfl, trivial⟩
 (fun n => fun x => (zzt.eq_2 x.1 n).trans (by kernel_rfl))
 (fun n => ⟨fun x => (yzw.eq_2 x.1 x.2.1 x.2.2.1 x.2.2.2.1 x.2.2.2.2.1 n).trans (by kernel_rfl),
  fun x => (zzw.eq_2 x.1 x.2.1 n).trans (by kernel_rfl),
  trivial⟩)
 (fun x => .inl rfl)
theorem zrd : OkL Tryz.prog [z0t] := z2k (zz2 _) (bs := []) trivial ⟨zqv, trivial⟩
theorem zg2 : FOk Tryz.prog z0t := zrd.1
def z23 : Nat → Int → Option Int
 | 0, _ => none
 | n + 1, a0 =>
   pIf (decide (a0 < 0))
     (some (IntKind.u64.wrap (0 - (IntKind.u64.wrap a0))))
     (some (IntKind.u64.wrap a0))
def y7v : LSh := ⟨[(2, (.d (.int .u64)))], [], 0, 10⟩
noncomputable def z5p : FI dat := FI.of dat 138 10 0 [(.d (.int .i64))] [] [(.d (.int .u64))] [] true y7v (R := Int) (fun x => x.1) (fun r => (r, ())) (fun n x => z23 n x.1)
 (fun n => []) (ann [] (Tryz.f138.body.getD .skip) 0).1
noncomputable def y7i : List (FI dat) := []
theorem y2z : (z5p).Good Tryz.prog dat (tb y7i) := FI.kz4 (hD := zz2 _) Tryz.func138 Tryz.ntmps138 Tryz.call138 (by kernel_rfl) (of_decide_eq_true (by kernel_rfl)) (by kernel_rfl) (fun n => by kernel_rfl) (fun x => by kernel_rfl) (fun _ => rfl) trivial
 (fun n => fun x => (z23.eq_2 x.1 n).trans (by kernel_rfl))
 (fun n => trivial)
 (fun x => .inl rfl)
theorem y3m : OkL Tryz.prog [z5p] := kz7 (zz2 _) (bs := []) trivial y2z
theorem zk7 : FOk Tryz.prog z5p := y3m.1
mutual
def z5q : Nat → Int → Int → Option Int
 | 0, _, _ => none
 | n + 1, a0, a1 =>
   z2v n a1 a0
def z2v : Nat → Int → Int → Option Int
 | 0, _, _ => none
 | n + 1, a0, a1 =>
   pIf (a0 != 0)
     ((rem .u64 a1 a0).bind fun x0 =>
     z2v n x0 a0)
     (some a1)
end
def ybd : LSh := ⟨[(4, (.d (.int .u64)))], [], 0, 12⟩
noncomputable def z6x : FI dat := FI.of dat 139 12 0 [(.d (.int .u64)), (.d (.int .u64))] [] [(.d (.int .u64))] [] true ybd (R := Int) (fun x => x.1) (fun r => (r, ())) (fun n x => z5q n x.1 x.2.1)
 (fun n => [(0, ⟨⟨[(1, (.d (.int .u64))), (0, (.d (.int .u64)))], [], 0, 12⟩, fun x => z2v n x.1 x.2.1⟩)]) (ann [(4, 0)] (Tryz.f139.body.getD .skip) 0).1
noncomputable def y8c : List (FI dat) := []
theorem yc5 : (z6x).Good Tryz.prog dat (tb y8c) := FI.kz4 (hD := zz2 _) Tryz.func139 Tryz.ntmps139 Tryz.call139 (by kernel_rfl) (of_decide_eq_true (by kernel_rfl)) (by kernel_rfl) (fun n => by kernel_rfl) (fun x => by kernel_rfl) (fun _ => rfl) ⟨fun _ => rfl, trivial⟩
 (fun n => fun x => (z5q.eq_2 x.1 x.2.1 n).trans (by kernel_rfl))
 (fun n => ⟨fun x => (z2v.eq_2 x.1 x.2.1 n).trans (by kernel_rfl),
  trivial⟩)
 (fun x => .inl rfl)
theorem ycg : OkL Tryz.prog [z6x] := kz7 (zz2 _) (bs := []) trivial yc5
theorem zn4 : FOk Tryz.prog z6x := ycg.1
mutual
def z0e : Nat → yz1 → Option Int
 | 0, _ => none
 | n + 1, a0 =>
   pIf (decide (a0.den < 1))
     (kzp n true)
     (pIf (decide (a0.den > 1000000000))
       (kzp n true)
       ((z23 n a0.num).bind fun y0 =>
       pIf (decide (y0 > 1000000000))
         (kzp n true)
         ((z23 n a0.num).bind fun y1 =>
         (z5q n y1 (IntKind.u64.wrap a0.den)).bind fun y2 =>
         kzp n (y2 != 1))))
def kzp : Nat → Bool → Option Int
 | 0, _ => none
 | n + 1, a0 =>
   pIf a0
     (some 8)
     (some 0)
end
def zwp : LSh := ⟨[(2, (.d (.int .i64)))], [], 0, 27⟩
noncomputable def z1y : FI dat := FI.of dat 108 27 0 [(.d (.st 2))] [] [(.d (.int .i64))] [] true zwp (R := Int) (fun x => x.1) (fun r => (r, ())) (fun n x => z0e n x.1)
 (fun n => [(0, ⟨⟨[(26, (.d .bool))], [], 0, 27⟩, fun x => kzp n x.1⟩)]) (ann [(5, 0)] (Tryz.f108.body.getD .skip) 0).1
noncomputable def zyi : List (FI dat) := [z5p, z6x]
theorem y0x : (z1y).Good Tryz.prog dat (tb zyi) := FI.kz4 (hD := zz2 _) Tryz.func108 Tryz.ntmps108 Tryz.call108 (by kernel_rfl) (of_decide_eq_true (by kernel_rfl)) (by kernel_rfl) (fun n => by kernel_rfl) (fun x => by kernel_rfl) (fun _ => rfl) ⟨fun _ => rfl, trivial⟩
 (fun n => fun x => (z0e.eq_2 x.1 n).trans (by kernel_rfl))
 (fun n => ⟨fun x => (kzp.eq_2 x.1 n).trans (by kernel_rfl),
  trivial⟩)
 (fun x => .inl rfl)
theorem zw4 : OkL Tryz.prog [z1y] := kz7 (zz2 _) (bs := [z5p, z6x]) ⟨zk7, zn4, trivial⟩ y0x
theorem zdb : FOk Tryz.prog z1y := zw4.1
mutual
def z4o : Nat → zz0 → Option Bool
 | 0, _ => none
 | n + 1, a0 =>
   pIf (a0.kind == 1)
     ((z0e n a0.num).bind fun y0 =>
     pIf (y0 != 0)
       (some false)
       (kzs n (zz0.mk a0.kind (yz1.mk 0 0) a0.truth a0.str a0.list)))
     (pIf (a0.kind == 2)
       (kzs n (zz0.mk a0.kind a0.num false a0.str a0.list))
       (pIf (a0.kind == 3)
         (pIf (decide ((a0.str.length : Int) > 60))
           (some false)
           (z19 n 0 a0.re (zz0.mk a0.kind a0.num a0.truth [] a0.list)))
         (pIf (a0.kind == 4)
           (z1h n 0 a0.list (a0.list.length : Int) (zz0.mk a0.kind a0.num a0.truth a0.str []))
           (some false))))
def z19 : Nat → Int → zz0 → zz0 → Option Bool
 | 0, _, _, _ => none
 | n + 1, a0, a1, a2 =>
   pIf (decide (a0 < (a1.str.length : Int)))
     ((ix a1.str a0).bind fun x1 =>
     pIf (decide ((x1.toNat : Int) < 32))
       (z1o n a0 true a1.re a2.re)
       ((ix a1.str a0).bind fun x2 =>
       z1o n a0 (decide ((x2.toNat : Int) > 126)) a1.re a2.re))
     (kzs n a2.re)
def z1o : Nat → Int → Bool → zz0 → zz0 → Option Bool
 | 0, _, _, _, _ => none
 | n + 1, a0, a1, a2, a3 =>
   pIf a1
     (some false)
     (z19 n (IntKind.i64.wrap (a0 + 1)) a2.re a3.re)
def z1h : Nat → Int → (List zz0) → Int → zz0 → Option Bool
 | 0, _, _, _, _ => none
 | n + 1, a0, a1, a2, a3 =>
   pIf (decide (a0 < a2))
     ((ix a1 a0).bind fun x3 =>
     (z4o n x3.re).bind fun y4 =>
     pIf (!y4)
       (some false)
       (z1h n (IntKind.i64.wrap (a0 + 1)) a1 a2 a3.re))
     (kzs n a3.re)
def kzs : Nat → zz0 → Option Bool
 | 0, _ => none
 | n + 1, a0 =>
   pIf ((a0.num.num == 0) && ((a0.num.den == 0) && true))
     (pIf (!a0.truth)
       (pIf (a0.str == [])
         (some ((a0.list.length : Int) == 0))
         (some false))
       (some false))
     (some false)
end
def y5v : LSh := ⟨[(2, (.d .bool))], [], 0, 81⟩
noncomputable def z81 : FI dat := FI.of dat 80 81 0 [(.d (.st 3))] [] [(.d .bool)] [] true y5v (R := Bool) (fun x => x.1) (fun r => (r, ())) (fun n x => z4o n x.1)
 (fun n => [(0, ⟨⟨[(4, (.d (.int .i64))), (1, (.ptr 0 0)), (3, (.ptr 1 0))], [(.st 3), (.st 3)], 0, 81⟩, fun x => z19 n x.1 x.2.1 x.2.2.1⟩), (1, ⟨⟨[(1, (.ptr 0 0)), (3, (.ptr 1 0)), (4, (.d (.int .i64))), (46, (.d .bool))], [(.st 3), (.st 3)], 0, 81⟩, fun x => z1o n x.1 x.2.1 x.2.2.1 x.2.2.2.1⟩), (2, ⟨⟨[(53, (.d (.int .i64))), (51, (.d (.sl (.st 3)))), (3, (.ptr 0 0)), (52, (.d (.int .i64)))], [(.st 3)], 0, 81⟩, fun x => z1h n x.1 x.2.1 x.2.2.1 x.2.2.2.1⟩), (3, ⟨⟨[(3, (.ptr 0 0))], [(.st 3)], 0, 81⟩, fun x => kzs n x.1⟩)]) (ann [(40, 0), (51, 1), (65, 2), (87, 3)] (Tryz.f80.body.getD .skip) 0).1
noncomputable def y7f : List (FI dat) := [z81] ++ [z1y]
theorem y3x : (z81).Good Tryz.prog dat (tb y7f) := FI.kz4 (hD := zz2 _) Tryz.func80 Tryz.ntmps80 Tryz.call80 (by kernel_rfl) (of_decide_eq_true (by kernel_rfl)) (by kernel_rfl) (fun n => by kernel_rfl) (fun x => by kernel_rfl) (fun _ => rfl) ⟨fun _ => rfl, fun _ => rfl, fun _ => rfl, fun _ => rfl, trivial⟩
 (fun n => fun x => (z4o.eq_2 x.1 n).trans (by kernel_rfl))
 (fun n => ⟨fun x => (z19.eq_2 x.1 x.2.1 x.2.2.1 n).trans (by kernel_rfl),
  fun x => (z1o.eq_2 x.1 x.2.1 x.2.2.1 x.2.2.2.1 n).trans (by kernel_rfl),
  fun x => (z1h.eq_2 x.1 x.2.1 x.2.2.1 x.2.2.2.1 n).trans (by kernel_rfl),
  fun x => (kzs.eq_2 x.1 n).trans (by kernel_rfl),
  trivial⟩)
 (fun x => .inl rfl)
theorem y3e : OkL Tryz.prog [z81] := z2k (zz2 _) (bs := [z1y]) ⟨zdb, trivial⟩ ⟨y3x, trivial⟩
theorem y0c : FOk Tryz.prog z81 := y3e.1
end Go.Proofs.YtfhpamcehnfhoaaGreatDoor


namespace Go.Proofs.YtfhpamcehnfhoaaGreatDoor
open Go Go.Ab
set_option linter.unusedVariables false
set_option maxRecDepth 100000
mutual
def kzh : Nat → zz0 → Option Int
 | 0, _ => none
 | n + 1, a0 =>
   (zzt n a0.re).bind fun y0 =>
   pIf (decide (y0.1 > 100))
     (z0q n true a0.re)
     (z0q n (decide (y0.2 > 6)) a0.re)
def z0q : Nat → Bool → zz0 → Option Int
 | 0, _, _ => none
 | n + 1, a0, a1 =>
   pIf a0
     (some 4)
     ((z4o n a1.re).bind fun y1 =>
     pIf (!y1)
       (some 8)
       (some 0))
end
def zy4 : LSh := ⟨[(2, (.d (.int .i64)))], [], 0, 19⟩
noncomputable def kzf : FI dat := FI.of dat 46 19 0 [(.d (.st 3))] [] [(.d (.int .i64))] [] true zy4 (R := Int) (fun x => x.1) (fun r => (r, ())) (fun n x => kzh n x.1)
 (fun n => [(0, ⟨⟨[(1, (.ptr 0 0)), (15, (.d .bool))], [(.st 3)], 0, 19⟩, fun x => z0q n x.1 x.2.1⟩)]) (ann [(7, 0)] (Tryz.f46.body.getD .skip) 0).1
noncomputable def zxd : List (FI dat) := [z0t, z81]
theorem zxi : (kzf).Good Tryz.prog dat (tb zxd) := FI.kz4 (hD := zz2 _) Tryz.func46 Tryz.ntmps46 Tryz.call46 (by kernel_rfl) (of_decide_eq_true (by kernel_rfl)) (by kernel_rfl) (fun n => by kernel_rfl) (fun x => by kernel_rfl) (fun _ => rfl) ⟨fun _ => rfl, trivial⟩
 (fun n => fun x => (kzh.eq_2 x.1 n).trans (by kernel_rfl))
 (fun n => ⟨fun x => (z0q.eq_2 x.1 x.2.1 n).trans (by kernel_rfl),
  trivial⟩)
 (fun x => .inl rfl)
theorem zxq : OkL Tryz.prog [kzf] := kz7 (zz2 _) (bs := [z0t, z81]) ⟨zg2, y0c, trivial⟩ zxi
theorem z55 : FOk Tryz.prog kzf := zxq.1
mutual
def z4p : Nat → (List UInt8) → Option Bool
 | 0, _ => none
 | n + 1, a0 =>
   pIf ((a0.length : Int) == 0)
     (z39 n a0 true)
     (z39 n a0 (decide ((a0.length : Int) > 40)))
def z39 : Nat → (List UInt8) → Bool → Option Bool
 | 0, _, _ => none
 | n + 1, a0, a1 =>
   pIf a1
     (some false)
     (kzm n a0 0)
def kzm : Nat → (List UInt8) → Nat → Option Bool
 | 0, _, _ => none
 | n + 1, a0, a1 =>
   pIf (decide (a1 < a0.length))
     (pIf (decide (((zbi a0 a1).1 : Int) ≥ 97))
       (z1e n ((zbi a0 a1).1 : Int) (a1 : Int) (decide (((zbi a0 a1).1 : Int) ≤ 122)) a0 (a1 + (zbi a0 a1).2))
       (z1e n ((zbi a0 a1).1 : Int) (a1 : Int) false a0 (a1 + (zbi a0 a1).2)))
     (some true)
def z1e : Nat → Int → Int → Bool → (List UInt8) → Nat → Option Bool
 | 0, _, _, _, _, _ => none
 | n + 1, a0, a1, a2, a3, a4 =>
   pIf (!a2)
     (pIf (a1 == 0)
       (yzh n true a3 a4)
       (pIf (a0 != 45)
         (pIf (decide (a0 < 48))
           (yzh n true a3 a4)
           (yzh n (decide (a0 > 57)) a3 a4))
         (yzh n false a3 a4)))
     (yzh n false a3 a4)
def yzh : Nat → Bool → (List UInt8) → Nat → Option Bool
 | 0, _, _, _ => none
 | n + 1, a0, a1, a2 =>
   pIf a0
     (some false)
     (kzm n a1 a2)
end
def y7n : LSh := ⟨[(2, (.d .bool))], [], 0, 44⟩
noncomputable def z5x : FI dat := FI.of dat 45 44 0 [(.d .str)] [] [(.d .bool)] [] true y7n (R := Bool) (fun x => x.1) (fun r => (r, ())) (fun n x => z4p n x.1)
 (fun n => [(0, ⟨⟨[(0, (.d .str)), (13, (.d .bool))], [], 0, 44⟩, fun x => z39 n x.1 x.2.1⟩), (1, ⟨⟨[(15, (.ptr 0 0))], [.siter], 0, 44⟩, fun x => kzm n x.1 x.2.1⟩), (2, ⟨⟨[(15, (.ptr 0 0)), (4, (.d (.int .i32))), (3, (.d (.int .i64))), (5, (.d .bool))], [.siter], 0, 44⟩, fun x => z1e n x.1 x.2.1 x.2.2.1 x.2.2.2.1 x.2.2.2.2.1⟩), (3, ⟨⟨[(15, (.ptr 0 0)), (43, (.d .bool))], [.siter], 0, 44⟩, fun x => yzh n x.1 x.2.1 x.2.2.1⟩)]) (ann [(5, 0), (14, 1), (26, 2), (28, 3)] (Tryz.f45.body.getD .skip) 0).1
noncomputable def y3v : List (FI dat) := []
theorem y5d : (z5x).Good Tryz.prog dat (tb y3v) := FI.kz4 (hD := zz2 _) Tryz.func45 Tryz.ntmps45 Tryz.call45 (by kernel_rfl) (of_decide_eq_true (by kernel_rfl)) (by kernel_rfl) (fun n => by kernel_rfl) (fun x => by kernel_rfl) (fun _ => rfl) ⟨fun _ => rfl, fun _ => rfl, fun _ => rfl, fun _ => rfl, trivial⟩
 (fun n => fun x => (z4p.eq_2 x.1 n).trans (by kernel_rfl))
 (fun n => ⟨fun x => (z39.eq_2 x.1 x.2.1 n).trans (by kernel_rfl),
  fun x => (kzm.eq_2 x.1 x.2.1 n).trans (by kernel_rfl),
  fun x => (z1e.eq_2 x.1 x.2.1 x.2.2.1 x.2.2.2.1 x.2.2.2.2.1 n).trans (by kernel_rfl),
  fun x => (yzh.eq_2 x.1 x.2.1 x.2.2.1 n).trans (by kernel_rfl),
  trivial⟩)
 (fun x => .inl rfl)
theorem y32 : OkL Tryz.prog [z5x] := kz7 (zz2 _) (bs := []) trivial y5d
theorem zkb : FOk Tryz.prog z5x := y32.1
def z4h : Nat → (List UInt8) → Option Bool
 | 0, _ => none
 | n + 1, a0 =>
   (z4p n a0).bind fun y0 =>
   pIf y0
     (pIf (!(a0 == [116, 114, 117, 101]))
       (some (!(a0 == [102, 97, 108, 115, 101])))
       (some false))
     (some false)
def y4s : LSh := ⟨[(2, (.d .bool))], [], 0, 13⟩
noncomputable def z5o : FI dat := FI.of dat 48 13 0 [(.d .str)] [] [(.d .bool)] [] true y4s (R := Bool) (fun x => x.1) (fun r => (r, ())) (fun n x => z4h n x.1)
 (fun n => []) (ann [] (Tryz.f48.body.getD .skip) 0).1
noncomputable def y6r : List (FI dat) := [z5x]
theorem y7s : (z5o).Good Tryz.prog dat (tb y6r) := FI.kz4 (hD := zz2 _) Tryz.func48 Tryz.ntmps48 Tryz.call48 (by kernel_rfl) (of_decide_eq_true (by kernel_rfl)) (by kernel_rfl) (fun n => by kernel_rfl) (fun x => by kernel_rfl) (fun _ => rfl) trivial
 (fun n => fun x => (z4h.eq_2 x.1 n).trans (by kernel_rfl))
 (fun n => trivial)
 (fun x => .inl rfl)
theorem y6b : OkL Tryz.prog [z5o] := kz7 (zz2 _) (bs := [z5x]) ⟨zkb, trivial⟩ y7s
theorem zkp : FOk Tryz.prog z5o := y6b.1
mutual
def zzs : Nat → zz0 → zz0 → Option Bool
 | 0, _, _ => none
 | n + 1, a0, a1 =>
   pIf (a0.kind != a1.kind)
     (yzl n true a1.re a0.re)
     (pIf (!((a0.num.num == a1.num.num) && ((a0.num.den == a1.num.den) && true)))
       (yzl n true a1.re a0.re)
       (pIf (!(a0.truth == a1.truth))
         (yzl n true a1.re a0.re)
         (pIf (!(a0.str == a1.str))
           (yzl n true a1.re a0.re)
           (yzl n ((a0.list.length : Int) != (a1.list.length : Int)) a1.re a0.re))))
def yzl : Nat → Bool → zz0 → zz0 → Option Bool
 | 0, _, _, _ => none
 | n + 1, a0, a1, a2 =>
   pIf a0
     (some false)
     (z1s n 0 (a2.list.length : Int) a1.re a2.re)
def z1s : Nat → Int → Int → zz0 → zz0 → Option Bool
 | 0, _, _, _, _ => none
 | n + 1, a0, a1, a2, a3 =>
   pIf (decide (a0 < a1))
     ((ix a3.list a0).bind fun x0 =>
     (ix a2.list a0).bind fun x1 =>
     (zzs n x0.re x1.re).bind fun y2 =>
     pIf (!y2)
       (some false)
       (z1s n (IntKind.i64.wrap (a0 + 1)) a1 a2.re a3.re))
     (some true)
end
def y5f : LSh := ⟨[(4, (.d .bool))], [], 0, 60⟩
noncomputable def z22 : FI dat := FI.of dat 56 60 0 [(.d (.st 3)), (.d (.st 3))] [] [(.d .bool)] [] true y5f (R := Bool) (fun x => x.1) (fun r => (r, ())) (fun n x => zzs n x.1 x.2.1)
 (fun n => [(0, ⟨⟨[(3, (.ptr 0 0)), (2, (.ptr 1 0)), (40, (.d .bool))], [(.st 3), (.st 3)], 0, 60⟩, fun x => yzl n x.1 x.2.1 x.2.2.1⟩), (1, ⟨⟨[(44, (.d (.int .i64))), (3, (.ptr 0 0)), (2, (.ptr 1 0)), (43, (.d (.int .i64)))], [(.st 3), (.st 3)], 0, 60⟩, fun x => z1s n x.1 x.2.1 x.2.2.1 x.2.2.2.1⟩)]) (ann [(5, 0), (14, 1)] (Tryz.f56.body.getD .skip) 0).1
noncomputable def y60 : List (FI dat) := [z22] ++ []
theorem y2u : (z22).Good Tryz.prog dat (tb y60) := FI.kz4 (hD := zz2 _) Tryz.func56 Tryz.ntmps56 Tryz.call56 (by kernel_rfl) (of_decide_eq_true (by kernel_rfl)) (by kernel_rfl) (fun n => by kernel_rfl) (fun x => by kernel_rfl) (fun _ => rfl) ⟨fun _ => rfl, fun _ => rfl, trivial⟩
 (fun n => fun x => (zzs.eq_2 x.1 x.2.1 n).trans (by kernel_rfl))
 (fun n => ⟨fun x => (yzl.eq_2 x.1 x.2.1 x.2.2.1 n).trans (by kernel_rfl),
  fun x => (z1s.eq_2 x.1 x.2.1 x.2.2.1 x.2.2.2.1 n).trans (by kernel_rfl),
  trivial⟩)
 (fun x => .inl rfl)
theorem y64 : OkL Tryz.prog [z22] := z2k (zz2 _) (bs := []) trivial ⟨y2u, trivial⟩
theorem zek : FOk Tryz.prog z22 := y64.1
mutual
def z5s : Nat → zz1 → Option Bool
 | 0, _ => none
 | n + 1, a0 =>
   (z6a n a0.op).bind fun y0 =>
   pIf (y0 == (-2))
     (z0y n true a0.re)
     (pIf (decide (y0 ≥ 0))
       (z0y n ((a0.args.length : Int) != y0) a0.re)
       (z0y n false a0.re))
def z0y : Nat → Bool → zz1 → Option Bool
 | 0, _, _ => none
 | n + 1, a0, a1 =>
   pIf a0
     (some false)
     (pIf (a1.op == 1)
       ((kzh n a1.value.re).bind fun y1 =>
       pIf (y1 != 0)
         (z0v n true a1.re)
         (pIf (a1.value.kind == 4)
           (z0v n true a1.re)
           (z0v n (!(a1.name == [])) a1.re)))
       (pIf (a1.op == 2)
         ((z4h n a1.name).bind fun y2 =>
         pIf (!y2)
           (z2t n true a1.re)
           ((zzs n a1.value.re (zz0.mk 0 (yz1.mk 0 0) false [] [])).bind fun y3 =>
           z2t n (!y3) a1.re))
         (pIf (!(a1.name == []))
           (z2l n true a1.re)
           ((zzs n a1.value.re (zz0.mk 0 (yz1.mk 0 0) false [] [])).bind fun y4 =>
           z2l n (!y4) a1.re))))
def z0v : Nat → Bool → zz1 → Option Bool
 | 0, _, _ => none
 | n + 1, a0, a1 =>
   pIf a0
     (some false)
     (z0w n a1.re)
def z2t : Nat → Bool → zz1 → Option Bool
 | 0, _, _ => none
 | n + 1, a0, a1 =>
   pIf a0
     (some false)
     (z0w n a1.re)
def z2l : Nat → Bool → zz1 → Option Bool
 | 0, _, _ => none
 | n + 1, a0, a1 =>
   pIf a0
     (some false)
     (z0w n a1.re)
def z0w : Nat → zz1 → Option Bool
 | 0, _ => none
 | n + 1, a0 =>
   (zz8 n a0.args).bind fun y5 =>
   some (!y5)
def zz8 : Nat → (List zz1) → Option Bool
 | 0, _ => none
 | n + 1, a0 =>
   (zz9 n a0).bind fun y0 =>
   some (decide (y0 ≥ 0))
def zz9 : Nat → (List zz1) → Option Int
 | 0, _ => none
 | n + 1, a0 =>
   kz5 n 0 a0 (a0.length : Int)
def kz5 : Nat → Int → (List zz1) → Int → Option Int
 | 0, _, _, _ => none
 | n + 1, a0, a1, a2 =>
   pIf (decide (a0 < a2))
     ((ix a1 a0).bind fun x0 =>
     (z50 n x0.re).bind fun y1 =>
     pIf y1
       (some a0)
       (kz5 n (IntKind.i64.wrap (a0 + 1)) a1 a2))
     (some (-1))
def z50 : Nat → zz1 → Option Bool
 | 0, _ => none
 | n + 1, a0 =>
   (z5s n a0.re).bind fun y0 =>
   some (!y0)
end
def y8x : LSh := ⟨[(2, (.d .bool))], [], 0, 66⟩
noncomputable def z9n : FI dat := FI.of dat 53 66 0 [(.d (.st 4))] [] [(.d .bool)] [] true y8x (R := Bool) (fun x => x.1) (fun r => (r, ())) (fun n x => z5s n x.1)
 (fun n => [(0, ⟨⟨[(1, (.ptr 0 0)), (19, (.d .bool))], [(.st 4)], 0, 66⟩, fun x => z0y n x.1 x.2.1⟩), (1, ⟨⟨[(1, (.ptr 0 0)), (48, (.d .bool))], [(.st 4)], 0, 66⟩, fun x => z0v n x.1 x.2.1⟩), (2, ⟨⟨[(1, (.ptr 0 0)), (61, (.d .bool))], [(.st 4)], 0, 66⟩, fun x => z2t n x.1 x.2.1⟩), (3, ⟨⟨[(1, (.ptr 0 0)), (31, (.d .bool))], [(.st 4)], 0, 66⟩, fun x => z2l n x.1 x.2.1⟩), (4, ⟨⟨[(1, (.ptr 0 0))], [(.st 4)], 0, 66⟩, fun x => z0w n x.1⟩)]) (ann [(7, 0), (21, 1), (31, 2), (38, 3), (43, 4)] (Tryz.f53.body.getD .skip) 0).1
def z6v : LSh := ⟨[(4, (.d .bool))], [], 0, 9⟩
noncomputable def yzq : FI dat := FI.of dat 84 9 0 [(.d (.sl (.st 4))), (.fn 85 [] [])] [] [(.d .bool)] [] true z6v (R := Bool) (fun x => x.1) (fun r => (r, ())) (fun n x => zz8 n x.1)
 (fun n => []) (ann [] (Tryz.f84.body.getD .skip) 0).1
def z8g : LSh := ⟨[(4, (.d (.int .i64)))], [], 0, 19⟩
noncomputable def kzv : FI dat := FI.of dat 114 19 0 [(.d (.sl (.st 4))), (.fn 85 [] [])] [] [(.d (.int .i64))] [] true z8g (R := Int) (fun x => x.1) (fun r => (r, ())) (fun n x => zz9 n x.1)
 (fun n => [(0, ⟨⟨[(8, (.d (.int .i64))), (0, (.d (.sl (.st 4)))), (1, (.fn 85 [] [])), (7, (.d (.int .i64)))], [], 0, 19⟩, fun x => kz5 n x.1 x.2.1 x.2.2.1⟩)]) (ann [(6, 0)] (Tryz.f114.body.getD .skip) 0).1
def zx9 : LSh := ⟨[(2, (.d .bool))], [], 0, 6⟩
noncomputable def zeb : FI dat := FI.of dat 85 6 0 [(.d (.st 4))] [] [(.d .bool)] [] true zx9 (R := Bool) (fun x => x.1) (fun r => (r, ())) (fun n x => z50 n x.1)
 (fun n => []) (ann [] (Tryz.f85.body.getD .skip) 0).1
noncomputable def zdu : List (FI dat) := [z9n, yzq, kzv, zeb] ++ [za7, kzf, z5o, z22]
theorem yah : (z9n).Good Tryz.prog dat (tb zdu) := FI.kz4 (hD := zz2 _) Tryz.func53 Tryz.ntmps53 Tryz.call53 (by kernel_rfl) (of_decide_eq_true (by kernel_rfl)) (by kernel_rfl) (fun n => by kernel_rfl) (fun x => by kernel_rfl) (fun _ => rfl) ⟨fun _ => rfl, fun _ => rfl, fun _ => rfl, fun _ => rfl, fun _ => rfl, trivial⟩
 (fun n => fun x => (z5s.eq_2 x.1 n).trans (by kernel_rfl))
 (fun n => ⟨fun x => (z0y.eq_2 x.1 x.2.1 n).trans (by kernel_rfl),
  fun x => (z0v.eq_2 x.1 x.2.1 n).trans (by kernel_rfl),
  fun x => (z2t.eq_2 x.1 x.2.1 n).trans (by kernel_rfl),
  fun x => (z2l.eq_2 x.1 x.2.1 n).trans (by kernel_rfl),
  fun x => (z0w.eq_2 x.1 n).trans (by kernel_rfl),
  trivial⟩)
 (fun x => .inl rfl)
theorem z6u : (yzq).Good Tryz.prog dat (tb zdu) := FI.kz4 (hD := zz2 _) Tryz.func84 Tryz.ntmps84 Tryz.call84 (by kernel_rfl) (of_decide_eq_true (by kernel_rfl)) (by kernel_rfl) (fun n => by kernel_rfl) (fun x => by kernel_rfl) (fun _ => rfl) trivial
 (fun n => fun x => (zz8.eq_2 x.1 n).trans (by kernel_rfl))
 (fun n => trivial)
 (fun x => .inl rfl)
theorem z8h : (kzv).Good Tryz.prog dat (tb zdu) := FI.kz4 (hD := zz2 _) Tryz.func114 Tryz.ntmps114 Tryz.call114 (by kernel_rfl) (of_decide_eq_true (by kernel_rfl)) (by kernel_rfl) (fun n => by kernel_rfl) (fun x => by kernel_rfl) (fun _ => rfl) ⟨fun _ => rfl, trivial⟩
 (fun n => fun x => (zz9.eq_2 x.1 n).trans (by kernel_rfl))
 (fun n => ⟨fun x => (kz5.eq_2 x.1 x.2.1 x.2.2.1 n).trans (by kernel_rfl),
  trivial⟩)
 (fun x => .inl rfl)
theorem zwb : (zeb).Good Tryz.prog dat (tb zdu) := FI.kz4 (hD := zz2 _) Tryz.func85 Tryz.ntmps85 Tryz.call85 (by kernel_rfl) (of_decide_eq_true (by kernel_rfl)) (by kernel_rfl) (fun n => by kernel_rfl) (fun x => by kernel_rfl) (fun _ => rfl) trivial
 (fun n => fun x => (z50.eq_2 x.1 n).trans (by kernel_rfl))
 (fun n => trivial)
 (fun x => .inl rfl)
theorem yag : OkL Tryz.prog [z9n, yzq, kzv, zeb] := z2k (zz2 _) (bs := [za7, kzf, z5o, z22]) ⟨zxj, z55, zkp, zek, trivial⟩ ⟨yah, z6u, z8h, zwb, trivial⟩
theorem y41 : FOk Tryz.prog z9n := yag.1
end Go.Proofs.YtfhpamcehnfhoaaGreatDoor


namespace Go.Proofs.YtfhpamcehnfhoaaGreatDoor
open Go Go.Ab
set_option linter.unusedVariables false
set_option maxRecDepth 100000
mutual
def z1w : Nat → zz1 → Option Int
 | 0, _ => none
 | n + 1, a0 =>
   (z2s n a0.re).bind fun y0 =>
   pIf (decide (y0.1 > 100))
     (z16 n true a0.re)
     (z16 n (decide (y0.2 > 12)) a0.re)
def z16 : Nat → Bool → zz1 → Option Int
 | 0, _, _ => none
 | n + 1, a0, a1 =>
   pIf a0
     (some 4)
     ((z5s n a1.re).bind fun y1 =>
     pIf (!y1)
       (some 8)
       (some 0))
end
def y3r : LSh := ⟨[(2, (.d (.int .i64)))], [], 0, 19⟩
noncomputable def z2y : FI dat := FI.of dat 24 19 0 [(.d (.st 4))] [] [(.d (.int .i64))] [] true y3r (R := Int) (fun x => x.1) (fun r => (r, ())) (fun n x => z1w n x.1)
 (fun n => [(0, ⟨⟨[(1, (.ptr 0 0)), (15, (.d .bool))], [(.st 4)], 0, 19⟩, fun x => z16 n x.1 x.2.1⟩)]) (ann [(7, 0)] (Tryz.f24.body.getD .skip) 0).1
noncomputable def y6w : List (FI dat) := [z5f, z9n]
theorem y4c : (z2y).Good Tryz.prog dat (tb y6w) := FI.kz4 (hD := zz2 _) Tryz.func24 Tryz.ntmps24 Tryz.call24 (by kernel_rfl) (of_decide_eq_true (by kernel_rfl)) (by kernel_rfl) (fun n => by kernel_rfl) (fun x => by kernel_rfl) (fun _ => rfl) ⟨fun _ => rfl, trivial⟩
 (fun n => fun x => (z1w.eq_2 x.1 n).trans (by kernel_rfl))
 (fun n => ⟨fun x => (z16.eq_2 x.1 x.2.1 n).trans (by kernel_rfl),
  trivial⟩)
 (fun x => .inl rfl)
theorem y5h : OkL Tryz.prog [z2y] := kz7 (zz2 _) (bs := [z5f, z9n]) ⟨zqk, y41, trivial⟩ y4c
theorem zej : FOk Tryz.prog z2y := y5h.1
mutual
def z6y : Nat → zz0 → Option zz1
 | 0, _ => none
 | n + 1, a0 =>
   pIf (a0.kind != 4)
     (some (zz1.mk 1 a0.re [] []))
     (z3o n 0 a0.list (a0.list.length : Int) 18 0 0 0 false [] [] [] 0 0 0 0 false [] [] [] [] [])
def z3o : Nat → Int → (List zz0) → Int → Int → Int → Int → Int → Bool → (List UInt8) → (List zz0) → (List UInt8) → Int → Int → Int → Int → Bool → (List UInt8) → (List zz0) → (List UInt8) → (List zz1) → (List zz1) → Option zz1
 | 0, _, _, _, _, _, _, _, _, _, _, _, _, _, _, _, _, _, _, _, _, _ => none
 | n + 1, a0, a1, a2, a3, a4, a5, a6, a7, a8, a9, a10, a11, a12, a13, a14, a15, a16, a17, a18, a19, a20 =>
   pIf (decide (a0 < a2))
     ((ix a1 a0).bind fun x0 =>
     (z6y n x0.re).bind fun y1 =>
     (ext a19 [y1.re]).bind fun x2 =>
     z3o n (IntKind.i64.wrap (a0 + 1)) a1 a2 a3 a4 a5 a6 a7 a8 a9 a10 a11 a12 a13 a14 a15 a16 a17 a18 x2 a20)
     (some (zz1.mk a3 (zz0.mk a4 (yz1.mk a5 a6) a7 a8 a9) a10 a19))
end
def yeh : LSh := ⟨[(2, (.ptr 0 0))], [(.st 4)], 0, 28⟩
noncomputable def zb1 : FI dat := FI.of dat 51 28 0 [(.d (.st 3))] [] [(.d (.st 4))] [] true yeh (R := zz1) (fun x => x.1) (fun r => (r, ())) (fun n x => z6y n x.1)
 (fun n => [(0, ⟨⟨[(15, (.d (.int .i64))), (3, (.ptr 0 0)), (13, (.d (.sl (.st 3)))), (2, (.ptr 1 0)), (14, (.d (.int .i64)))], [(.cells [(.d (.int .u8)), (.d (.int .u8)), (.d (.int .i64)), (.d (.int .i64)), (.d .bool), (.d .str), (.d (.sl (.st 3))), (.d .str), (.own 2)]), (.cells [(.d (.int .u8)), (.d (.int .u8)), (.d (.int .i64)), (.d (.int .i64)), (.d .bool), (.d .str), (.d (.sl (.st 3))), (.d .str), (.own 3)]), (.acc 29 (.st 4) true), (.acc 29 (.st 4) true)], 0, 28⟩, fun x => z3o n x.1 x.2.1 x.2.2.1 x.2.2.2.1 x.2.2.2.2.1 x.2.2.2.2.2.1 x.2.2.2.2.2.2.1 x.2.2.2.2.2.2.2.1 x.2.2.2.2.2.2.2.2.1 x.2.2.2.2.2.2.2.2.2.1 x.2.2.2.2.2.2.2.2.2.2.1 x.2.2.2.2.2.2.2.2.2.2.2.1 x.2.2.2.2.2.2.2.2.2.2.2.2.1 x.2.2.2.2.2.2.2.2.2.2.2.2.2.1 x.2.2.2.2.2.2.2.2.2.2.2.2.2.2.1 x.2.2.2.2.2.2.2.2.2.2.2.2.2.2.2.1 x.2.2.2.2.2.2.2.2.2.2.2.2.2.2.2.2.1 x.2.2.2.2.2.2.2.2.2.2.2.2.2.2.2.2.2.1 x.2.2.2.2.2.2.2.2.2.2.2.2.2.2.2.2.2.2.1 x.2.2.2.2.2.2.2.2.2.2.2.2.2.2.2.2.2.2.2.1 x.2.2.2.2.2.2.2.2.2.2.2.2.2.2.2.2.2.2.2.2.1⟩)]) (ann [(16, 0)] (Tryz.f51.body.getD .skip) 0).1
noncomputable def yee : List (FI dat) := [zb1] ++ []
theorem yeu : (zb1).Good Tryz.prog dat (tb yee) := FI.kz4 (hD := zz2 _) Tryz.func51 Tryz.ntmps51 Tryz.call51 (by kernel_rfl) (of_decide_eq_true (by kernel_rfl)) (by kernel_rfl) (fun n => by kernel_rfl) (fun x => by kernel_rfl) (fun _ => rfl) ⟨fun _ => rfl, trivial⟩
 (fun n => fun x => (z6y.eq_2 x.1 n).trans (by kernel_rfl))
 (fun n => ⟨fun x => (z3o.eq_2 x.1 x.2.1 x.2.2.1 x.2.2.2.1 x.2.2.2.2.1 x.2.2.2.2.2.1 x.2.2.2.2.2.2.1 x.2.2.2.2.2.2.2.1 x.2.2.2.2.2.2.2.2.1 x.2.2.2.2.2.2.2.2.2.1 x.2.2.2.2.2.2.2.2.2.2.1 x.2.2.2.2.2.2.2.2.2.2.2.1 x.2.2.2.2.2.2.2.2.2.2.2.2.1 x.2.2.2.2.2.2.2.2.2.2.2.2.2.1 x.2.2.2.2.2.2.2.2.2.2.2.2.2.2.1 x.2.2.2.2.2.2.2.2.2.2.2.2.2.2.2.1 x.2.2.2.2.2.2.2.2.2.2.2.2.2.2.2.2.1 x.2.2.2.2.2.2.2.2.2.2.2.2.2.2.2.2.2.1 x.2.2.2.2.2.2.2.2.2.2.2.2.2.2.2.2.2.2.1 x.2.2.2.2.2.2.2.2.2.2.2.2.2.2.2.2.2.2.2.1 x.2.2.2.2.2.2.2.2.2.2.2.2.2.2.2.2.2.2.2.2.1 n).trans (by kernel_rfl),
  trivial⟩)
 (fun x => .inl rfl)
theorem yey : OkL Tryz.prog [zb1] := z2k (zz2 _) (bs := []) trivial ⟨yeu, trivial⟩
theorem y7z : FOk Tryz.prog zb1 := yey.1
mutual
def z57 : Nat → zz1 → (List UInt8) → Int → Int → Int → Bool → (List UInt8) → (List zz0) → Option ((List UInt8) × Int × Int × Int × Bool × (List UInt8) × (List zz0) × zz1)
 | 0, _, _, _, _, _, _, _, _ => none
 | n + 1, a0, a1, a2, a3, a4, a5, a6, a7 =>
   pIf (a0.op == 2)
     (z0j n (a0.name == a1) a1 a2 a3 a4 a5 a6 a7 (zz1.mk 0 (zz0.mk 0 (yz1.mk 0 0) false [] []) [] []) a0.re)
     (z0j n false a1 a2 a3 a4 a5 a6 a7 (zz1.mk 0 (zz0.mk 0 (yz1.mk 0 0) false [] []) [] []) a0.re)
def z0j : Nat → Bool → (List UInt8) → Int → Int → Int → Bool → (List UInt8) → (List zz0) → zz1 → zz1 → Option ((List UInt8) × Int × Int × Int × Bool × (List UInt8) × (List zz0) × zz1)
 | 0, _, _, _, _, _, _, _, _, _, _ => none
 | n + 1, a0, a1, a2, a3, a4, a5, a6, a7, a8, a9 =>
   pIf a0
     ((z6y n (zz0.mk a2 (yz1.mk a3 a4) a5 a6 a7)).bind fun y0 =>
     some (a1, a2, a3, a4, a5, a6, a7, y0.re))
     (some (a1, a2, a3, a4, a5, a6, a7, a9.re))
end
def zxy : LSh := ⟨[(4, (.ptr 2 0))], [(.cells [(.d .str)]), (.cells [(.d (.int .u8)), (.d (.int .i64)), (.d (.int .i64)), (.d .bool), (.d .str), (.d (.sl (.st 3)))]), (.st 4)], 2, 17⟩
noncomputable def z8j : FI dat := FI.of dat 50 17 2 [(.d (.st 4)), (.ptr 0 0), (.ptr 1 0)] [(.cells [(.d .str)]), (.cells [(.d (.int .u8)), (.d (.int .i64)), (.d (.int .i64)), (.d .bool), (.d .str), (.d (.sl (.st 3)))])] [(.d (.st 4))] [(.cells [(.d .str)]), (.cells [(.d (.int .u8)), (.d (.int .i64)), (.d (.int .i64)), (.d .bool), (.d .str), (.d (.sl (.st 3)))]), (.st 4)] false zxy (R := (List UInt8) × Int × Int × Int × Bool × (List UInt8) × (List zz0) × zz1) (fun x => (x.1, x.2.1, x.2.2.1, x.2.2.2.1, x.2.2.2.2.1, x.2.2.2.2.2.1, x.2.2.2.2.2.2.1, x.2.2.2.2.2.2.2.1)) (fun r => (r.2.2.2.2.2.2.2, r.1, r.2.1, r.2.2.1, r.2.2.2.1, r.2.2.2.2.1, r.2.2.2.2.2.1, r.2.2.2.2.2.2.1, r.2.2.2.2.2.2.2, ())) (fun n x => z57 n x.1 x.2.1 x.2.2.1 x.2.2.2.1 x.2.2.2.2.1 x.2.2.2.2.2.1 x.2.2.2.2.2.2.1 x.2.2.2.2.2.2.2.1)
 (fun n => [(0, ⟨⟨[(4, (.ptr 2 0)), (2, (.ptr 1 0)), (3, (.ptr 3 0)), (13, (.d .bool))], [(.cells [(.d .str)]), (.cells [(.d (.int .u8)), (.d (.int .i64)), (.d (.int .i64)), (.d .bool), (.d .str), (.d (.sl (.st 3)))]), (.st 4), (.st 4)], 2, 17⟩, fun x => z0j n x.1 x.2.1 x.2.2.1 x.2.2.2.1 x.2.2.2.2.1 x.2.2.2.2.2.1 x.2.2.2.2.2.2.1 x.2.2.2.2.2.2.2.1 x.2.2.2.2.2.2.2.2.1 x.2.2.2.2.2.2.2.2.2.1⟩)]) (ann [(5, 0)] (Tryz.f50.body.getD .skip) 0).1
noncomputable def y0p : List (FI dat) := [zb1]
theorem zyt : (z8j).Good Tryz.prog dat (tb y0p) := FI.kz4 (hD := zz2 _) Tryz.func50 Tryz.ntmps50 Tryz.call50 (by kernel_rfl) (of_decide_eq_true (by kernel_rfl)) (by kernel_rfl) (fun n => by kernel_rfl) (fun x => by kernel_rfl) (fun _ => rfl) ⟨fun _ => rfl, trivial⟩
 (fun n => fun x => (z57.eq_2 x.1 x.2.1 x.2.2.1 x.2.2.2.1 x.2.2.2.2.1 x.2.2.2.2.2.1 x.2.2.2.2.2.2.1 x.2.2.2.2.2.2.2.1 n).trans (by kernel_rfl))
 (fun n => ⟨fun x => (z0j.eq_2 x.1 x.2.1 x.2.2.1 x.2.2.2.1 x.2.2.2.2.1 x.2.2.2.2.2.1 x.2.2.2.2.2.2.1 x.2.2.2.2.2.2.2.1 x.2.2.2.2.2.2.2.2.1 x.2.2.2.2.2.2.2.2.2.1 n).trans (by kernel_rfl),
  trivial⟩)
 (fun x => .inr (by kernel_rfl))
theorem y0t : OkL Tryz.prog [z8j] := kz7 (zz2 _) (bs := [zb1]) ⟨y7z, trivial⟩ zyt
theorem ztv : FOk Tryz.prog z8j := y0t.1
mutual
def z3k : Nat → zz1 → (List UInt8) → Int → Int → Int → Bool → (List UInt8) → (List zz0) → Option ((List UInt8) × Int × Int × Int × Bool × (List UInt8) × (List zz0) × zz1)
 | 0, _, _, _, _, _, _, _, _ => none
 | n + 1, a0, a1, a2, a3, a4, a5, a6, a7 =>
   z0f n 0 a0.args (a0.args.length : Int) a1 a2 a3 a4 a5 a6 a7 a0.op a0.value.kind a0.value.num.num a0.value.num.den a0.value.truth a0.value.str a0.value.list a0.name 0 0 0 0 false [] [] [] [] []
def z0f : Nat → Int → (List zz1) → Int → (List UInt8) → Int → Int → Int → Bool → (List UInt8) → (List zz0) → Int → Int → Int → Int → Bool → (List UInt8) → (List zz0) → (List UInt8) → Int → Int → Int → Int → Bool → (List UInt8) → (List zz0) → (List UInt8) → (List zz1) → (List zz1) → Option ((List UInt8) × Int × Int × Int × Bool × (List UInt8) × (List zz0) × zz1)
 | 0, _, _, _, _, _, _, _, _, _, _, _, _, _, _, _, _, _, _, _, _, _, _, _, _, _, _, _, _ => none
 | n + 1, a0, a1, a2, a3, a4, a5, a6, a7, a8, a9, a10, a11, a12, a13, a14, a15, a16, a17, a18, a19, a20, a21, a22, a23, a24, a25, a26, a27 =>
   pIf (decide (a0 < a2))
     ((ix a1 a0).bind fun x0 =>
     (z3k n x0.re a3 a4 a5 a6 a7 a8 a9).bind fun y1 =>
     (ext a26 [y1.2.2.2.2.2.2.2.re]).bind fun x2 =>
     z0f n (IntKind.i64.wrap (a0 + 1)) a1 a2 y1.1 y1.2.1 y1.2.2.1 y1.2.2.2.1 y1.2.2.2.2.1 y1.2.2.2.2.2.1 y1.2.2.2.2.2.2.1 a10 a11 a12 a13 a14 a15 a16 a17 a18 a19 a20 a21 a22 a23 a24 a25 x2 a27)
     ((z57 n (zz1.mk a10 (zz0.mk a11 (yz1.mk a12 a13) a14 a15 a16) a17 a26) a3 a4 a5 a6 a7 a8 a9).bind fun y3 =>
     some (y3.1, y3.2.1, y3.2.2.1, y3.2.2.2.1, y3.2.2.2.2.1, y3.2.2.2.2.2.1, y3.2.2.2.2.2.2.1, y3.2.2.2.2.2.2.2.re))
end
def zyz : LSh := ⟨[(4, (.ptr 2 0))], [(.cells [(.d .str)]), (.cells [(.d (.int .u8)), (.d (.int .i64)), (.d (.int .i64)), (.d .bool), (.d .str), (.d (.sl (.st 3)))]), (.st 4)], 2, 29⟩
noncomputable def z6c : FI dat := FI.of dat 49 29 2 [(.d (.st 4)), (.fn 50 [] [(.ptr 0 0), (.ptr 1 0)])] [(.cells [(.d .str)]), (.cells [(.d (.int .u8)), (.d (.int .i64)), (.d (.int .i64)), (.d .bool), (.d .str), (.d (.sl (.st 3)))])] [(.d (.st 4))] [(.cells [(.d .str)]), (.cells [(.d (.int .u8)), (.d (.int .i64)), (.d (.int .i64)), (.d .bool), (.d .str), (.d (.sl (.st 3)))]), (.st 4)] false zyz (R := (List UInt8) × Int × Int × Int × Bool × (List UInt8) × (List zz0) × zz1) (fun x => (x.1, x.2.1, x.2.2.1, x.2.2.2.1, x.2.2.2.2.1, x.2.2.2.2.2.1, x.2.2.2.2.2.2.1, x.2.2.2.2.2.2.2.1)) (fun r => (r.2.2.2.2.2.2.2, r.1, r.2.1, r.2.2.1, r.2.2.2.1, r.2.2.2.2.1, r.2.2.2.2.2.1, r.2.2.2.2.2.2.1, r.2.2.2.2.2.2.2, ())) (fun n x => z3k n x.1 x.2.1 x.2.2.1 x.2.2.2.1 x.2.2.2.2.1 x.2.2.2.2.2.1 x.2.2.2.2.2.2.1 x.2.2.2.2.2.2.2.1)
 (fun n => [(0, ⟨⟨[(13, (.d (.int .i64))), (2, (.ptr 2 0)), (1, (.fn 50 [] [(.ptr 0 0), (.ptr 1 0)])), (11, (.d (.sl (.st 4)))), (4, (.ptr 3 0)), (12, (.d (.int .i64)))], [(.cells [(.d .str)]), (.cells [(.d (.int .u8)), (.d (.int .i64)), (.d (.int .i64)), (.d .bool), (.d .str), (.d (.sl (.st 3)))]), (.cells [(.d (.int .u8)), (.d (.int .u8)), (.d (.int .i64)), (.d (.int .i64)), (.d .bool), (.d .str), (.d (.sl (.st 3))), (.d .str), (.own 4)]), (.cells [(.d (.int .u8)), (.d (.int .u8)), (.d (.int .i64)), (.d (.int .i64)), (.d .bool), (.d .str), (.d (.sl (.st 3))), (.d .str), (.own 5)]), (.acc 29 (.st 4) true), (.acc 29 (.st 4) true)], 2, 29⟩, fun x => z0f n x.1 x.2.1 x.2.2.1 x.2.2.2.1 x.2.2.2.2.1 x.2.2.2.2.2.1 x.2.2.2.2.2.2.1 x.2.2.2.2.2.2.2.1 x.2.2.2.2.2.2.2.2.1 x.2.2.2.2.2.2.2.2.2.1 x.2.2.2.2.2.2.2.2.2.2.1 x.2.2.2.2.2.2.2.2.2.2.2.1 x.2.2.2.2.2.2.2.2.2.2.2.2.1 x.2.2.2.2.2.2.2.2.2.2.2.2.2.1 x.2.2.2.2.2.2.2.2.2.2.2.2.2.2.1 x.2.2.2.2.2.2.2.2.2.2.2.2.2.2.2.1 x.2.2.2.2.2.2.2.2.2.2.2.2.2.2.2.2.1 x.2.2.2.2.2.2.2.2.2.2.2.2.2.2.2.2.2.1 x.2.2.2.2.2.2.2.2.2.2.2.2.2.2.2.2.2.2.1 x.2.2.2.2.2.2.2.2.2.2.2.2.2.2.2.2.2.2.2.1 x.2.2.2.2.2.2.2.2.2.2.2.2.2.2.2.2.2.2.2.2.1 x.2.2.2.2.2.2.2.2.2.2.2.2.2.2.2.2.2.2.2.2.2.1 x.2.2.2.2.2.2.2.2.2.2.2.2.2.2.2.2.2.2.2.2.2.2.1 x.2.2.2.2.2.2.2.2.2.2.2.2.2.2.2.2.2.2.2.2.2.2.2.1 x.2.2.2.2.2.2.2.2.2.2.2.2.2.2.2.2.2.2.2.2.2.2.2.2.1 x.2.2.2.2.2.2.2.2.2.2.2.2.2.2.2.2.2.2.2.2.2.2.2.2.2.1 x.2.2.2.2.2.2.2.2.2.2.2.2.2.2.2.2.2.2.2.2.2.2.2.2.2.2.1 x.2.2.2.2.2.2.2.2.2.2.2.2.2.2.2.2.2.2.2.2.2.2.2.2.2.2.2.1⟩)]) (ann [(10, 0)] (Tryz.f49.body.getD .skip) 0).1
noncomputable def zwz : List (FI dat) := [z6c] ++ [z8j]
theorem y01 : (z6c).Good Tryz.prog dat (tb zwz) := FI.kz4 (hD := zz2 _) Tryz.func49 Tryz.ntmps49 Tryz.call49 (by kernel_rfl) (of_decide_eq_true (by kernel_rfl)) (by kernel_rfl) (fun n => by kernel_rfl) (fun x => by kernel_rfl) (fun _ => rfl) ⟨fun _ => rfl, trivial⟩
 (fun n => fun x => (z3k.eq_2 x.1 x.2.1 x.2.2.1 x.2.2.2.1 x.2.2.2.2.1 x.2.2.2.2.2.1 x.2.2.2.2.2.2.1 x.2.2.2.2.2.2.2.1 n).trans (by kernel_rfl))
 (fun n => ⟨fun x => (z0f.eq_2 x.1 x.2.1 x.2.2.1 x.2.2.2.1 x.2.2.2.2.1 x.2.2.2.2.2.1 x.2.2.2.2.2.2.1 x.2.2.2.2.2.2.2.1 x.2.2.2.2.2.2.2.2.1 x.2.2.2.2.2.2.2.2.2.1 x.2.2.2.2.2.2.2.2.2.2.1 x.2.2.2.2.2.2.2.2.2.2.2.1 x.2.2.2.2.2.2.2.2.2.2.2.2.1 x.2.2.2.2.2.2.2.2.2.2.2.2.2.1 x.2.2.2.2.2.2.2.2.2.2.2.2.2.2.1 x.2.2.2.2.2.2.2.2.2.2.2.2.2.2.2.1 x.2.2.2.2.2.2.2.2.2.2.2.2.2.2.2.2.1 x.2.2.2.2.2.2.2.2.2.2.2.2.2.2.2.2.2.1 x.2.2.2.2.2.2.2.2.2.2.2.2.2.2.2.2.2.2.1 x.2.2.2.2.2.2.2.2.2.2.2.2.2.2.2.2.2.2.2.1 x.2.2.2.2.2.2.2.2.2.2.2.2.2.2.2.2.2.2.2.2.1 x.2.2.2.2.2.2.2.2.2.2.2.2.2.2.2.2.2.2.2.2.2.1 x.2.2.2.2.2.2.2.2.2.2.2.2.2.2.2.2.2.2.2.2.2.2.1 x.2.2.2.2.2.2.2.2.2.2.2.2.2.2.2.2.2.2.2.2.2.2.2.1 x.2.2.2.2.2.2.2.2.2.2.2.2.2.2.2.2.2.2.2.2.2.2.2.2.1 x.2.2.2.2.2.2.2.2.2.2.2.2.2.2.2.2.2.2.2.2.2.2.2.2.2.1 x.2.2.2.2.2.2.2.2.2.2.2.2.2.2.2.2.2.2.2.2.2.2.2.2.2.2.1 x.2.2.2.2.2.2.2.2.2.2.2.2.2.2.2.2.2.2.2.2.2.2.2.2.2.2.2.1 n).trans (by kernel_rfl),
  trivial⟩)
 (fun x => .inr (by kernel_rfl))
theorem zx8 : OkL Tryz.prog [z6c] := z2k (zz2 _) (bs := [z8j]) ⟨ztv, trivial⟩ ⟨y01, trivial⟩
theorem zuv : FOk Tryz.prog z6c := zx8.1
end Go.Proofs.YtfhpamcehnfhoaaGreatDoor


namespace Go.Proofs.YtfhpamcehnfhoaaGreatDoor
open Go Go.Ab
set_option linter.unusedVariables false
set_option maxRecDepth 100000
mutual
def z7q : Nat → zz1 → (List UInt8) → zz0 → Option (Int × zz1)
 | 0, _, _, _ => none
 | n + 1, a0, a1, a2 =>
   (z1w n a0.re).bind fun y0 =>
   pIf (y0 != 0)
     (some (y0, (zz1.mk 0 (zz0.mk 0 (yz1.mk 0 0) false [] []) [] [])))
     ((z4h n a1).bind fun y1 =>
     pIf (!y1)
       (z2m n true (zz1.mk 0 (zz0.mk 0 (yz1.mk 0 0) false [] []) [] []) a1 a2.re a0.re)
       ((kzh n a2.re).bind fun y2 =>
       z2m n (y2 != 0) (zz1.mk 0 (zz0.mk 0 (yz1.mk 0 0) false [] []) [] []) a1 a2.re a0.re))
def z2m : Nat → Bool → zz1 → (List UInt8) → zz0 → zz1 → Option (Int × zz1)
 | 0, _, _, _, _, _ => none
 | n + 1, a0, a1, a2, a3, a4 =>
   pIf a0
     (some (8, (zz1.mk 0 (zz0.mk 0 (yz1.mk 0 0) false [] []) [] [])))
     ((z3k n a4.re a2 a3.kind a3.num.num a3.num.den a3.truth a3.str a3.list).bind fun y3 =>
     (z1w n y3.2.2.2.2.2.2.2.re).bind fun y4 =>
     pIf (y4 != 0)
       (some (y4, (zz1.mk 0 (zz0.mk 0 (yz1.mk 0 0) false [] []) [] [])))
       (some (0, y3.2.2.2.2.2.2.2.re)))
end
def ybl : LSh := ⟨[(6, (.ptr 0 0)), (7, (.d (.int .i64)))], [(.st 4)], 0, 36⟩
noncomputable def zbt : FI dat := FI.of dat 22 36 0 [(.d (.st 4)), (.d .str), (.d (.st 3))] [] [(.d (.st 4)), (.d (.int .i64))] [] true ybl (R := Int × zz1) (fun x => (x.1, x.2.1)) (fun r => (r.2, r.1, ())) (fun n x => z7q n x.1 x.2.1 x.2.2.1)
 (fun n => [(0, ⟨⟨[(6, (.ptr 0 0)), (4, (.ptr 1 0)), (5, (.ptr 2 0)), (3, (.ptr 3 0)), (24, (.d .bool))], [(.st 4), (.cells [(.d .str)]), (.st 3), (.st 4)], 0, 36⟩, fun x => z2m n x.1 x.2.1 x.2.2.1 x.2.2.2.1 x.2.2.2.2.1⟩)]) (ann [(15, 0)] (Tryz.f22.body.getD .skip) 0).1
noncomputable def y92 : List (FI dat) := [z2y, z5o, kzf, z6c]
theorem yai : (zbt).Good Tryz.prog dat (tb y92) := FI.kz4 (hD := zz2 _) Tryz.func22 Tryz.ntmps22 Tryz.call22 (by kernel_rfl) (of_decide_eq_true (by kernel_rfl)) (by kernel_rfl) (fun n => by kernel_rfl) (fun x => by kernel_rfl) (fun _ => rfl) ⟨fun _ => rfl, trivial⟩
 (fun n => fun x => (z7q.eq_2 x.1 x.2.1 x.2.2.1 n).trans (by kernel_rfl))
 (fun n => ⟨fun x => (z2m.eq_2 x.1 x.2.1 x.2.2.1 x.2.2.2.1 x.2.2.2.2.1 n).trans (by kernel_rfl),
  trivial⟩)
 (fun x => .inl rfl)
theorem ybo : OkL Tryz.prog [zbt] := kz7 (zz2 _) (bs := [z2y, z5o, kzf, z6c]) ⟨zej, zkp, z55, zuv, trivial⟩ yai
theorem y62 : FOk Tryz.prog zbt := ybo.1
def z5a : Nat → yz4 → Int → Int → Int → Int → Bool → (List UInt8) → (List zz0) → (List UInt8) → (List zz1) → Option (Bool × Int × Int × Int × Int × Bool × (List UInt8) × (List zz0) × (List UInt8) × (List zz1))
 | 0, _, _, _, _, _, _, _, _, _, _ => none
 | n + 1, a0, a1, a2, a3, a4, a5, a6, a7, a8, a9 =>
   some ((a0.name == a8), a1, a2, a3, a4, a5, a6, a7, a8, a9)
def y0e : LSh := ⟨[(3, (.d .bool))], [(.cells [(.d (.int .u8)), (.d (.int .u8)), (.d (.int .i64)), (.d (.int .i64)), (.d .bool), (.d .str), (.d (.sl (.st 3))), (.d .str), (.d (.sl (.st 4)))])], 1, 9⟩
noncomputable def z8l : FI dat := FI.of dat 111 9 1 [(.d (.st 5)), (.ptr 0 0)] [(.cells [(.d (.int .u8)), (.d (.int .u8)), (.d (.int .i64)), (.d (.int .i64)), (.d .bool), (.d .str), (.d (.sl (.st 3))), (.d .str), (.d (.sl (.st 4)))])] [(.d .bool)] [(.cells [(.d (.int .u8)), (.d (.int .u8)), (.d (.int .i64)), (.d (.int .i64)), (.d .bool), (.d .str), (.d (.sl (.st 3))), (.d .str), (.d (.sl (.st 4)))])] false y0e (R := Bool × Int × Int × Int × Int × Bool × (List UInt8) × (List zz0) × (List UInt8) × (List zz1)) (fun x => (x.1, x.2.1, x.2.2.1, x.2.2.2.1, x.2.2.2.2.1, x.2.2.2.2.2.1, x.2.2.2.2.2.2.1, x.2.2.2.2.2.2.2.1, x.2.2.2.2.2.2.2.2.1, x.2.2.2.2.2.2.2.2.2.1)) (fun r => (r.1, r.2.1, r.2.2.1, r.2.2.2.1, r.2.2.2.2.1, r.2.2.2.2.2.1, r.2.2.2.2.2.2.1, r.2.2.2.2.2.2.2.1, r.2.2.2.2.2.2.2.2.1, r.2.2.2.2.2.2.2.2.2, ())) (fun n x => z5a n x.1 x.2.1 x.2.2.1 x.2.2.2.1 x.2.2.2.2.1 x.2.2.2.2.2.1 x.2.2.2.2.2.2.1 x.2.2.2.2.2.2.2.1 x.2.2.2.2.2.2.2.2.1 x.2.2.2.2.2.2.2.2.2.1)
 (fun n => []) (ann [] (Tryz.f111.body.getD .skip) 0).1
noncomputable def y0w : List (FI dat) := []
theorem zvw : (z8l).Good Tryz.prog dat (tb y0w) := FI.kz4 (hD := zz2 _) Tryz.func111 Tryz.ntmps111 Tryz.call111 (by kernel_rfl) (of_decide_eq_true (by kernel_rfl)) (by kernel_rfl) (fun n => by kernel_rfl) (fun x => by kernel_rfl) (fun _ => rfl) trivial
 (fun n => fun x => (z5a.eq_2 x.1 x.2.1 x.2.2.1 x.2.2.2.1 x.2.2.2.2.1 x.2.2.2.2.2.1 x.2.2.2.2.2.2.1 x.2.2.2.2.2.2.2.1 x.2.2.2.2.2.2.2.2.1 x.2.2.2.2.2.2.2.2.2.1 n).trans (by kernel_rfl))
 (fun n => trivial)
 (fun x => .inr (by kernel_rfl))
theorem zwq : OkL Tryz.prog [z8l] := kz7 (zz2 _) (bs := []) trivial zvw
theorem zul : FOk Tryz.prog z8l := zwq.1
mutual
def yz9 : Nat → (List yz4) → Int → Int → Int → Int → Bool → (List UInt8) → (List zz0) → (List UInt8) → (List zz1) → Option (Int × Int × Int × Int × Int × Bool × (List UInt8) × (List zz0) × (List UInt8) × (List zz1))
 | 0, _, _, _, _, _, _, _, _, _, _ => none
 | n + 1, a0, a1, a2, a3, a4, a5, a6, a7, a8, a9 =>
   zz6 n 0 a0 (a0.length : Int) a1 a2 a3 a4 a5 a6 a7 a8 a9
def zz6 : Nat → Int → (List yz4) → Int → Int → Int → Int → Int → Bool → (List UInt8) → (List zz0) → (List UInt8) → (List zz1) → Option (Int × Int × Int × Int × Int × Bool × (List UInt8) × (List zz0) × (List UInt8) × (List zz1))
 | 0, _, _, _, _, _, _, _, _, _, _, _, _ => none
 | n + 1, a0, a1, a2, a3, a4, a5, a6, a7, a8, a9, a10, a11 =>
   pIf (decide (a0 < a2))
     ((ix a1 a0).bind fun x0 =>
     (z5a n x0.re a3 a4 a5 a6 a7 a8 a9 a10 a11).bind fun y1 =>
     pIf y1.1
       (some (a0, y1.2.1, y1.2.2.1, y1.2.2.2.1, y1.2.2.2.2.1, y1.2.2.2.2.2.1, y1.2.2.2.2.2.2.1, y1.2.2.2.2.2.2.2.1, y1.2.2.2.2.2.2.2.2.1, y1.2.2.2.2.2.2.2.2.2))
       (zz6 n (IntKind.i64.wrap (a0 + 1)) a1 a2 y1.2.1 y1.2.2.1 y1.2.2.2.1 y1.2.2.2.2.1 y1.2.2.2.2.2.1 y1.2.2.2.2.2.2.1 y1.2.2.2.2.2.2.2.1 y1.2.2.2.2.2.2.2.2.1 y1.2.2.2.2.2.2.2.2.2))
     (some ((-1), a3, a4, a5, a6, a7, a8, a9, a10, a11))
end
def z8c : LSh := ⟨[(4, (.d (.int .i64)))], [(.cells [(.d (.int .u8)), (.d (.int .u8)), (.d (.int .i64)), (.d (.int .i64)), (.d .bool), (.d .str), (.d (.sl (.st 3))), (.d .str), (.d (.sl (.st 4)))])], 1, 19⟩
noncomputable def kzc : FI dat := FI.of dat 110 19 1 [(.d (.sl (.st 5))), (.fn 111 [] [(.ptr 0 0)])] [(.cells [(.d (.int .u8)), (.d (.int .u8)), (.d (.int .i64)), (.d (.int .i64)), (.d .bool), (.d .str), (.d (.sl (.st 3))), (.d .str), (.d (.sl (.st 4)))])] [(.d (.int .i64))] [(.cells [(.d (.int .u8)), (.d (.int .u8)), (.d (.int .i64)), (.d (.int .i64)), (.d .bool), (.d .str), (.d (.sl (.st 3))), (.d .str), (.d (.sl (.st 4)))])] false z8c (R := Int × Int × Int × Int × Int × Bool × (List UInt8) × (List zz0) × (List UInt8) × (List zz1)) (fun x => (x.1, x.2.1, x.2.2.1, x.2.2.2.1, x.2.2.2.2.1, x.2.2.2.2.2.1, x.2.2.2.2.2.2.1, x.2.2.2.2.2.2.2.1, x.2.2.2.2.2.2.2.2.1, x.2.2.2.2.2.2.2.2.2.1)) (fun r => (r.1, r.2.1, r.2.2.1, r.2.2.2.1, r.2.2.2.2.1, r.2.2.2.2.2.1, r.2.2.2.2.2.2.1, r.2.2.2.2.2.2.2.1, r.2.2.2.2.2.2.2.2.1, r.2.2.2.2.2.2.2.2.2, ())) (fun n x => yz9 n x.1 x.2.1 x.2.2.1 x.2.2.2.1 x.2.2.2.2.1 x.2.2.2.2.2.1 x.2.2.2.2.2.2.1 x.2.2.2.2.2.2.2.1 x.2.2.2.2.2.2.2.2.1 x.2.2.2.2.2.2.2.2.2.1)
 (fun n => [(0, ⟨⟨[(8, (.d (.int .i64))), (0, (.d (.sl (.st 5)))), (1, (.fn 111 [] [(.ptr 0 0)])), (7, (.d (.int .i64)))], [(.cells [(.d (.int .u8)), (.d (.int .u8)), (.d (.int .i64)), (.d (.int .i64)), (.d .bool), (.d .str), (.d (.sl (.st 3))), (.d .str), (.d (.sl (.st 4)))])], 1, 19⟩, fun x => zz6 n x.1 x.2.1 x.2.2.1 x.2.2.2.1 x.2.2.2.2.1 x.2.2.2.2.2.1 x.2.2.2.2.2.2.1 x.2.2.2.2.2.2.2.1 x.2.2.2.2.2.2.2.2.1 x.2.2.2.2.2.2.2.2.2.1 x.2.2.2.2.2.2.2.2.2.2.1 x.2.2.2.2.2.2.2.2.2.2.2.1⟩)]) (ann [(6, 0)] (Tryz.f110.body.getD .skip) 0).1
noncomputable def z8f : List (FI dat) := [z8l]
theorem z8i : (kzc).Good Tryz.prog dat (tb z8f) := FI.kz4 (hD := zz2 _) Tryz.func110 Tryz.ntmps110 Tryz.call110 (by kernel_rfl) (of_decide_eq_true (by kernel_rfl)) (by kernel_rfl) (fun n => by kernel_rfl) (fun x => by kernel_rfl) (fun _ => rfl) ⟨fun _ => rfl, trivial⟩
 (fun n => fun x => (yz9.eq_2 x.1 x.2.1 x.2.2.1 x.2.2.2.1 x.2.2.2.2.1 x.2.2.2.2.2.1 x.2.2.2.2.2.2.1 x.2.2.2.2.2.2.2.1 x.2.2.2.2.2.2.2.2.1 x.2.2.2.2.2.2.2.2.2.1 n).trans (by kernel_rfl))
 (fun n => ⟨fun x => (zz6.eq_2 x.1 x.2.1 x.2.2.1 x.2.2.2.1 x.2.2.2.2.1 x.2.2.2.2.2.1 x.2.2.2.2.2.2.1 x.2.2.2.2.2.2.2.1 x.2.2.2.2.2.2.2.2.1 x.2.2.2.2.2.2.2.2.2.1 x.2.2.2.2.2.2.2.2.2.2.1 x.2.2.2.2.2.2.2.2.2.2.2.1 n).trans (by kernel_rfl),
  trivial⟩)
 (fun x => .inr (by kernel_rfl))
theorem z8b : OkL Tryz.prog [kzc] := kz7 (zz2 _) (bs := [z8l]) ⟨zul, trivial⟩ z8i
theorem z7r : FOk Tryz.prog kzc := z8b.1
def yzg : Nat → Int → Option (Res (Int × Unit) Unit)
 | 0, _ => none
 | n + 1, a0 =>
   pIf (a0 != 0)
     (some (Res.pan (a0, ())))
     (some (Res.ok ()))
def ybj : LSh := ⟨[], [], 0, 6⟩
noncomputable def z2e : FI dat := FI.ofP dat 74 6 0 [(.d (.int .i64))] [] [] [] (.iface 31 (.d (.int .i64))) [] [] ybj (R := Unit) (fun x => ()) (fun _ => ()) (fun n x => yzg n x.1)
 (fun n => []) (ann [] (Tryz.f74.body.getD .skip) 0).1
noncomputable def yb5 : List (FI dat) := []
theorem y9d : (z2e).Good Tryz.prog dat (tb yb5) := FI.zht (hD := zz2 _) Tryz.func74 Tryz.ntmps74 Tryz.call74 (by kernel_rfl) (of_decide_eq_true (by kernel_rfl)) (by kernel_rfl) (fun n => by kernel_rfl) trivial (fun x => by kernel_rfl) (fun _ => rfl) trivial
 (fun n => fun x => (yzg.eq_2 x.1 n).trans (by kernel_rfl))
 (fun n => trivial)
 (fun x => by kernel_rfl)
theorem y9o : OkL Tryz.prog [z2e] := kz7 (zz2 _) (bs := []) trivial y9d
theorem zcq : FOk Tryz.prog z2e := y9o.1
mutual
def zzd : Nat → Int → (List zz0) → Option (Res (Int × Unit) Unit)
 | 0, _, _ => none
 | n + 1, a0, a1 =>
   z2q n 0 a0 a1 (a1.length : Int)
def z2q : Nat → Int → Int → (List zz0) → Int → Option (Res (Int × Unit) Unit)
 | 0, _, _, _, _ => none
 | n + 1, a0, a1, a2, a3 =>
   pIf (decide (a0 < a3))
     ((ix a2 a0).bind fun x0 =>
     pIf (x0.kind != a1)
       ((yzg n 20).bind fun y1 =>
       z6s y1 (fun r2 =>
         z44 n a1 a2 a3 a0)
         (fun e3 =>
         some (Res.pan (e3.1, ()))))
       (z44 n a1 a2 a3 a0))
     (some (Res.ok ()))
def z44 : Nat → Int → (List zz0) → Int → Int → Option (Res (Int × Unit) Unit)
 | 0, _, _, _, _ => none
 | n + 1, a0, a1, a2, a3 =>
   z2q n (IntKind.i64.wrap (a3 + 1)) a0 a1 a2
end
def y8o : LSh := ⟨[], [], 0, 18⟩
noncomputable def z71 : FI dat := FI.ofP dat 112 18 0 [(.d (.int .u8)), (.d (.sl (.st 3)))] [] [] [] (.iface 31 (.d (.int .i64))) [] [] y8o (R := Unit) (fun x => ()) (fun _ => ()) (fun n x => zzd n x.1 x.2.1)
 (fun n => [(0, ⟨⟨[(8, (.d (.int .i64))), (0, (.d (.int .u8))), (6, (.d (.sl (.st 3)))), (7, (.d (.int .i64)))], [], 0, 18⟩, fun x => z2q n x.1 x.2.1 x.2.2.1 x.2.2.2.1⟩), (1, ⟨⟨[(0, (.d (.int .u8))), (6, (.d (.sl (.st 3)))), (7, (.d (.int .i64))), (8, (.d (.int .i64)))], [], 0, 18⟩, fun x => z44 n x.1 x.2.1 x.2.2.1 x.2.2.2.1⟩)]) (ann [(3, 0), (19, 1)] (Tryz.f112.body.getD .skip) 0).1
noncomputable def ya8 : List (FI dat) := [z2e]
theorem yb0 : (z71).Good Tryz.prog dat (tb ya8) := FI.zht (hD := zz2 _) Tryz.func112 Tryz.ntmps112 Tryz.call112 (by kernel_rfl) (of_decide_eq_true (by kernel_rfl)) (by kernel_rfl) (fun n => by kernel_rfl) trivial (fun x => by kernel_rfl) (fun _ => rfl) ⟨fun _ => rfl, fun _ => rfl, trivial⟩
 (fun n => fun x => (zzd.eq_2 x.1 x.2.1 n).trans (by kernel_rfl))
 (fun n => ⟨fun x => (z2q.eq_2 x.1 x.2.1 x.2.2.1 x.2.2.2.1 n).trans (by kernel_rfl),
  fun x => (z44.eq_2 x.1 x.2.1 x.2.2.1 x.2.2.2.1 n).trans (by kernel_rfl),
  trivial⟩)
 (fun x => by kernel_rfl)
theorem yam : OkL Tryz.prog [z71] := kz7 (zz2 _) (bs := [z2e]) ⟨zcq, trivial⟩ yb0
theorem zn0 : FOk Tryz.prog z71 := yam.1
def z4n : Nat → zz0 → zz0 → Option Int
 | 0, _, _ => none
 | n + 1, a0, a1 =>
   (kzh n a0.re).bind fun y0 =>
   pIf (y0 != 0)
     (some y0)
     ((kzh n a1.re).bind fun y1 =>
     some y1)
def y4j : LSh := ⟨[(4, (.d (.int .i64)))], [], 0, 13⟩
noncomputable def z5t : FI dat := FI.of dat 166 13 0 [(.d (.st 3)), (.d (.st 3))] [] [(.d (.int .i64))] [] true y4j (R := Int) (fun x => x.1) (fun r => (r, ())) (fun n x => z4n n x.1 x.2.1)
 (fun n => []) (ann [] (Tryz.f166.body.getD .skip) 0).1
noncomputable def y5u : List (FI dat) := [kzf]
theorem y5q : (z5t).Good Tryz.prog dat (tb y5u) := FI.kz4 (hD := zz2 _) Tryz.func166 Tryz.ntmps166 Tryz.call166 (by kernel_rfl) (of_decide_eq_true (by kernel_rfl)) (by kernel_rfl) (fun n => by kernel_rfl) (fun x => by kernel_rfl) (fun _ => rfl) trivial
 (fun n => fun x => (z4n.eq_2 x.1 x.2.1 n).trans (by kernel_rfl))
 (fun n => trivial)
 (fun x => .inl rfl)
theorem y4a : OkL Tryz.prog [z5t] := kz7 (zz2 _) (bs := [kzf]) ⟨z55, trivial⟩ y5q
theorem zkf : FOk Tryz.prog z5t := y4a.1
end Go.Proofs.YtfhpamcehnfhoaaGreatDoor


namespace Go.Proofs.YtfhpamcehnfhoaaGreatDoor
open Go Go.Ab
set_option linter.unusedVariables false
set_option maxRecDepth 100000
mutual
def z0s : Nat → (List Int) → Option Int
 | 0, _ => none
 | n + 1, a0 =>
   yzt n 0 0 a0 (a0.length : Int)
def yzt : Nat → Int → Int → (List Int) → Int → Option Int
 | 0, _, _, _, _ => none
 | n + 1, a0, a1, a2, a3 =>
   pIf (decide (a0 < a3))
     ((ix a2 a0).bind fun x0 =>
     pIf (x0 != a1)
       (some x0)
       (yzt n (IntKind.i64.wrap (a0 + 1)) a1 a2 a3))
     (some a1)
end
def zl7 : LSh := ⟨[(2, (.d (.int .i64)))], [], 0, 18⟩
noncomputable def z3i : FI dat := FI.of dat 193 18 0 [(.d (.sl (.int .i64)))] [] [(.d (.int .i64))] [] true zl7 (R := Int) (fun x => x.1) (fun r => (r, ())) (fun n x => z0s n x.1)
 (fun n => [(0, ⟨⟨[(8, (.d (.int .i64))), (3, (.d (.int .i64))), (6, (.d (.sl (.int .i64)))), (7, (.d (.int .i64)))], [], 0, 18⟩, fun x => yzt n x.1 x.2.1 x.2.2.1 x.2.2.2.1⟩)]) (ann [(8, 0)] (Tryz.f193.body.getD .skip) 0).1
noncomputable def zlk : List (FI dat) := []
theorem zkw : (z3i).Good Tryz.prog dat (tb zlk) := FI.kz4 (hD := zz2 _) Tryz.func193 Tryz.ntmps193 Tryz.call193 (by kernel_rfl) (of_decide_eq_true (by kernel_rfl)) (by kernel_rfl) (fun n => by kernel_rfl) (fun x => by kernel_rfl) (fun _ => rfl) ⟨fun _ => rfl, trivial⟩
 (fun n => fun x => (z0s.eq_2 x.1 n).trans (by kernel_rfl))
 (fun n => ⟨fun x => (yzt.eq_2 x.1 x.2.1 x.2.2.1 x.2.2.2.1 n).trans (by kernel_rfl),
  trivial⟩)
 (fun x => .inl rfl)
theorem zll : OkL Tryz.prog [z3i] := kz7 (zz2 _) (bs := []) trivial zkw
theorem zjs : FOk Tryz.prog z3i := zll.1
def yzy : Nat → yz1 → yz1 → Option yzx
 | 0, _, _ => none
 | n + 1, a0, a1 =>
   (z0e n a0).bind fun y0 =>
   (z0e n a1).bind fun y1 =>
   (z0s n [y0, y1]).bind fun y2 =>
   some (yzx.mk a0 a1 (yz1.mk 0 0) y2)
def y4q : LSh := ⟨[(4, (.ptr 0 0))], [(.st 8)], 0, 14⟩
noncomputable def kzt : FI dat := FI.of dat 182 14 0 [(.d (.st 2)), (.d (.st 2))] [] [(.d (.st 8))] [] true y4q (R := yzx) (fun x => x.1) (fun r => (r, ())) (fun n x => yzy n x.1 x.2.1)
 (fun n => []) (ann [] (Tryz.f182.body.getD .skip) 0).1
noncomputable def y6y : List (FI dat) := [z1y, z3i]
theorem y53 : (kzt).Good Tryz.prog dat (tb y6y) := FI.kz4 (hD := zz2 _) Tryz.func182 Tryz.ntmps182 Tryz.call182 (by kernel_rfl) (of_decide_eq_true (by kernel_rfl)) (by kernel_rfl) (fun n => by kernel_rfl) (fun x => by kernel_rfl) (fun _ => rfl) trivial
 (fun n => fun x => (yzy.eq_2 x.1 x.2.1 n).trans (by kernel_rfl))
 (fun n => trivial)
 (fun x => .inl rfl)
theorem y3s : OkL Tryz.prog [kzt] := kz7 (zz2 _) (bs := [z1y, z3i]) ⟨zdb, zjs, trivial⟩ y53
theorem z97 : FOk Tryz.prog kzt := y3s.1
def z5c : Nat → yz1 → yz1 → Option (Int × Int)
 | 0, _, _ => none
 | n + 1, a0, a1 =>
   some ((IntKind.i64.wrap ((IntKind.i64.wrap (a0.num * a1.den)) + (IntKind.i64.wrap (a1.num * a0.den)))), (IntKind.i64.wrap (a0.den * a1.den)))
def zyd : LSh := ⟨[(4, (.d (.int .i64))), (5, (.d (.int .i64)))], [], 0, 22⟩
noncomputable def z8r : FI dat := FI.of dat 181 22 0 [(.d (.st 2)), (.d (.st 2))] [] [(.d (.int .i64)), (.d (.int .i64))] [] true zyd (R := Int × Int) (fun x => (x.1, x.2.1)) (fun r => (r.1, r.2, ())) (fun n x => z5c n x.1 x.2.1)
 (fun n => []) (ann [] (Tryz.f181.body.getD .skip) 0).1
noncomputable def zvv : List (FI dat) := []
theorem zwx : (z8r).Good Tryz.prog dat (tb zvv) := FI.kz4 (hD := zz2 _) Tryz.func181 Tryz.ntmps181 Tryz.call181 (by kernel_rfl) (of_decide_eq_true (by kernel_rfl)) (by kernel_rfl) (fun n => by kernel_rfl) (fun x => by kernel_rfl) (fun _ => rfl) trivial
 (fun n => fun x => (z5c.eq_2 x.1 x.2.1 n).trans (by kernel_rfl))
 (fun n => trivial)
 (fun x => .inl rfl)
theorem zyo : OkL Tryz.prog [z8r] := kz7 (zz2 _) (bs := []) trivial zwx
theorem zum : FOk Tryz.prog z8r := zyo.1
mutual
def z0c : Nat → Int → Int → Option (Int × yz1)
 | 0, _, _ => none
 | n + 1, a0, a1 =>
   pIf (a1 == 0)
     (some (18, (yz1.mk 0 0)))
     ((z23 n a0).bind fun y0 =>
     (z23 n a1).bind fun y1 =>
     (z5q n y0 y1).bind fun y2 =>
     (quo .u64 y0 y2).bind fun x3 =>
     (quo .u64 y1 y2).bind fun x4 =>
     pIf (decide (x3 > 1000000000))
       (z1f n a1 a0 x4 x3 true (yz1.mk 0 0))
       (z1f n a1 a0 x4 x3 (decide (x4 > 1000000000)) (yz1.mk 0 0)))
def z1f : Nat → Int → Int → Int → Int → Bool → yz1 → Option (Int × yz1)
 | 0, _, _, _, _, _, _ => none
 | n + 1, a0, a1, a2, a3, a4, a5 =>
   pIf a4
     (some (16, (yz1.mk 0 0)))
     (pIf (!((decide (a1 < 0)) == (decide (a0 < 0))))
       (z1n n a5 (yz1.mk (IntKind.i64.wrap (0 - (IntKind.i64.wrap a3))) (IntKind.i64.wrap a2)))
       (z1n n a5 (yz1.mk (IntKind.i64.wrap a3) (IntKind.i64.wrap a2))))
def z1n : Nat → yz1 → yz1 → Option (Int × yz1)
 | 0, _, _ => none
 | n + 1, a0, a1 =>
   some (0, a1)
end
def y2y : LSh := ⟨[(4, (.ptr 0 0)), (5, (.d (.int .i64)))], [(.st 2)], 0, 48⟩
noncomputable def z5r : FI dat := FI.of dat 147 48 0 [(.d (.int .i64)), (.d (.int .i64))] [] [(.d (.st 2)), (.d (.int .i64))] [] true y2y (R := Int × yz1) (fun x => (x.1, x.2.1)) (fun r => (r.2, r.1, ())) (fun n x => z0c n x.1 x.2.1)
 (fun n => [(0, ⟨⟨[(4, (.ptr 0 0)), (1, (.d (.int .i64))), (0, (.d (.int .i64))), (7, (.d (.int .u64))), (6, (.d (.int .u64))), (31, (.d .bool))], [(.st 2)], 0, 48⟩, fun x => z1f n x.1 x.2.1 x.2.2.1 x.2.2.2.1 x.2.2.2.2.1 x.2.2.2.2.2.1⟩), (1, ⟨⟨[(4, (.ptr 0 0)), (9, (.ptr 1 0))], [(.st 2), (.st 2)], 0, 48⟩, fun x => z1n n x.1 x.2.1⟩)]) (ann [(19, 0), (32, 1)] (Tryz.f147.body.getD .skip) 0).1
noncomputable def y6d : List (FI dat) := [z5p, z6x]
theorem y3o : (z5r).Good Tryz.prog dat (tb y6d) := FI.kz4 (hD := zz2 _) Tryz.func147 Tryz.ntmps147 Tryz.call147 (by kernel_rfl) (of_decide_eq_true (by kernel_rfl)) (by kernel_rfl) (fun n => by kernel_rfl) (fun x => by kernel_rfl) (fun _ => rfl) ⟨fun _ => rfl, fun _ => rfl, trivial⟩
 (fun n => fun x => (z0c.eq_2 x.1 x.2.1 n).trans (by kernel_rfl))
 (fun n => ⟨fun x => (z1f.eq_2 x.1 x.2.1 x.2.2.1 x.2.2.2.1 x.2.2.2.2.1 x.2.2.2.2.2.1 n).trans (by kernel_rfl),
  fun x => (z1n.eq_2 x.1 x.2.1 n).trans (by kernel_rfl),
  trivial⟩)
 (fun x => .inl rfl)
theorem y52 : OkL Tryz.prog [z5r] := kz7 (zz2 _) (bs := [z5p, z6x]) ⟨zk7, zn4, trivial⟩ y3o
theorem zki : FOk Tryz.prog z5r := y52.1
def zzq : Nat → Int → Int → yzx → Option yzx
 | 0, _, _, _ => none
 | n + 1, a0, a1, a2 =>
   pIf (a2.e == 0)
     ((z0c n a0 a1).bind fun y0 =>
     some (yzx.mk a2.a a2.b y0.2 y0.1))
     (some a2)
def zo2 : LSh := ⟨[], [(.st 8)], 1, 23⟩
noncomputable def kzg : FI dat := FI.of dat 184 23 1 [(.ptr 0 0), (.d (.int .i64)), (.d (.int .i64))] [(.st 8)] [] [(.st 8)] false zo2 (R := yzx) (fun x => x.1) (fun r => (r, ())) (fun n x => zzq n x.1 x.2.1 x.2.2.1)
 (fun n => []) (ann [] (Tryz.f184.body.getD .skip) 0).1
noncomputable def zpa : List (FI dat) := [z5r]
theorem zov : (kzg).Good Tryz.prog dat (tb zpa) := FI.kz4 (hD := zz2 _) Tryz.func184 Tryz.ntmps184 Tryz.call184 (by kernel_rfl) (of_decide_eq_true (by kernel_rfl)) (by kernel_rfl) (fun n => by kernel_rfl) (fun x => by kernel_rfl) (fun _ => rfl) trivial
 (fun n => fun x => (zzq.eq_2 x.1 x.2.1 x.2.2.1 n).trans (by kernel_rfl))
 (fun n => trivial)
 (fun x => .inr (by kernel_rfl))
theorem zp5 : OkL Tryz.prog [kzg] := kz7 (zz2 _) (bs := [z5r]) ⟨zki, trivial⟩ zov
theorem z6r : FOk Tryz.prog kzg := zp5.1
def kz8 : Nat → Int → Int → Int → Int → Int → Int → Int → Int → Int → Int → Option (Int × Int × Int × Int × Int × Int × Int × Int × Int × Int)
 | 0, _, _, _, _, _, _, _, _, _, _ => none
 | n + 1, a0, a1, a2, a3, a4, a5, a6, a7, a8, a9 =>
   some (a0, a1, a2, a3, a4, a5, a6, a4, a5, a6)
def zkg : LSh := ⟨[], [(.cells [(.d (.int .i64)), (.d (.int .i64)), (.d (.int .i64)), (.d (.int .i64)), (.d (.int .i64)), (.d (.int .i64)), (.d (.int .i64))]), (.cells [(.d (.int .i64)), (.d (.int .i64))]), (.cells [(.d (.int .i64))])], 3, 7⟩
noncomputable def zxv : FI dat := FI.of dat 183 7 3 [(.ptr 0 0), (.ptr 1 0), (.ptr 2 0)] [(.cells [(.d (.int .i64)), (.d (.int .i64)), (.d (.int .i64)), (.d (.int .i64)), (.d (.int .i64)), (.d (.int .i64)), (.d (.int .i64))]), (.cells [(.d (.int .i64)), (.d (.int .i64))]), (.cells [(.d (.int .i64))])] [] [(.cells [(.d (.int .i64)), (.d (.int .i64)), (.d (.int .i64)), (.d (.int .i64)), (.d (.int .i64)), (.d (.int .i64)), (.d (.int .i64))]), (.cells [(.d (.int .i64)), (.d (.int .i64))]), (.cells [(.d (.int .i64))])] false zkg (R := Int × Int × Int × Int × Int × Int × Int × Int × Int × Int) (fun x => (x.1, x.2.1, x.2.2.1, x.2.2.2.1, x.2.2.2.2.1, x.2.2.2.2.2.1, x.2.2.2.2.2.2.1, x.2.2.2.2.2.2.2.1, x.2.2.2.2.2.2.2.2.1, x.2.2.2.2.2.2.2.2.2.1)) (fun r => (r.1, r.2.1, r.2.2.1, r.2.2.2.1, r.2.2.2.2.1, r.2.2.2.2.2.1, r.2.2.2.2.2.2.1, r.2.2.2.2.2.2.2.1, r.2.2.2.2.2.2.2.2.1, r.2.2.2.2.2.2.2.2.2, ())) (fun n x => kz8 n x.1 x.2.1 x.2.2.1 x.2.2.2.1 x.2.2.2.2.1 x.2.2.2.2.2.1 x.2.2.2.2.2.2.1 x.2.2.2.2.2.2.2.1 x.2.2.2.2.2.2.2.2.1 x.2.2.2.2.2.2.2.2.2.1)
 (fun n => []) (ann [] (Tryz.f183.body.getD .skip) 0).1
noncomputable def y0k : List (FI dat) := []
theorem zxo : (zxv).Good Tryz.prog dat (tb y0k) := FI.kz4 (hD := zz2 _) Tryz.func183 Tryz.ntmps183 Tryz.call183 (by kernel_rfl) (of_decide_eq_true (by kernel_rfl)) (by kernel_rfl) (fun n => by kernel_rfl) (fun x => by kernel_rfl) (fun _ => rfl) trivial
 (fun n => fun x => (kz8.eq_2 x.1 x.2.1 x.2.2.1 x.2.2.2.1 x.2.2.2.2.1 x.2.2.2.2.2.1 x.2.2.2.2.2.2.1 x.2.2.2.2.2.2.2.1 x.2.2.2.2.2.2.2.2.1 x.2.2.2.2.2.2.2.2.2.1 n).trans (by kernel_rfl))
 (fun n => trivial)
 (fun x => .inr (by kernel_rfl))
noncomputable def z96 : zcr dat := { f := 183, args := [(.ptr 0 0), (.ptr 1 0), (.ptr 2 0)], aos := [(.cells [(.d (.int .i64)), (.d (.int .i64)), (.d (.int .i64)), (.d (.int .i64)), (.d (.int .i64)), (.d (.int .i64)), (.d (.int .i64))]), (.cells [(.d (.int .i64)), (.d (.int .i64))]), (.cells [(.d (.int .i64))])], m := none, ros := [(.cells [(.d (.int .i64)), (.d (.int .i64)), (.d (.int .i64)), (.d (.int .i64)), (.d (.int .i64)), (.d (.int .i64)), (.d (.int .i64))]), (.cells [(.d (.int .i64)), (.d (.int .i64))]), (.cells [(.d (.int .i64))])], go := fun x _ => (kz8 9 x.1 x.2.1 x.2.2.1 x.2.2.2.1 x.2.2.2.2.1 x.2.2.2.2.2.1 x.2.2.2.2.2.2.1 x.2.2.2.2.2.2.2.1 x.2.2.2.2.2.2.2.2.1 x.2.2.2.2.2.2.2.2.2.1).bind fun r => some (r.1, r.2.1, r.2.2.1, r.2.2.2.1, r.2.2.2.2.1, r.2.2.2.2.2.1, r.2.2.2.2.2.2.1, r.2.2.2.2.2.2.2.1, r.2.2.2.2.2.2.2.2.1, r.2.2.2.2.2.2.2.2.2, ()) }
theorem z9f : (z96).Ok Tryz.prog := yh8 (args := [(.ptr 0 0), (.ptr 1 0), (.ptr 2 0)]) (aos := [(.cells [(.d (.int .i64)), (.d (.int .i64)), (.d (.int .i64)), (.d (.int .i64)), (.d (.int .i64)), (.d (.int .i64)), (.d (.int .i64))]), (.cells [(.d (.int .i64)), (.d (.int .i64))]), (.cells [(.d (.int .i64))])]) (ros := [(.cells [(.d (.int .i64)), (.d (.int .i64)), (.d (.int .i64)), (.d (.int .i64)), (.d (.int .i64)), (.d (.int .i64)), (.d (.int .i64))]), (.cells [(.d (.int .i64)), (.d (.int .i64))]), (.cells [(.d (.int .i64))])]) (l := zkg) (pack := fun x => (x.1, x.2.1, x.2.2.1, x.2.2.2.1, x.2.2.2.2.1, x.2.2.2.2.2.1, x.2.2.2.2.2.2.1, x.2.2.2.2.2.2.2.1, x.2.2.2.2.2.2.2.2.1, x.2.2.2.2.2.2.2.2.2.1)) (un := fun r => (r.1, r.2.1, r.2.2.1, r.2.2.2.1, r.2.2.2.2.1, r.2.2.2.2.2.1, r.2.2.2.2.2.2.1, r.2.2.2.2.2.2.2.1, r.2.2.2.2.2.2.2.2.1, r.2.2.2.2.2.2.2.2.2, ())) (go := fun x => kz8 9 x.1 x.2.1 x.2.2.1 x.2.2.2.1 x.2.2.2.2.1 x.2.2.2.2.2.1 x.2.2.2.2.2.2.1 x.2.2.2.2.2.2.2.1 x.2.2.2.2.2.2.2.2.1 x.2.2.2.2.2.2.2.2.2.1) (zz2 _) Tryz.func183 (by kernel_rfl) Tryz.ntmps183 Tryz.call183 (Nat.le_of_ble_eq_true (by kernel_rfl)) (Nat.le_of_ble_eq_true (by kernel_rfl)) (Nat.le_of_ble_eq_true (by kernel_rfl)) (by kernel_rfl) (by kernel_rfl) (fun x => by kernel_rfl) (ylu (zz2 _) zxo trivial 9)
def z3z : Nat → yz1 → yz1 → Option (yz1 × Int)
 | 0, _, _ => none
 | n + 1, a0, a1 =>
   (yzy n a0 a1).bind fun y0 =>
   pIf (y0.e == 0)
     ((z5c n y0.a y0.b).bind fun y1 =>
     (zzq n y1.1 y1.2 y0).bind fun y2 =>
     (((kz8 9 y2.a.num y2.a.den y2.b.num y2.b.den y2.out.num y2.out.den y2.e 0 0 0).bind fun r4 => some (r4.1, r4.2.1, r4.2.2.1, r4.2.2.2.1, r4.2.2.2.2.1, r4.2.2.2.2.2.1, r4.2.2.2.2.2.2.1, r4.2.2.2.2.2.2.2.1, r4.2.2.2.2.2.2.2.2.1, r4.2.2.2.2.2.2.2.2.2, ()))).bind fun y3 =>
     some ((yz1.mk y3.2.2.2.2.2.2.2.1 y3.2.2.2.2.2.2.2.2.1), y3.2.2.2.2.2.2.2.2.2.1))
     ((((kz8 9 y0.a.num y0.a.den y0.b.num y0.b.den y0.out.num y0.out.den y0.e 0 0 0).bind fun r6 => some (r6.1, r6.2.1, r6.2.2.1, r6.2.2.2.1, r6.2.2.2.2.1, r6.2.2.2.2.2.1, r6.2.2.2.2.2.2.1, r6.2.2.2.2.2.2.2.1, r6.2.2.2.2.2.2.2.2.1, r6.2.2.2.2.2.2.2.2.2, ()))).bind fun y5 =>
     some ((yz1.mk y5.2.2.2.2.2.2.2.1 y5.2.2.2.2.2.2.2.2.1), y5.2.2.2.2.2.2.2.2.2.1))
def zus : LSh := ⟨[(6, (.ptr 0 0)), (7, (.ptr 1 0))], [(.st 2), (.cells [(.d (.int .i64))])], 0, 27⟩
noncomputable def z6w : FI dat := FI.ofD dat 168 27 0 [(.d (.st 2)), (.d (.st 2)), (.fn 181 [] [])] [] [(.d (.st 2)), (.d (.int .i64))] [(.st 2), (.cells [(.d (.int .i64))])] [z96] zus (R := yz1 × Int) (fun x => (x.1, x.2.1)) (fun r => (r.1, r.2, r.1, r.2, ())) (fun n x => z3z n x.1 x.2.1)
 (fun n => []) (ann [] (Tryz.f168.body.getD .skip) 0).1
noncomputable def zs7 : List (FI dat) := [kzt, z8r, kzg]
theorem zud : (z6w).Good Tryz.prog dat (tb zs7) := FI.zij (hD := zz2 _) Tryz.func168 Tryz.ntmps168 Tryz.call168 (by kernel_rfl) (of_decide_eq_true (by kernel_rfl)) (by kernel_rfl) (fun n => by kernel_rfl) ⟨z9f, trivial⟩ (fun x => by kernel_rfl) (fun _ => rfl) trivial
 (fun n => fun x => (z3z.eq_2 x.1 x.2.1 n).trans (by kernel_rfl))
 (fun n => trivial)
 (fun x => by kernel_rfl)
theorem zva : OkL Tryz.prog [z6w] := kz7 (zz2 _) (bs := [kzt, z8r, kzg]) ⟨z97, zum, z6r, trivial⟩ zud
theorem zqx : FOk Tryz.prog z6w := zva.1
end Go.Proofs.YtfhpamcehnfhoaaGreatDoor

