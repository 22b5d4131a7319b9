/-
  THE GO STRUCTS AS LEAN STRUCTURES, by a program of this repo (types.py).
-/
import Derived.Test.YtfhpamcehnfhoaaGreatDoorLib2
import Derived.Test.YtfhpamcehnfhoaaGreatDoorLib3
import Derived.Test.YtfhpamcehnfhoaaGreatDoorLib6
import Derived.Shelf.Strings.Builder1
import Derived.Shelf.Strings.Search1
import Derived.Shelf.Strings.Search2
import Derived.Shelf.Strings.Fields
import Derived.Ground.NamesProg
import Derived.Test.YtfhpamcehnfhoaaGreatDoorProg
import Derived.Test.YtfhpamcehnfhoaaGreatDoorLib7
import Derived.Test.YtfhpamcehnfhoaaGreatDoorOwn0
import Derived.Test.YtfhpamcehnfhoaaGreatDoorRun8
import Derived.KernelRfl
namespace Go.Ab
open Go
set_option linter.unusedVariables false
set_option linter.unusedSimpArgs false
structure zz2 where
 num : Int
 den : Int
def zz2.el (x : zz2) : V := .agg [.int .i64 x.num, .int .i64 x.den]
def zz2.size (x : zz2) : Nat := 1 + 1 + 1
def zz2.wf (x : zz2) : Prop := (IntKind.i64.min ≤ x.num ∧ x.num ≤ IntKind.i64.max) ∧ (IntKind.i64.min ≤ x.den ∧ x.den ≤ IntKind.i64.max)
theorem zz2.zzu (x : zz2) : x.el = .agg [.int .i64 x.num, .int .i64 x.den] := by rw [zz2.el]
theorem zz2.size_eq (x : zz2) : x.size = 1 + 1 + 1 := by rw [zz2.size]
theorem zz2.z9d (x : zz2) : x.wf = ((IntKind.i64.min ≤ x.num ∧ x.num ≤ IntKind.i64.max) ∧ (IntKind.i64.min ≤ x.den ∧ x.den ≤ IntKind.i64.max)) := by rw [zz2.wf]
theorem zz2.z8r (x : zz2) : x.el.cells.length = 2 := by rw [zz2.zzu]; rfl
theorem zz2.zsf (x : zz2) : x.el = .agg x.el.cells := by rw [zz2.zzu]; rfl
theorem zz2.kin {D : Nat → Nat → Prop} (x : zz2) : V.kin D x.el := by rw [zz2.zzu]; simp only [V.kin, V.zc9, and_true, true_and]
def zz2.ty : Ty zz2 := ⟨zz2.el, 2, zz2.size, zz2.wf, zz2.z8r⟩
structure yz0 where
 kind : Int
 num : zz2
 truth : Bool
 str : List UInt8
 list : List yz0
theorem yz0.zy8 {x y : yz0} (h : y ∈ x.list) : SizeOf.sizeOf y < SizeOf.sizeOf x := by cases x; have := List.sizeOf_lt_of_mem h; simp at this ⊢; omega
def yz0.el (x : yz0) : V := .agg [.int .u8 x.kind, .int .i64 x.num.num, .int .i64 x.num.den, .bool x.truth, .str x.str, .sl 6 (x.list.map yz0.el) false]
 termination_by x
 decreasing_by all_goals first | exact yz0.zy8 ‹_›
def yz0.size (x : yz0) : Nat := 1 + x.num.size + 1 + (x.str.length + 1) + ((x.list.map yz0.size).sum + 1) + 1
 termination_by x
 decreasing_by all_goals first | exact yz0.zy8 ‹_›
def yz0.wf (x : yz0) : Prop := (IntKind.u8.min ≤ x.kind ∧ x.kind ≤ IntKind.u8.max) ∧ x.num.wf ∧ True ∧ True ∧ (∀ y ∈ x.list, y.wf)
 termination_by x
 decreasing_by all_goals first | exact yz0.zy8 ‹_›
theorem yz0.zzu (x : yz0) : x.el = .agg [.int .u8 x.kind, .int .i64 x.num.num, .int .i64 x.num.den, .bool x.truth, .str x.str, .sl 6 (x.list.map yz0.el) false] := by rw [yz0.el]
theorem yz0.size_eq (x : yz0) : x.size = 1 + x.num.size + 1 + (x.str.length + 1) + ((x.list.map yz0.size).sum + 1) + 1 := by rw [yz0.size]
theorem yz0.z9d (x : yz0) : x.wf = ((IntKind.u8.min ≤ x.kind ∧ x.kind ≤ IntKind.u8.max) ∧ x.num.wf ∧ True ∧ True ∧ (∀ y ∈ x.list, y.wf)) := by rw [yz0.wf]
theorem yz0.z8r (x : yz0) : x.el.cells.length = 6 := by rw [yz0.zzu]; rfl
theorem yz0.zsf (x : yz0) : x.el = .agg x.el.cells := by rw [yz0.zzu]; rfl
theorem yz0.kin {D : Nat → Nat → Prop} (x : yz0) : V.kin D x.el := by rw [yz0.zzu]; simp only [V.kin, V.zc9, and_true, true_and]; exact zy2 fun y hy => yz0.kin y
 termination_by x
 decreasing_by all_goals first | exact yz0.zy8 ‹_›
def yz0.ty : Ty yz0 := ⟨yz0.el, 6, yz0.size, yz0.wf, yz0.z8r⟩
structure kz0 where
 op : Int
 value : yz0
 name : List UInt8
 args : List kz0
theorem kz0.zxu {x y : kz0} (h : y ∈ x.args) : SizeOf.sizeOf y < SizeOf.sizeOf x := by cases x; have := List.sizeOf_lt_of_mem h; simp at this ⊢; omega
def kz0.el (x : kz0) : V := .agg [.int .u8 x.op, .int .u8 x.value.kind, .int .i64 x.value.num.num, .int .i64 x.value.num.den, .bool x.value.truth, .str x.value.str, .sl 6 (x.value.list.map yz0.el) false, .str x.name, .sl 9 (x.args.map kz0.el) false]
 termination_by x
 decreasing_by all_goals first | exact kz0.zxu ‹_›
def kz0.size (x : kz0) : Nat := 1 + x.value.size + (x.name.length + 1) + ((x.args.map kz0.size).sum + 1) + 1
 termination_by x
 decreasing_by all_goals first | exact kz0.zxu ‹_›
def kz0.wf (x : kz0) : Prop := (IntKind.u8.min ≤ x.op ∧ x.op ≤ IntKind.u8.max) ∧ x.value.wf ∧ True ∧ (∀ y ∈ x.args, y.wf)
 termination_by x
 decreasing_by all_goals first | exact kz0.zxu ‹_›
theorem kz0.zzu (x : kz0) : x.el = .agg [.int .u8 x.op, .int .u8 x.value.kind, .int .i64 x.value.num.num, .int .i64 x.value.num.den, .bool x.value.truth, .str x.value.str, .sl 6 (x.value.list.map yz0.el) false, .str x.name, .sl 9 (x.args.map kz0.el) false] := by rw [kz0.el]
theorem kz0.size_eq (x : kz0) : x.size = 1 + x.value.size + (x.name.length + 1) + ((x.args.map kz0.size).sum + 1) + 1 := by rw [kz0.size]
theorem kz0.z9d (x : kz0) : x.wf = ((IntKind.u8.min ≤ x.op ∧ x.op ≤ IntKind.u8.max) ∧ x.value.wf ∧ True ∧ (∀ y ∈ x.args, y.wf)) := by rw [kz0.wf]
theorem kz0.z8r (x : kz0) : x.el.cells.length = 9 := by rw [kz0.zzu]; rfl
theorem kz0.zsf (x : kz0) : x.el = .agg x.el.cells := by rw [kz0.zzu]; rfl
theorem kz0.kin {D : Nat → Nat → Prop} (x : kz0) : V.kin D x.el := by rw [kz0.zzu]; simp only [V.kin, V.zc9, and_true, true_and]; exact ⟨zy2 fun y hy => yz0.kin y, zy2 fun y hy => kz0.kin y⟩
 termination_by x
 decreasing_by all_goals first | exact kz0.zxu ‹_›
def kz0.ty : Ty kz0 := ⟨kz0.el, 9, kz0.size, kz0.wf, kz0.z8r⟩
structure zzw where
 name : List UInt8
 value : yz0
def zzw.el (x : zzw) : V := .agg [.str x.name, .int .u8 x.value.kind, .int .i64 x.value.num.num, .int .i64 x.value.num.den, .bool x.value.truth, .str x.value.str, .sl 6 (x.value.list.map yz0.el) false]
def zzw.size (x : zzw) : Nat := (x.name.length + 1) + x.value.size + 1
def zzw.wf (x : zzw) : Prop := True ∧ x.value.wf
theorem zzw.zzu (x : zzw) : x.el = .agg [.str x.name, .int .u8 x.value.kind, .int .i64 x.value.num.num, .int .i64 x.value.num.den, .bool x.value.truth, .str x.value.str, .sl 6 (x.value.list.map yz0.el) false] := by rw [zzw.el]
theorem zzw.size_eq (x : zzw) : x.size = (x.name.length + 1) + x.value.size + 1 := by rw [zzw.size]
theorem zzw.z9d (x : zzw) : x.wf = (True ∧ x.value.wf) := by rw [zzw.wf]
theorem zzw.z8r (x : zzw) : x.el.cells.length = 7 := by rw [zzw.zzu]; rfl
theorem zzw.zsf (x : zzw) : x.el = .agg x.el.cells := by rw [zzw.zzu]; rfl
theorem zzw.kin {D : Nat → Nat → Prop} (x : zzw) : V.kin D x.el := by rw [zzw.zzu]; simp only [V.kin, V.zc9, and_true, true_and]; exact zy2 fun y hy => yz0.kin y
def zzw.ty : Ty zzw := ⟨zzw.el, 7, zzw.size, zzw.wf, zzw.z8r⟩
structure yz3 where
 s : List UInt8
def yz3.el (x : yz3) : V := .agg [.str x.s]
def yz3.size (x : yz3) : Nat := (x.s.length + 1) + 1
def yz3.wf (x : yz3) : Prop := True
theorem yz3.zzu (x : yz3) : x.el = .agg [.str x.s] := by rw [yz3.el]
theorem yz3.size_eq (x : yz3) : x.size = (x.s.length + 1) + 1 := by rw [yz3.size]
theorem yz3.z9d (x : yz3) : x.wf = (True) := by rw [yz3.wf]
theorem yz3.z8r (x : yz3) : x.el.cells.length = 1 := by rw [yz3.zzu]; rfl
theorem yz3.zsf (x : yz3) : x.el = .agg x.el.cells := by rw [yz3.zzu]; rfl
theorem yz3.kin {D : Nat → Nat → Prop} (x : yz3) : V.kin D x.el := by rw [yz3.zzu]; simp only [V.kin, V.zc9, and_true, true_and]
def yz3.ty : Ty yz3 := ⟨yz3.el, 1, yz3.size, yz3.wf, yz3.z8r⟩
structure kz3 where
 s : List UInt8
 at_ : Int
 ok : Bool
def kz3.el (x : kz3) : V := .agg [.str x.s, .int .i64 x.at_, .bool x.ok]
def kz3.size (x : kz3) : Nat := (x.s.length + 1) + 1 + 1 + 1
def kz3.wf (x : kz3) : Prop := True ∧ (IntKind.i64.min ≤ x.at_ ∧ x.at_ ≤ IntKind.i64.max) ∧ True
theorem kz3.zzu (x : kz3) : x.el = .agg [.str x.s, .int .i64 x.at_, .bool x.ok] := by rw [kz3.el]
theorem kz3.size_eq (x : kz3) : x.size = (x.s.length + 1) + 1 + 1 + 1 := by rw [kz3.size]
theorem kz3.z9d (x : kz3) : x.wf = (True ∧ (IntKind.i64.min ≤ x.at_ ∧ x.at_ ≤ IntKind.i64.max) ∧ True) := by rw [kz3.wf]
theorem kz3.z8r (x : kz3) : x.el.cells.length = 3 := by rw [kz3.zzu]; rfl
theorem kz3.zsf (x : kz3) : x.el = .agg x.el.cells := by rw [kz3.zzu]; rfl
theorem kz3.kin {D : Nat → Nat → Prop} (x : kz3) : V.kin D x.el := by rw [kz3.zzu]; simp only [V.kin, V.zc9, and_true, true_and]
def kz3.ty : Ty kz3 := ⟨kz3.el, 3, kz3.size, kz3.wf, kz3.z8r⟩
structure z6n where
 a : zz2
 b : zz2
 out : zz2
 e : Int
def z6n.el (x : z6n) : V := .agg [.int .i64 x.a.num, .int .i64 x.a.den, .int .i64 x.b.num, .int .i64 x.b.den, .int .i64 x.out.num, .int .i64 x.out.den, .int .i64 x.e]
def z6n.size (x : z6n) : Nat := x.a.size + x.b.size + x.out.size + 1 + 1
def z6n.wf (x : z6n) : Prop := x.a.wf ∧ x.b.wf ∧ x.out.wf ∧ (IntKind.i64.min ≤ x.e ∧ x.e ≤ IntKind.i64.max)
theorem z6n.zzu (x : z6n) : x.el = .agg [.int .i64 x.a.num, .int .i64 x.a.den, .int .i64 x.b.num, .int .i64 x.b.den, .int .i64 x.out.num, .int .i64 x.out.den, .int .i64 x.e] := by rw [z6n.el]
theorem z6n.size_eq (x : z6n) : x.size = x.a.size + x.b.size + x.out.size + 1 + 1 := by rw [z6n.size]
theorem z6n.z9d (x : z6n) : x.wf = (x.a.wf ∧ x.b.wf ∧ x.out.wf ∧ (IntKind.i64.min ≤ x.e ∧ x.e ≤ IntKind.i64.max)) := by rw [z6n.wf]
theorem z6n.z8r (x : z6n) : x.el.cells.length = 7 := by rw [z6n.zzu]; rfl
theorem z6n.zsf (x : z6n) : x.el = .agg x.el.cells := by rw [z6n.zzu]; rfl
theorem z6n.kin {D : Nat → Nat → Prop} (x : z6n) : V.kin D x.el := by rw [z6n.zzu]; simp only [V.kin, V.zc9, and_true, true_and]
def z6n.ty : Ty z6n := ⟨z6n.el, 7, z6n.size, z6n.wf, z6n.z8r⟩
end Go.Ab


namespace Go.Ab
open Go
set_option linter.unusedVariables false
structure za7 where
 e0 : List UInt8
 e1 : List UInt8
 e2 : List UInt8
 e3 : List UInt8
 e4 : List UInt8
 e5 : List UInt8
 e6 : List UInt8
 e7 : List UInt8
def za7.el (x : za7) : V := .agg [.str x.e0, .str x.e1, .str x.e2, .str x.e3, .str x.e4, .str x.e5, .str x.e6, .str x.e7]
theorem za7.zzu (x : za7) : x.el = .agg [.str x.e0, .str x.e1, .str x.e2, .str x.e3, .str x.e4, .str x.e5, .str x.e6, .str x.e7] := rfl
theorem za7.kin {Dm : Nat → Nat → Prop} (x : za7) : V.kin Dm x.el := by simp [za7.el, V.kin, V.zc9]
structure za9 where
 e0 : List UInt8
 e1 : List UInt8
 e2 : List UInt8
 e3 : List UInt8
 e4 : List UInt8
 e5 : List UInt8
 e6 : List UInt8
def za9.el (x : za9) : V := .agg [.str x.e0, .str x.e1, .str x.e2, .str x.e3, .str x.e4, .str x.e5, .str x.e6]
theorem za9.zzu (x : za9) : x.el = .agg [.str x.e0, .str x.e1, .str x.e2, .str x.e3, .str x.e4, .str x.e5, .str x.e6] := rfl
theorem za9.kin {Dm : Nat → Nat → Prop} (x : za9) : V.kin Dm x.el := by simp [za9.el, V.kin, V.zc9]
def yz0.re (x : yz0) : yz0 := ⟨x.kind, x.num, x.truth, x.str, x.list⟩
@[simp] theorem yz0.kz2 (x : yz0) : x.re = x := by cases x; simp [yz0.re]
def kz0.re (x : kz0) : kz0 := ⟨x.op, x.value.re, x.name, x.args⟩
@[simp] theorem kz0.kz2 (x : kz0) : x.re = x := by cases x; simp [kz0.re]
def zzw.re (x : zzw) : zzw := ⟨x.name, x.value.re⟩
@[simp] theorem zzw.kz2 (x : zzw) : x.re = x := by cases x; simp [zzw.re]
def datT : Nat → Type
 | 0 => za7
 | 1 => za9
 | 2 => zz2
 | 3 => yz0
 | 4 => kz0
 | 5 => zzw
 | 6 => yz3
 | 7 => kz3
 | 8 => z6n
 | _ => Unit
def zvc : Nat → List DTy
 | 0 => [.str, .str, .str, .str, .str, .str, .str, .str]
 | 1 => [.str, .str, .str, .str, .str, .str, .str]
 | 2 => [.int .i64, .int .i64]
 | 3 => [.int .u8, .int .i64, .int .i64, .bool, .str, .sl (.st 3)]
 | 4 => [.int .u8, .int .u8, .int .i64, .int .i64, .bool, .str, .sl (.st 3), .str, .sl (.st 4)]
 | 5 => [.str, .int .u8, .int .i64, .int .i64, .bool, .str, .sl (.st 3)]
 | 6 => [.str]
 | 7 => [.str, .int .i64, .bool]
 | 8 => [.int .i64, .int .i64, .int .i64, .int .i64, .int .i64, .int .i64, .int .i64]
 | _ => []
def ysf : List (Nat × DTy) := [(2, .int .i64), (3, .int .i64), (4, .bool), (5, .int .u8), (6, .int .u8), (9, .str), (10, .str), (11, .str), (12, .int .u64), (21, .int .i32), (23, .st 2), (24, .sl (.st 3)), (26, .st 3), (27, .sl (.st 4)), (29, .st 4), (31, .int .i64), (49, .sl (.st 5)), (51, .st 5), (61, .sl .str), (72, .sl (.int .u8)), (106, .st 6), (123, .int .u64), (129, .st 0), (130, .st 1), (144, .int .i64), (152, .int .u32), (154, .int .u64), (186, .int .u64), (198, .int .u16), (207, .st 7), (220, .st 8), (241, .sl (.int .i64)), (252, .int .u8), (253, .int .u8), (255, .int .i32), (256, .int .i32)]
def dat : Dat where
 T := datT
 fl := zvc
 get := fun i => match i with
  | 0 => fun (x : za7) => (x.e0, x.e1, x.e2, x.e3, x.e4, x.e5, x.e6, x.e7, ())
  | 1 => fun (x : za9) => (x.e0, x.e1, x.e2, x.e3, x.e4, x.e5, x.e6, ())
  | 2 => fun (x : zz2) => (x.num, x.den, ())
  | 3 => fun (x : yz0) => (x.kind, x.num.num, x.num.den, x.truth, x.str, x.list, ())
  | 4 => fun (x : kz0) => (x.op, x.value.kind, x.value.num.num, x.value.num.den, x.value.truth, x.value.str, x.value.list, x.name, x.args, ())
  | 5 => fun (x : zzw) => (x.name, x.value.kind, x.value.num.num, x.value.num.den, x.value.truth, x.value.str, x.value.list, ())
  | 6 => fun (x : yz3) => (x.s, ())
  | 7 => fun (x : kz3) => (x.s, x.at_, x.ok, ())
  | 8 => fun (x : z6n) => (x.a.num, x.a.den, x.b.num, x.b.den, x.out.num, x.out.den, x.e, ())
  | _ + 9 => fun _ => ()
 make := fun i => match i with
  | 0 => fun x => za7.mk x.1 x.2.1 x.2.2.1 x.2.2.2.1 x.2.2.2.2.1 x.2.2.2.2.2.1 x.2.2.2.2.2.2.1 x.2.2.2.2.2.2.2.1
  | 1 => fun x => za9.mk x.1 x.2.1 x.2.2.1 x.2.2.2.1 x.2.2.2.2.1 x.2.2.2.2.2.1 x.2.2.2.2.2.2.1
  | 2 => fun x => zz2.mk x.1 x.2.1
  | 3 => fun x => yz0.mk x.1 (zz2.mk x.2.1 x.2.2.1) x.2.2.2.1 x.2.2.2.2.1 x.2.2.2.2.2.1
  | 4 => fun x => kz0.mk x.1 (yz0.mk x.2.1 (zz2.mk x.2.2.1 x.2.2.2.1) x.2.2.2.2.1 x.2.2.2.2.2.1 x.2.2.2.2.2.2.1) x.2.2.2.2.2.2.2.1 x.2.2.2.2.2.2.2.2.1
  | 5 => fun x => zzw.mk x.1 (yz0.mk x.2.1 (zz2.mk x.2.2.1 x.2.2.2.1) x.2.2.2.2.1 x.2.2.2.2.2.1 x.2.2.2.2.2.2.1)
  | 6 => fun x => yz3.mk x.1
  | 7 => fun x => kz3.mk x.1 x.2.1 x.2.2.1
  | 8 => fun x => z6n.mk (zz2.mk x.1 x.2.1) (zz2.mk x.2.2.1 x.2.2.2.1) (zz2.mk x.2.2.2.2.1 x.2.2.2.2.2.1) x.2.2.2.2.2.2.1
  | _ + 9 => fun _ => ()
 enc := fun i => match i with
  | 0 => za7.el
  | 1 => za9.el
  | 2 => zz2.el
  | 3 => yz0.el
  | 4 => kz0.el
  | 5 => zzw.el
  | 6 => yz3.el
  | 7 => kz3.el
  | 8 => z6n.el
  | _ + 9 => fun _ => .agg []
 ty := fnd ysf
end Go.Ab


namespace Go.Ab
open Go
set_option linter.unusedVariables false
theorem zz3 (P : Program) : dat.Ok P where
 enc := fun i => match i with
  | 0 => fun x => za7.zzu x
  | 1 => fun x => za9.zzu x
  | 2 => fun x => zz2.zzu x
  | 3 => fun x => yz0.zzu x
  | 4 => fun x => kz0.zzu x
  | 5 => fun x => zzw.zzu x
  | 6 => fun x => yz3.zzu x
  | 7 => fun x => kz3.zzu x
  | 8 => fun x => z6n.zzu x
  | _ + 9 => fun _ => rfl
 getMake := fun i => match i with
  | 0 => fun x => rfl
  | 1 => fun x => rfl
  | 2 => fun x => rfl
  | 3 => fun x => rfl
  | 4 => fun x => rfl
  | 5 => fun x => rfl
  | 6 => fun x => rfl
  | 7 => fun x => rfl
  | 8 => fun x => rfl
  | _ + 9 => fun _ => rfl
 flat := fun i => match i with
  | 0 => fun t h => by simp only [dat, zvc, List.mem_cons, List.not_mem_nil, or_false] at h; rcases h with rfl | rfl | rfl | rfl | rfl | rfl | rfl | rfl <;> trivial
  | 1 => fun t h => by simp only [dat, zvc, List.mem_cons, List.not_mem_nil, or_false] at h; rcases h with rfl | rfl | rfl | rfl | rfl | rfl | rfl <;> trivial
  | 2 => fun t h => by simp only [dat, zvc, List.mem_cons, List.not_mem_nil, or_false] at h; rcases h with rfl | rfl <;> trivial
  | 3 => fun t h => by simp only [dat, zvc, List.mem_cons, List.not_mem_nil, or_false] at h; rcases h with rfl | rfl | rfl | rfl | rfl | rfl <;> trivial
  | 4 => fun t h => by simp only [dat, zvc, List.mem_cons, List.not_mem_nil, or_false] at h; rcases h with rfl | rfl | rfl | rfl | rfl | rfl | rfl | rfl | rfl <;> trivial
  | 5 => fun t h => by simp only [dat, zvc, List.mem_cons, List.not_mem_nil, or_false] at h; rcases h with rfl | rfl | rfl | rfl | rfl | rfl | rfl <;> trivial
  | 6 => fun t h => by simp only [dat, zvc, List.mem_cons, List.not_mem_nil, or_false] at h; rcases h with rfl <;> trivial
  | 7 => fun t h => by simp only [dat, zvc, List.mem_cons, List.not_mem_nil, or_false] at h; rcases h with rfl | rfl | rfl <;> trivial
  | 8 => fun t h => by simp only [dat, zvc, List.mem_cons, List.not_mem_nil, or_false] at h; rcases h with rfl | rfl | rfl | rfl | rfl | rfl | rfl <;> trivial
  | _ + 9 => fun t h => by cases h
 ty := fun e t h => by
  have := z6x h
  simp only [ysf, List.mem_cons, Prod.mk.injEq, List.not_mem_nil, or_false] at this
  rcases this with ⟨_, rfl⟩ | ⟨_, rfl⟩ | ⟨_, rfl⟩ | ⟨_, rfl⟩ | ⟨_, rfl⟩ | ⟨_, rfl⟩ | ⟨_, rfl⟩ | ⟨_, rfl⟩ | ⟨_, rfl⟩ | ⟨_, rfl⟩ | ⟨_, rfl⟩ | ⟨_, rfl⟩ | ⟨_, rfl⟩ | ⟨_, rfl⟩ | ⟨_, rfl⟩ | ⟨_, rfl⟩ | ⟨_, rfl⟩ | ⟨_, rfl⟩ | ⟨_, rfl⟩ | ⟨_, rfl⟩ | ⟨_, rfl⟩ | ⟨_, rfl⟩ | ⟨_, rfl⟩ | ⟨_, rfl⟩ | ⟨_, rfl⟩ | ⟨_, rfl⟩ | ⟨_, rfl⟩ | ⟨_, rfl⟩ | ⟨_, rfl⟩ | ⟨_, rfl⟩ | ⟨_, rfl⟩ | ⟨_, rfl⟩ | ⟨_, rfl⟩ | ⟨_, rfl⟩ | ⟨_, rfl⟩ | ⟨_, rfl⟩ <;> simp
 kin := fun i => match i with
  | 0 => fun x _ => za7.kin x
  | 1 => fun x _ => za9.kin x
  | 2 => fun x _ => zz2.kin x
  | 3 => fun x _ => yz0.kin x
  | 4 => fun x _ => kz0.kin x
  | 5 => fun x _ => zzw.kin x
  | 6 => fun x _ => yz3.kin x
  | 7 => fun x _ => kz3.kin x
  | 8 => fun x _ => z6n.kin x
  | _ + 9 => fun _ _ => by simp only [dat, V.kin, V.zc9]
end Go.Ab


namespace Go.Proofs
open Go.Shelf
def Tryz.y2k : Go.Shelf.Ren := ⟨fun | 169 => 39 | n => n, fun | 70 => 71 | 9 => 9 | 0 => 0 | 72 => 74 | 37 => 72 | 127 => 100 | 3 => 3 | 5 => 5 | n => n, fun | n => n⟩
theorem Tryz.yf2 : Go.Proofs.Lays.n169 Tryz.prog Tryz.y2k := {
 mixed := by kernel_rfl
 f169 := Tryz.func39.trans (congrArg some (by kernel_rfl))
 t0 := Tryz.underlying0
 a0 := Tryz.isAgg0
 z0 := Tryz.sizeOf0
 v0 := Tryz.zeroValue0
 t3 := Tryz.underlying3
 a3 := Tryz.isAgg3
 z3 := Tryz.sizeOf3
 v3 := Tryz.zeroValue3
 t9 := Tryz.underlying9
 a9 := Tryz.isAgg9
 z9 := Tryz.sizeOf9
 v9 := Tryz.zeroValue9
 t37 := Tryz.underlying72
 a37 := Tryz.isAgg72
 z37 := Tryz.sizeOf72
 v37 := Tryz.zeroValue72
 t70 := Tryz.underlying71
 a70 := Tryz.isAgg71
 z70 := Tryz.sizeOf71
 v70 := Tryz.zeroValue71
 t72 := Tryz.underlying74
 a72 := Tryz.isAgg74
 z72 := Tryz.sizeOf74
 v72 := Tryz.zeroValue74
 t127 := Tryz.underlying100
 a127 := Tryz.isAgg100
 z127 := Tryz.sizeOf100
 v127 := Tryz.zeroValue100 }
theorem Tryz.z5n : Builder.Extra Tryz.prog Tryz.y2k := {
 sizeBuilder := by kernel_rfl
 liesBuilder := by kernel_rfl
 t5 := Tryz.underlying5
 a5 := Tryz.isAgg5
 z5 := Tryz.sizeOf5
 v5 := Tryz.zeroValue5
 infoByte := by kernel_rfl
 cellsByte := by kernel_rfl
 sizeByte := by kernel_rfl
 neB5 := by decide }
def Tryz.yjx : Go.Shelf.Ren := ⟨fun | 217 => 163 | 266 => 177 | n => n, fun | 9 => 9 | 5 => 5 | 3 => 3 | n => n, fun | n => n⟩
theorem Tryz.yu7 : Go.Proofs.Lays.n217 Tryz.prog Tryz.yjx := {
 mixed := by kernel_rfl
 f217 := Tryz.func163.trans (congrArg some (by kernel_rfl))
 f266 := Tryz.func177.trans (congrArg some (by kernel_rfl))
 t3 := Tryz.underlying3
 a3 := Tryz.isAgg3
 z3 := Tryz.sizeOf3
 v3 := Tryz.zeroValue3
 t5 := Tryz.underlying5
 a5 := Tryz.isAgg5
 z5 := Tryz.sizeOf5
 v5 := Tryz.zeroValue5
 t9 := Tryz.underlying9
 a9 := Tryz.isAgg9
 z9 := Tryz.sizeOf9
 v9 := Tryz.zeroValue9 }
open Go.RowKit Go.Lib in
theorem Tryz.stringslite_IndexByte (s : ByteArray) (c : Int) (w : World) :
  Calls Tryz.prog 163 #[.string s, .int .u8 c] w fun e w' => e = .returned (.int .i64 (Lib.indexByte s.data.toList c.toNat.toUInt8)) ∧ w' = w := Any.stringslite_IndexByte Tryz.yu7 s c w
def Tryz.yj3 : Go.Shelf.Ren := ⟨fun | 219 => 205 | 217 => 163 | 225 => 206 | 224 => 207 | 267 => 208 | 266 => 177 | 314 => 209 | n => n, fun | 9 => 9 | 3 => 3 | 4 => 4 | 5 => 5 | 46 => 123 | 146 => 245 | 51 => 152 | n => n, fun | 1 => 2 | n => n⟩
theorem Tryz.ytr : Go.Proofs.Lays.n219 Tryz.prog Tryz.yj3 := {
 mixed := by kernel_rfl
 f217 := Tryz.func163.trans (congrArg some (by kernel_rfl))
 f219 := Tryz.func205.trans (congrArg some (by kernel_rfl))
 f224 := Tryz.func207.trans (congrArg some (by kernel_rfl))
 f225 := Tryz.func206.trans (congrArg some (by kernel_rfl))
 f266 := Tryz.func177.trans (congrArg some (by kernel_rfl))
 f267 := Tryz.func208.trans (congrArg some (by kernel_rfl))
 f314 := Tryz.func209.trans (congrArg some (by kernel_rfl))
 t3 := Tryz.underlying3
 a3 := Tryz.isAgg3
 z3 := Tryz.sizeOf3
 v3 := Tryz.zeroValue3
 t4 := Tryz.underlying4
 a4 := Tryz.isAgg4
 z4 := Tryz.sizeOf4
 v4 := Tryz.zeroValue4
 t5 := Tryz.underlying5
 a5 := Tryz.isAgg5
 z5 := Tryz.sizeOf5
 v5 := Tryz.zeroValue5
 t9 := Tryz.underlying9
 a9 := Tryz.isAgg9
 z9 := Tryz.sizeOf9
 v9 := Tryz.zeroValue9
 t46 := Tryz.underlying123
 a46 := Tryz.isAgg123
 z46 := Tryz.sizeOf123
 v46 := Tryz.zeroValue123
 t51 := Tryz.underlying152
 a51 := Tryz.isAgg152
 z51 := Tryz.sizeOf152
 v51 := Tryz.zeroValue152
 t146 := Tryz.underlying245
 a146 := Tryz.isAgg245
 z146 := Tryz.sizeOf245
 v146 := Tryz.zeroValue245
 g1 := by kernel_rfl }
open Go.RowKit Go.Lib in
theorem Tryz.stringslite_Index_one (s : ByteArray) (c : UInt8) (w : World) :
  Calls Tryz.prog 205 #[.string s, .string ⟨#[c]⟩] w fun e w' => e = .returned (.int .i64 (Lib.indexByte s.data.toList c)) ∧ w' = w := Any.stringslite_Index_one Tryz.ytr s c w
def Tryz.ykc : Go.Shelf.Ren := ⟨fun | 157 => 66 | 229 => 95 | 199 => 96 | 261 => 131 | 311 => 159 | 312 => 160 | n => n, fun | 9 => 9 | 31 => 61 | 3 => 3 | 5 => 5 | 4 => 4 | 119 => 125 | 0 => 0 | 40 => 127 | 152 => 160 | 21 => 21 | 154 => 162 | 51 => 152 | 141 => 164 | 196 => 197 | 193 => 194 | 198 => 200 | 49 => 198 | 194 => 195 | 201 => 203 | 226 => 216 | 46 => 123 | 227 => 217 | n => n, fun | 0 => 0 | 6 => 1 | n => n⟩
theorem Tryz.yuf : Go.Proofs.Lays.n157 Tryz.prog Tryz.ykc := {
 mixed := by kernel_rfl
 f157 := Tryz.func66.trans (congrArg some (by kernel_rfl))
 f199 := Tryz.func96.trans (congrArg some (by kernel_rfl))
 f229 := Tryz.func95.trans (congrArg some (by kernel_rfl))
 f261 := Tryz.func131.trans (congrArg some (by kernel_rfl))
 f311 := Tryz.func159.trans (congrArg some (by kernel_rfl))
 f312 := Tryz.func160.trans (congrArg some (by kernel_rfl))
 t0 := Tryz.underlying0
 a0 := Tryz.isAgg0
 z0 := Tryz.sizeOf0
 v0 := Tryz.zeroValue0
 t3 := Tryz.underlying3
 a3 := Tryz.isAgg3
 z3 := Tryz.sizeOf3
 v3 := Tryz.zeroValue3
 t4 := Tryz.underlying4
 a4 := Tryz.isAgg4
 z4 := Tryz.sizeOf4
 v4 := Tryz.zeroValue4
 t5 := Tryz.underlying5
 a5 := Tryz.isAgg5
 z5 := Tryz.sizeOf5
 v5 := Tryz.zeroValue5
 t9 := Tryz.underlying9
 a9 := Tryz.isAgg9
 z9 := Tryz.sizeOf9
 v9 := Tryz.zeroValue9
 t21 := Tryz.underlying21
 a21 := Tryz.isAgg21
 z21 := Tryz.sizeOf21
 v21 := Tryz.zeroValue21
 t31 := Tryz.underlying61
 a31 := Tryz.isAgg61
 z31 := Tryz.sizeOf61
 v31 := Tryz.zeroValue61
 t40 := Tryz.underlying127
 a40 := Tryz.isAgg127
 z40 := Tryz.sizeOf127
 v40 := Tryz.zeroValue127
 t46 := Tryz.underlying123
 a46 := Tryz.isAgg123
 z46 := Tryz.sizeOf123
 v46 := Tryz.zeroValue123
 t49 := Tryz.underlying198
 a49 := Tryz.isAgg198
 z49 := Tryz.sizeOf198
 v49 := Tryz.zeroValue198
 t51 := Tryz.underlying152
 a51 := Tryz.isAgg152
 z51 := Tryz.sizeOf152
 v51 := Tryz.zeroValue152
 t119 := Tryz.underlying125
 a119 := Tryz.isAgg125
 z119 := Tryz.sizeOf125
 t141 := Tryz.underlying164
 a141 := Tryz.isAgg164
 z141 := Tryz.sizeOf164
 v141 := Tryz.zeroValue164
 t152 := Tryz.underlying160
 a152 := Tryz.isAgg160
 z152 := Tryz.sizeOf160
 v152 := Tryz.zeroValue160
 t154 := Tryz.underlying162
 a154 := Tryz.isAgg162
 z154 := Tryz.sizeOf162
 v154 := Tryz.zeroValue162
 t193 := Tryz.underlying194
 a193 := Tryz.isAgg194
 z193 := Tryz.sizeOf194
 v193 := Tryz.zeroValue194
 t194 := Tryz.underlying195
 a194 := Tryz.isAgg195
 z194 := Tryz.sizeOf195
 v194 := Tryz.zeroValue195
 t196 := Tryz.underlying197
 a196 := Tryz.isAgg197
 z196 := Tryz.sizeOf197
 v196 := Tryz.zeroValue197
 t198 := Tryz.underlying200
 a198 := Tryz.isAgg200
 z198 := Tryz.sizeOf200
 v198 := Tryz.zeroValue200
 t201 := Tryz.underlying203
 a201 := Tryz.isAgg203
 z201 := Tryz.sizeOf203
 v201 := Tryz.zeroValue203
 t226 := Tryz.underlying216
 a226 := Tryz.isAgg216
 z226 := Tryz.sizeOf216
 v226 := Tryz.zeroValue216
 t227 := Tryz.underlying217
 a227 := Tryz.isAgg217
 z227 := Tryz.sizeOf217
 v227 := Tryz.zeroValue217
 g0 := by kernel_rfl
 g6 := by kernel_rfl }
open Go.RowKit Go.Lib in
theorem Tryz.strings_Fields (s : ByteArray) (w : World) (hs : s.size < 4294967281) (hascii : ∀ (j : Nat) b, s.data.toList[j]? = some b → b.toNat < 128) (htab : Lib.TabIs Tryz.prog w "strings.asciiSpace" .u8 Lib.asciiSpaceTab) :
  Calls Tryz.prog 66 #[.string s] w fun e w' =>
   e = .returned (.slice (some ⟨w.heap.size, 0, none⟩) (Lib.fields s.data.toList).length (Lib.fields s.data.toList).length) ∧ w' = w.alloc (.cells ((Lib.fields s.data.toList).map fun l => Value.string ⟨l.toArray⟩).toArray 9) := Any.strings_Fields Tryz.yuf (by kernel_rfl) (by kernel_rfl) s w hs hascii htab
end Go.Proofs


namespace Go.Proofs.YtfhpamcehnfhoaaGreatDoor
open Go Go.RowKit Go.Shelf Go.Proofs
set_option linter.unusedVariables false
set_option maxRecDepth 100000
theorem yps (b : Nat) (w : World) (h0 : w.cell? ⟨b, 0, none⟩ = some (.pointer (some ⟨b, 0, none⟩))) :
  Calls Tryz.prog 94 #[.pointer (some ⟨b, 0, none⟩)] w fun e w' => e = .returned (.tuple #[]) ∧ w' = w := by
 obtain ⟨j, hj, _⟩ := Option.map_eq_some_iff.1 Tryz.z5n.sizeBuilder
 go_enter Tryz.func94, Tryz.ntmps94
 go_wp2
 rw [Lib.run_neq_ptr_same w _ Tryz.underlying71 hj]
 go_wp2
 go_end0
 exact ⟨rfl, rfl⟩
theorem yl8 (b : Nat) (w : World) (h0 : w.cell? ⟨b, 0, none⟩ = some (.pointer none)) (hsh : w.shape? b = some (74, 2)) (hfz : w.frozen? ⟨b, 0, none⟩ = false) :
  Calls Tryz.prog 94 #[.pointer (some ⟨b, 0, none⟩)] w fun e w' => e = .returned (.tuple #[]) ∧ w' = w.setCell ⟨b, 0, none⟩ (.pointer (some ⟨b, 0, none⟩)) := by
 obtain ⟨j, hj, hjs⟩ := Option.map_eq_some_iff.1 Tryz.z5n.sizeBuilder
 go_enter Tryz.func94, Tryz.ntmps94
 go_wp2
 rw [Lib.run_to_unsafe w ⟨b, 0, none⟩ Tryz.underlying71 Tryz.underlying158 hj (by rw [hjs]; decide) hsh (Nat.zero_lt_succ 1)]
 simp only [Result.andThen]
 rw [Oper.upon_value]
 go_wp2
 rw [run_callFunc_extern Tryz.func130 (by kernel_rfl) (by kernel_rfl) (by kernel_rfl) (e := Extern.AbiNoEscape.same) (by kernel_rfl)]
 rw [Lib.run_noEscape]
 simp only [Result.andThen]
 rw [Oper.upon_value]
 go_wp2
 rw [Lib.run_from_unsafe w ⟨b, 0, none⟩ Tryz.underlying158 Tryz.underlying71 hj hsh Tryz.z5n.liesBuilder]
 simp only [Result.andThen]
 rw [Oper.upon_value]
 go_wp2
 go_end0
 exact ⟨rfl, rfl⟩
theorem yln (b g cap : Nat) (p : Value) (l : List UInt8) (cur : Array Value) (w : World) (h0 : l ≠ []) (hbk : w.heap[b]? = some (.cells #[p, .slice (some ⟨g, 0, none⟩) l.length cap] 74 (0, 0))) (hg : w.heap[g]? = some (.cells cur 5 (0, 0))) (hlcap : l.length ≤ cap) (hlc : l.length ≤ cur.size) (hmax : l.length ≤ 9223372036854775807)
  (hc : ∀ (j : Nat) (x : UInt8), l[j]? = some x → w.cell? ⟨g, j, none⟩ = some (.int .u8 x.toNat)) :
  Calls Tryz.prog 39 #[.pointer (some ⟨b, 0, none⟩)] w fun e w' => e = .returned (.string ⟨l.toArray⟩) ∧ w' = w.drew.freeze ⟨g, 0, none⟩ l.length := by
 have hl0 : l.length ≠ 0 := by simpa using h0
 have c1 : w.drew.cell? ⟨b, 1, none⟩ = some (.slice (some ⟨g, 0, none⟩) l.length cap) := by
  have : w.drew.heap[b]? = some (.cells #[p, .slice (some ⟨g, 0, none⟩) l.length cap] 74 (0, 0)) := hbk
  rw [Lib.cell_of_heap this]; rfl
 have hSD : (Builtin.unsafeSliceData_ #[72] 100 #[.slice (some ⟨g, 0, none⟩) l.length cap]).run Tryz.prog w.drew = .ok (.pointer (some ⟨g, 0, none⟩)) w.drew :=
  Lib.run_unsafeSliceData_row _ _ _ _ _ _ (by omega)
 have hUS : (Builtin.unsafeString_ #[100, 3] 9 #[.pointer (some ⟨g, 0, none⟩), .int .i64 l.length]).run Tryz.prog w.drew = .ok (.string ⟨l.toArray⟩) (w.drew.freeze ⟨g, 0, none⟩ l.length) := by
  refine Lib.run_unsafeString_row w.drew 100 3 9 5 Tryz.underlying100 Tryz.z5n.cellsByte g cur.size (by have hg' : w.drew.heap[g]? = some (.cells cur 5 (0, 0)) := hg; simp [World.shape?, hg']) l h0 hlc hmax ?_
  intro j x hx
  have := hc j x hx
  have hadd : (⟨g, 0, none⟩ : Addr).add j = ⟨g, j, none⟩ := by unfold Addr.add; split <;> simp_all
  rw [hadd]
  exact this
 go_enter Tryz.func39, Tryz.ntmps39
 go_wp2
 go_region
 all_goals (go_wp2; go_ret; exact ⟨rfl, rfl⟩)
end Go.Proofs.YtfhpamcehnfhoaaGreatDoor


namespace Go.Proofs.YtfhpamcehnfhoaaGreatDoor
open Go Go.Ab Go.RowKit Go.Proofs
set_option linter.unusedVariables false
set_option linter.unusedSimpArgs false
theorem y5k {W : World} {g : Gh} {H : Heap} {u : V} {cs : Array Value} (h : zjp W g H [u] cs) : ∃ x, cs = #[x] ∧ Rel W g H u x := by
 obtain ⟨h1, h2⟩ := h
 have hsz : cs.toList.length = 1 := by simpa using h1
 obtain ⟨c, hc⟩ := List.length_eq_one_iff.1 hsz
 have hc' : cs = #[c] := by rw [← Array.toList_inj, hc]
 subst hc'
 exact ⟨c, rfl, by simpa using h2 0 _ rfl⟩
theorem yoi {W : World} {g : Gh} {H : Heap} {lv i : Nat} {a c : V} (hG : Go.Ab.Good W g H) (hg : H.get lv i = some (.arr 0 74 2 [.agg [a, c]] (some 1))) :
  g.cap lv i = 1 ∧ ∃ p v, W.heap[g.ab lv i]? = some (.cells #[p, v] 74 (0, 0)) ∧ Rel W g H a p ∧ Rel W g H c v ∧ p.oneCell' = true ∧ v.oneCell' = true := by
 obtain ⟨cc, k1, k2, k3, k3', k4, k5, k6, k7, k8⟩ := hG.obj _ _ _ hg
 have hcap := k5 1 rfl
 rw [hcap] at k3
 obtain ⟨l⟩ := cc
 match l, k3 with
 | [p, v], _ =>
   refine ⟨hcap, p, v, k1, k8 0 _ 0 a rfl rfl, k8 0 _ 1 c rfl rfl, k7 0 _ 0 a rfl rfl, k7 0 _ 1 c rfl rfl⟩
 | [], h => simp at h
 | [_], h => simp at h
 | _ :: _ :: _ :: _, h => simp at h
theorem yqy {α : Type} {L : List α} {i : Nat} {x : α} (h : L[i]? = some x) : L.set i x = L := by
 refine List.ext_getElem? fun j => ?_
 rw [List.getElem?_set]
 split
 ·rename_i e
  subst e
  split
  ·exact h.symm
  ·rename_i hn; exact (hn (List.getElem?_eq_some_iff.1 h).1).elim
 ·rfl
theorem yk6 {lv i : Nat} {L : List (Option yz4)} {E : Nat → Nat → Option yz4} {a c : V} (hL : L[i]? = some (some (.arr 0 74 2 [.agg [a, c]] (some 1)))) (ha : a = .nilp ∨ a = .ap lv i 0 0 0) :
  znz Tryz.prog 94 [.ap lv i 0 0 0] ⟨lv, L, E⟩ fun o H' => o = .ret (.tup []) ∧ H' = ⟨lv, L.set i (some (.arr 0 74 2 [.agg [.ap lv i 0 0 0, c]] (some 1))), E⟩ := by
 intro W g cargs hG hR
 have hg : (⟨lv, L, E⟩ : Heap).get lv i = some (.arr 0 74 2 [.agg [a, c]] (some 1)) := by simp [Heap.get, hL]
 obtain ⟨x, rfl, h0⟩ := y5k hR
 obtain ⟨hcap, p, v, k1, k2, k3, k4, k5⟩ := yoi hG hg
 refine ⟨Tryz.call94 _ _, ?_⟩
 cases h0 with
 | ap _ _ _ _ _ ad hd hv hadr =>
   have had : ad = ⟨g.ab lv i, 0, none⟩ := hadr _ _ _ _ hg
   subst had
   rcases ha with rfl | rfl
   · cases k2
     refine (yl8 (g.ab lv i) W (by rw [Lib.cell_of_heap k1]; rfl) (by simp [World.shape?, k1]) (by simp [World.frozen?, k1])).mono ?_
     rintro e W' ⟨rfl, rfl⟩
     have hh : (W.setCell ⟨g.ab lv i, 0, none⟩ (.pointer (some ⟨g.ab lv i, 0, none⟩))).heap[g.ab lv i]? = some (.cells #[.pointer (some ⟨g.ab lv i, 0, none⟩), v] 74 (0, 0)) := by simp [World.setCell, Array.getElem?_modify, k1]
     obtain ⟨q1, q2⟩ := zlt (W' := W.setCell ⟨g.ab lv i, 0, none⟩ (.pointer (some ⟨g.ab lv i, 0, none⟩))) hG (o' := .arr 0 74 2 [.agg [.ap lv i 0 0 0, c]] (some 1)) hg rfl rfl rfl rfl (by simp [World.setCell]) (fun b hb1 hb2 => Below.heap_setCell _ _ _ _ fun e => hb2 e)
       (fun ver ty sz xs cp he => by injection he with e1 e2 e3 e4 e5; subst e1; subst e2; subst e3; subst e4; exact ⟨_, _, _, rfl, Nat.le_refl _, fun _ => Nat.le_refl _⟩) (fun hst => by
       refine yh5 (c := #[.pointer (some ⟨g.ab lv i, 0, none⟩), v]) hcap hh (by decide) rfl ⟨rfl, fun j u hj => ?_, fun j u hj => ?_⟩
       · match j, hj with
         | 0, _ => rfl
         | 1, _ => exact k5
         | j + 2, hj => simp [V.cells] at hj
       · match j, hj with
         | 0, hj =>
           simp only [V.cells, List.getElem?_cons_zero, Option.some.injEq] at hj
           subst hj
           exact .ap lv i 0 0 0 _ hd (fun _ _ _ _ _ _ => Nat.zero_le _) fun ty sz xs cp h => by simp
         | 1, hj =>
           simp only [V.cells, List.getElem?_cons_succ, List.getElem?_cons_zero, Option.some.injEq] at hj
           subst hj
           exact k3.mono hst
         | j + 2, hj => simp [V.cells] at hj)
     refine ⟨.ret (.tup []), _, g, ⟨rfl, rfl⟩, ?_, ?_, _, rfl, .tup [] #[] rfl (by simp)⟩
     · have := q1; simp only [Heap.set, if_pos] at this; exact this
     · have := q2; simp only [Heap.set, if_pos] at this; exact this
   · have hp : p = .pointer (some ⟨g.ab lv i, 0, none⟩) := by
       cases k2 with
       | ap _ _ _ _ _ ad hd hv hadr => rw [hadr _ _ _ _ hg]
     subst hp
     refine (yps (g.ab lv i) W (by rw [Lib.cell_of_heap k1]; rfl)).mono ?_
     rintro e W' ⟨rfl, rfl⟩
     rw [yqy hL]
     exact ⟨.ret (.tup []), _, g, ⟨rfl, rfl⟩, .refl _ _ _, hG, _, rfl, .tup [] #[] rfl (by simp)⟩
theorem yo0 {lv i : Nat} {L : List (Option yz4)} {E : Nat → Nat → Option yz4} {a c : V} {s : List UInt8} (hL : L[i]? = some (some (.arr 0 74 2 [.agg [a, c]] (some 1))))
  (hb : (c = .nils ∧ s = []) ∨ ∃ j ver ws cp, c = .hs lv j ver 0 ws.length false ∧ L[j]? = some (some (.arr ver 5 1 ws cp)) ∧ ze0 ws = some s) :
  znz Tryz.prog 39 [.ap lv i 0 0 0] ⟨lv, L, E⟩ fun o H' => o = .ret (.str s) ∧ ∃ L', H' = ⟨lv, L', E⟩ ∧ L'.length = L.length ∧ ∀ k, (∀ j ver n, c = .hs lv j ver 0 n false → k ≠ j) → L'[k]? = L[k]? := by
 intro W g cargs hG hR
 have hg : (⟨lv, L, E⟩ : Heap).get lv i = some (.arr 0 74 2 [.agg [a, c]] (some 1)) := by simp [Heap.get, hL]
 obtain ⟨x, rfl, h0⟩ := y5k hR
 obtain ⟨hcap, p, v, k1, k2, k3, k4, k5⟩ := yoi hG hg
 refine ⟨Tryz.call39 _ _, ?_⟩
 have below : ∀ {W' : World}, Below W.heap.size W W' → s = [] → ∀ (e : Ending), e = .returned (.string ⟨#[]⟩) →
   ∃ o H' g', (o = Out.ret (.str s) ∧ ∃ L', H' = ⟨lv, L', E⟩ ∧ L'.length = L.length ∧ ∀ k, (∀ j ver n, c = .hs lv j ver 0 n false → k ≠ j) → L'[k]? = L[k]?) ∧ Step W g ⟨lv, L, E⟩ W' g' H' ∧ Go.Ab.Good W' g' H' ∧ y7x W' g' H' o e := fun {W'} hB hs e he => by
  subst he; subst hs
  have hgr : Grow W W' := ⟨hB.os, hB.tape, hB.output, hB.size, hB.block⟩
  exact ⟨.ret (.str []), ⟨lv, L, E⟩, g, ⟨rfl, L, rfl, rfl, fun _ _ => rfl⟩, hgr.step, hG.grow hgr, _, rfl, .str []⟩
 cases h0 with
 | ap _ _ _ _ _ ad hd hv hadr =>
   have had : ad = ⟨g.ab lv i, 0, none⟩ := hadr _ _ _ _ hg
   subst had
   rcases hb with ⟨rfl, hs⟩ | ⟨j, ver, ws, cp, rfl, hj, hbs⟩
   · cases k3
     refine (Any.Builder_String_nil Tryz.yf2 Tryz.z5n W.heap.size (g.ab lv i) p W k1).mono ?_
     rintro e W' ⟨he, hB⟩
     exact below hB hs e he
   · have hgj : (⟨lv, L, E⟩ : Heap).get lv j = some (.arr ver 5 1 ws cp) := by simp [Heap.get, hj]
     obtain ⟨b1, b2⟩ := zn6 hbs
     obtain ⟨cc, m1, m2, m3, m3', m4, m5, m6, m7, m8⟩ := hG.obj _ _ _ hgj
     cases k3 with
     | hs _ _ _ _ _ _ ad m cap hd' hv' ha' =>
       obtain ⟨rfl, rfl, ⟨c1, c2, _⟩, c3⟩ := ha' _ _ _ _ hgj
       by_cases hs : s = []
       · have hw0 : ws.length = 0 := by rw [← b1, hs]; rfl
         rw [hw0] at k1
         by_cases hc0 : cap = 0
         · subst hc0
           refine (Any.Builder_String_noroom Tryz.yf2 Tryz.z5n W.heap.size (g.ab lv i) (g.ab lv j) p cc W (Nat.le_refl _) k1 m1).mono ?_
           rintro e W' ⟨he, hB⟩
           exact below hB hs e he
         · refine (Any.Builder_String_room Tryz.yf2 Tryz.z5n W.heap.size (g.ab lv i) (g.ab lv j) cap p W hc0 k1).mono ?_
           rintro e W' ⟨he, hB⟩
           exact below hB hs e he
       · have hsz : s.length ≤ cc.size := by rw [m3]; omega
         refine (yln (g.ab lv i) (g.ab lv j) cap p s cc W hs (by rw [b1]; exact k1) m1 (by rw [b1]; exact c1) hsz (by unfold maxLen at m3'; omega) fun q x hq => ?_).mono ?_
         · have hq' := b2 q x hq
           have hrel := m8 q _ 0 _ hq' rfl
           rw [Lib.cell_of_heap m1]
           have hql : q < cc.size := Nat.lt_of_lt_of_le (List.getElem?_eq_some_iff.1 hq).1 hsz
           rw [Nat.mul_one, Nat.add_zero, Array.getD_eq_getD_getElem?, Array.getElem?_eq_getElem hql] at hrel
           rw [Array.getElem?_eq_getElem hql]
           simp only [Option.getD_some] at hrel
           generalize cc[q] = z at hrel
           cases hrel
           rfl
         · rintro e W' ⟨rfl, rfl⟩
           obtain ⟨g1, g2, g3, g4⟩ := ybp hG hgj
           have hfz : ∀ k, k ≠ g.ab lv j → (W.drew.freeze ⟨g.ab lv j, 0, none⟩ s.length).heap[k]? = W.heap[k]? := fun k hk => by
             unfold World.freeze
             split
             · rfl
             · simp only [Array.getElem?_modify]
               rw [if_neg (fun e => hk e.symm)]
               rfl
           have hsize : (W.drew.freeze ⟨g.ab lv j, 0, none⟩ s.length).heap.size = W.heap.size := by
             unfold World.freeze
             split
             · rfl
             · exact Array.size_modify ..
           have hos : (W.drew.freeze ⟨g.ab lv j, 0, none⟩ s.length).os = W.os ∧ (W.drew.freeze ⟨g.ab lv j, 0, none⟩ s.length).tape = W.tape ∧ (W.drew.freeze ⟨g.ab lv j, 0, none⟩ s.length).output = W.output := by unfold World.freeze; split <;> exact ⟨rfl, rfl, rfl⟩
           have hob : Own g ⟨lv, L, E⟩ (g.ab lv j) := ⟨_, _, _, hgj, rfl⟩
           have hst : Step W g ⟨lv, L, E⟩ (W.drew.freeze ⟨g.ab lv j, 0, none⟩ s.length) g ((⟨lv, L, E⟩ : Heap).zfj j) :=
             ⟨hos.1, hos.2.1, hos.2.2, Nat.le_of_eq hsize.symm, fun b hb hno => hfz b (fun e => hno (by rw [e]; exact hob)), g2.own, g2.dom, g2.new, g2.blk, g2.arr, g2.lv⟩
           have hst2 : ∀ l k o, ((⟨lv, L, E⟩ : Heap).zfj j).get l k = some o → o.blk g l k ≠ g.ab lv j := fun l k o ho e => by
             obtain ⟨q1, q2⟩ := Heap.zbo ho
             exact q2 (hG.inj _ _ _ _ _ _ q1 hgj e)
           refine ⟨.ret (.str s), (⟨lv, L, E⟩ : Heap).zfj j, g, ⟨rfl, L.set j none, rfl, by simp, fun k hk => ?_⟩, hst, ⟨g1.dom, fun l k o ho => by rw [hsize]; exact g1.lt l k o ho, g1.inj, g1.fresh, fun l k o ho => ?_, hG.zkb.step hst⟩, _, rfl, .str s⟩
           · rw [List.getElem?_set_ne (fun e => hk j ver ws.length rfl e.symm)]
           · have ho' := hG.obj l k o (Heap.zbo ho).1
             exact ho'.mono hst (hfz _ (hst2 l k o ho)) rfl rfl rfl
end Go.Proofs.YtfhpamcehnfhoaaGreatDoor


namespace Go.Proofs.YtfhpamcehnfhoaaGreatDoor
open Go Go.Ab Go.RowKit Go.Proofs
set_option linter.unusedVariables false
set_option linter.unusedSimpArgs false
set_option maxRecDepth 100000
def yzl : Nat → List Int → Option (List Int) := fun _ xs => some xs
noncomputable def zzd : FI dat :=
 { R := List Int, ent := fun n => { f := 94, p := 1, args := [.bp 0], aos := [.bld 74 1, .acc 5 (.int .u8) true], outs := [], ros := [.bld 74 1, .acc 5 (.int .u8) true], pan := .nilp, pos := [.bld 74 1, .acc 5 (.int .u8) true], pure := false, go := fun x k _ => (yzl n x.1).bind fun r => k (r, ()) },
   c := .skip, K := ⟨fun _ => none, [], fun _ => none, fun _ _ => none⟩, p := 0, args := [], aos := [], nt := 0, z8c := fun _ => [], go := fun _ _ => none }
def kzt : Nat → List Int → Option (List UInt8) := fun _ xs => zqy xs
noncomputable def kzf : FI dat :=
 { R := List UInt8, ent := fun n => { f := 39, p := 0, args := [.bp 0], aos := [.bld 74 1, .acc 5 (.int .u8) true], outs := [.d .str], ros := [], pan := .nilp, pos := [], pure := false, go := fun x k _ => (kzt n x.1).bind fun r => k (r, ()) },
   c := .skip, K := ⟨fun _ => none, [], fun _ => none, fun _ _ => none⟩, p := 0, args := [], aos := [], nt := 0, z8c := fun _ => [], go := fun _ _ => none }
theorem y7p {lv : Nat} {L : List (Option yz4)} {ρ0 : List Slot} {vargs : List V} {xs : List Int} (k1 : ρ0.length = 2) (k2 : VRL dat ρ0 lv [TV.bp 0 0] vargs)
  (k3 : ∀ j o, (j, o) ∈ [((0 : Nat), (TO.bld 74 (some 1) : TO dat.T)), (1, .acc 5 (.int .u8) xs true)] → ∃ sl, ρ0[j]? = some sl ∧ OR dat ρ0 lv L sl o) :
  ∃ s0 s1 i a c, ρ0 = [s0, s1] ∧ vargs = [.ap lv i 0 0 0] ∧ s0.k = some i ∧ L[i]? = some (some (.arr 0 74 2 [.agg [a, c]] (some 1))) ∧ (a = .nilp ∨ a = .ap lv i 0 0 0) ∧ VR dat ρ0 lv (.own 1) c ∧ OR dat ρ0 lv L s1 (.acc 5 (.int .u8) xs true) := by
 obtain ⟨s0, s1, rfl⟩ : ∃ s0 s1, ρ0 = [s0, s1] := by
  match ρ0, k1 with
  | [a, b], _ => exact ⟨a, b, rfl⟩
 simp only [VRL, VR] at k2
 obtain ⟨v, r, rfl, ⟨sl, i, e1, e2, rfl⟩, rfl⟩ := k2
 obtain rfl : s0 = sl := by simpa using e1
 obtain ⟨sl, e4, e5⟩ := k3 0 (.bld 74 (some 1)) (by simp)
 obtain rfl : s0 = sl := by simpa using e4
 simp only [OR] at e5
 obtain ⟨i', a, c, q1, q2, q3, q4⟩ := e5
 rw [e2] at q1; injection q1 with q1; subst q1
 obtain ⟨sl, e6, e7⟩ := k3 1 (.acc 5 (.int .u8) xs true) (by simp)
 obtain rfl : s1 = sl := by simpa using e6
 exact ⟨s0, s1, i, a, c, rfl, rfl, e2, q2, q3, q4, e7⟩
theorem z4t : FOk Tryz.prog zzd := fun n R x k kp r h => by
 refine .inl ⟨(x.1, ()), h, fun lv L E ρ0 vargs k1 k2 k3 k4 => ?_⟩
 obtain ⟨s0, s1, i, a, c, rfl, rfl, e2, q2, q3, q4, e7⟩ := y7p (xs := x.1) k1 k2 k3
 have hlt := (List.getElem?_eq_some_iff.1 q2).1
 refine (yk6 (E := E) q2 q3).mono fun o H' ⟨h1, h2⟩ => ⟨_, [s0, s1], h2, ⟨rfl, fun j o hm => ?_, k4, fun s sl i' r hk => .inr ⟨s, sl, r, hk⟩, fun i' hi' hno => ?_, fun j sl _ h => h⟩, fun q hq => by simp [zzd] at hq, [], h1, (by simp only [VRL] : VRL dat [s0, s1] lv [] [])⟩
 ·have hm : (j, o) ∈ [((0 : Nat), (TO.bld 74 (some 1) : TO dat.T)), (1, .acc 5 (.int .u8) x.1 true)] := hm
  simp only [List.mem_cons, List.not_mem_nil, or_false, Prod.mk.injEq] at hm
  rcases hm with ⟨rfl, rfl⟩ | ⟨rfl, rfl⟩
  ·refine ⟨s0, rfl, ?_⟩
   simp only [OR]
   exact ⟨i, .ap lv i 0 0 0, c, e2, by simp [hlt], .inr rfl, q4⟩
  ·refine ⟨s1, rfl, ?_⟩
   have := e7.mono (L' := L.set i (some (.arr 0 74 2 [.agg [.ap lv i 0 0 0, c]] (some 1)))) [] fun i' hi' _ => by
    rw [List.getElem?_set_ne]
    intro e
    subst e
    have := k4 0 1 s0 s1 i rfl rfl e2 hi'
    cases this
   simpa using this
 ·exact ⟨by simpa using hi', List.getElem?_set_ne fun e => hno 0 s0 rfl (by rw [e2, e])⟩
theorem z66 : FOk Tryz.prog kzf := fun n R x k kp r h => by
 obtain ⟨s, hs, h⟩ := Option.bind_eq_some_iff.1 h
 have hs : zqy x.1 = some s := hs
 refine .inl ⟨(s, ()), h, fun lv L E ρ0 vargs k1 k2 k3 k4 => ?_⟩
 obtain ⟨s0, s1, i, a, c, rfl, rfl, e2, q2, q3, q4, e7⟩ := y7p (xs := x.1) k1 k2 k3
 simp only [VR] at q4
 obtain ⟨sl, d1, d2, d3⟩ := q4
 obtain rfl : s1 = sl := by simpa using d1
 subst d2
 simp only [OR] at e7
 obtain ⟨p1, p2, p3⟩ := e7
 have hb : (s1.v = .nils ∧ s = []) ∨ ∃ j ver ws cp, s1.v = .hs lv j ver 0 ws.length false ∧ L[j]? = some (some (.arr ver 5 1 ws cp)) ∧ ze0 ws = some s ∧ s1.k = some j := by
  have hbv : ze0 s1.ws = some s := by rw [ztm x.1 s1.ws p1 p2, hs]
  cases hk : s1.k with
  | none =>
    rw [hk] at p3
    rcases p3 with ⟨w1, w2⟩ | ⟨⟨_, w2⟩, _⟩
    · rw [w2] at hbv
      simp only [ze0, Option.some.injEq] at hbv
      exact .inl ⟨w1, hbv.symm⟩
    · exact (w2 rfl).elim
  | some j =>
    rw [hk] at p3
    obtain ⟨ver, cp, w1, w2⟩ := p3
    exact .inr ⟨j, ver, s1.ws, cp, w1, w2, hbv, rfl⟩
 refine (yo0 (E := E) (s := s) q2 (hb.imp id fun ⟨j, ver, ws, cp, w1, w2, w3, _⟩ => ⟨j, ver, ws, cp, w1, w2, w3⟩)).mono fun o H' ⟨h1, L', h2, h3, h4⟩ => ⟨L', [], h2, ⟨rfl, fun j o hm => (by cases hm), fun _ _ _ _ _ h => (by simp at h), fun _ _ _ h => (by simp at h), fun i' hi' hno => ⟨by rw [h3]; exact hi', h4 i' fun j ver n hv e => ?_⟩, fun _ _ h => (Nat.not_lt_zero _ h).elim⟩, fun q hq => (by simp [kzf] at hq), [.str s], h1, ?_⟩
 ·rcases hb with ⟨w1, _⟩ | ⟨j', ver', ws, cp, w1, _, _, w4⟩
  ·rw [w1] at hv; cases hv
  ·rw [w1] at hv
   injection hv with _ hv
   subst hv
   exact hno 1 s1 rfl (by rw [w4, e])
 ·show VRL dat [] lv [TV.str s] [.str s]
  simp only [VRL, VR]
  exact ⟨_, _, rfl, rfl, rfl⟩
def kzd : Nat → List UInt8 → Option (List (List UInt8)) := fun _ s => if s.length < 4294967281 ∧ s.all (fun b => decide (b.toNat < 128)) = true then some (Lib.fields s) else none
def zh2 : LSh := ⟨[(2, (.d (.sl .str)))], [], 0, 106⟩
noncomputable def z3q : FI dat := FI.of dat 66 106 0 [(.d .str)] [] [(.d (.sl .str))] [] true zh2 (R := List (List UInt8)) (fun x => x.1) (fun r => (r, ())) (fun n x => kzd n x.1)
 (fun n => []) .skip
theorem zyx (s : List UInt8) (hl : s.length < 4294967281) (ha : s.all (fun b => decide (b.toNat < 128)) = true) : zj6 Tryz.prog 66 [.str s] (.sl 1 ((Lib.fields s).map V.str) false) := fun H W g cargs hG hA => by
 obtain ⟨x, rfl, h0⟩ := y5k hA
 cases h0
 have htab : Lib.TabIs Tryz.prog W "strings.asciiSpace" .u8 Lib.asciiSpaceTab := by
  obtain ⟨_, ty, q, hq⟩ := hG.zkb 0 gl0 rfl
  unfold Lib.TabIs World.var?
  rw [show Tryz.prog.globalNamed "strings.asciiSpace" = some 0 by kernel_rfl]
  simp only [Option.bind_some, hq]
  rfl
 refine .inl ⟨Tryz.call66 _ _, (Tryz.strings_Fields ⟨s.toArray⟩ W hl (fun j b hb => ?_) htab).mono fun e W' ⟨h1, h2⟩ => ?_⟩
 ·rw [List.all_eq_true] at ha
  exact of_decide_eq_true (ha b (List.mem_of_getElem? hb))
 ·subst h1; subst h2
  have hg : Grow W (W.alloc (.cells ((Lib.fields s).map fun l => Value.string ⟨l.toArray⟩).toArray 9)) := Grow.alloc W _
  refine ⟨_, g, rfl, hg.step, hG.grow hg, ?_⟩
  have hno : ¬ Own g H W.heap.size := fun ⟨l, i, o, h, he⟩ => by have := hG.lt l i o h; omega
  have hcell : ∀ (j : Nat) (l : List UInt8), (Lib.fields s)[j]? = some l → (W.alloc (.cells ((Lib.fields s).map fun l => Value.string ⟨l.toArray⟩).toArray 9)).cell? ⟨W.heap.size, j, none⟩ = some (.string ⟨l.toArray⟩) := fun j l hj => by
   rw [Lib.cell_of_heap (heap_alloc_new W _)]
   simp [hj]
  have key : ∀ (j : Nat) (y : V), ((Lib.fields s).map V.str)[j]? = some y → ∃ l, (Lib.fields s)[j]? = some l ∧ y = .str l := fun j y hj => by
   rw [List.getElem?_map, Option.map_eq_some_iff] at hj
   obtain ⟨l, h1, rfl⟩ := hj
   exact ⟨l, h1, rfl⟩
  have := Rel.sl (W := W.alloc (.cells ((Lib.fields s).map fun l => Value.string ⟨l.toArray⟩).toArray 9)) (g := g) (H := H) 1 ((Lib.fields s).map V.str) false W.heap.size 0 (Lib.fields s).length (fun j _ => .string ⟨((Lib.fields s)[j]?.getD []).toArray⟩) hno (by decide) (by simp) (by simp)
   (fun j y hj => by obtain ⟨l, _, rfl⟩ := key j y hj; rfl)
   (fun j y t v hj ht => by
    obtain ⟨l, hl', rfl⟩ := key j y hj
    cases t with
    | succ t => simp [V.cells] at ht
    | zero =>
      rw [hl']
      have := hcell j l hl'
      simpa using this)
   (fun j y t v hj ht => rfl)
   (fun j y t v hj ht => by
    obtain ⟨l, hl', rfl⟩ := key j y hj
    cases t with
    | succ t => simp [V.cells] at ht
    | zero =>
      simp only [V.cells, List.getElem?_cons_zero, Option.some.injEq] at ht
      subst ht
      rw [hl']
      exact .str l)
  simpa using this
theorem zc6 : FOk Tryz.prog z3q := fun n R x k kp r h => by
 obtain ⟨y, hy, h⟩ := Option.bind_eq_some_iff.1 (show (kzd n x.1).bind (fun r => k (r, ())) = some r from h)
 unfold kzd at hy
 split at hy
 ·rename_i hc
  injection hy with hy
  subst hy
  refine ⟨(_, ()), h, rfl, rfl, rfl, fun lv vargs ha => ⟨[.sl 1 ((Lib.fields x.1).map V.str) false], fun ρ lv' => ?_, ?_⟩⟩
  ·show VRL dat ρ lv' [TV.sl .str (Lib.fields x.1) 0] _
   simp only [VRL, VR]
   exact ⟨_, _, rfl, ⟨DR.elsl .str _ fun z => .str z, by omega, by omega⟩, rfl⟩
  ·have ha : VRL dat [] lv [TV.str x.1] vargs := ha
   simp only [VRL, VR] at ha
   obtain ⟨v, r1, rfl, rfl, rfl⟩ := ha
   exact zyx _ hc.1 hc.2
 ·cases hy
def yzj : Nat → Int → Int → Option (List UInt8) := fun _ n b => if b = 10 ∧ -9223372036854775808 ≤ n ∧ n ≤ 9223372036854775807 then some (Lib.itoa n) else none
def ze2 : LSh := ⟨[(4, (.d .str))], [], 0, 8⟩
noncomputable def z88 : FI dat := FI.of dat 157 8 0 [(.d (.int .i64)), (.d (.int .i64))] [] [(.d .str)] [] true ze2 (R := List UInt8) (fun x => x.1) (fun r => (r, ())) (fun n x => yzj n x.1 x.2.1)
 (fun n => []) .skip
theorem ylb (n : Int) (h0 : -9223372036854775808 ≤ n) (h1 : n ≤ 9223372036854775807) : zj6 Tryz.prog 157 [.int .i64 n, .int .i64 10] (.str (Lib.itoa n)) := fun H W g cargs hG hA => by
 obtain ⟨x, y, rfl, e0, e1⟩ := y28 hA
 cases e0; cases e1
 have htab : Lib.TabIs Tryz.prog W "internal/strconv.uint64pow10" .u64 Lib.pow10Tab := by
  obtain ⟨_, ty, q, hq⟩ := hG.zkb 3 gl3 rfl
  unfold Lib.TabIs World.var?
  rw [show Tryz.prog.globalNamed "internal/strconv.uint64pow10" = some 3 by kernel_rfl]
  simp only [Option.bind_some, hq]
  rfl
 have c := Any.strconv_FormatInt_10 { Tryz.yiv with } n h0 h1 W htab
 refine .inl ⟨Tryz.call157 _ _, c.mono fun e W' ⟨h1, k, os, h2⟩ => ?_⟩
 subst h1; subst h2
 have hg : Grow W (Sort.grow (W.drewN k) os) := ⟨rfl, rfl, rfl, by simp [Sort.grow, World.drewN], fun b hb => by
  show (W.heap ++ os)[b]? = _
  rw [Array.getElem?_append_left hb]⟩
 exact ⟨_, g, rfl, hg.step, hG.grow hg, .str _⟩
theorem zja : FOk Tryz.prog z88 := fun n R x k kp r h => by
 obtain ⟨y, hy, h⟩ := Option.bind_eq_some_iff.1 (show (yzj n x.1 x.2.1).bind (fun r => k (r, ())) = some r from h)
 unfold yzj at hy
 split at hy
 ·rename_i hc
  injection hy with hy
  subst hy
  refine ⟨(_, ()), h, rfl, rfl, rfl, fun lv vargs ha => ⟨[.str (Lib.itoa x.1)], fun ρ lv' => ?_, ?_⟩⟩
  ·show VRL dat ρ lv' [TV.str (Lib.itoa x.1)] _
   simp only [VRL, VR]
   exact ⟨_, _, rfl, rfl, rfl⟩
  ·have ha : VRL dat [] lv [TV.int .i64 x.1, TV.int .i64 x.2.1] vargs := ha
   simp only [VRL, VR] at ha
   obtain ⟨v, r1, rfl, rfl, v2, r2, rfl, rfl, rfl⟩ := ha
   rw [hc.1]
   exact ylb _ hc.2.1 hc.2.2
 ·cases hy
def yzo : Nat → List UInt8 → Int → Option Int := fun _ s c => some (Lib.indexByte s c.toNat.toUInt8)
def z5v : LSh := ⟨[(4, (.d (.int .i64)))], [], 0, 8⟩
noncomputable def z0n : FI dat := FI.of dat 163 8 0 [(.d .str), (.d (.int .u8))] [] [(.d (.int .i64))] [] true z5v (R := Int) (fun x => x.1) (fun r => (r, ())) (fun n x => yzo n x.1 x.2.1)
 (fun n => []) .skip
theorem yn8 (s : List UInt8) (c : Int) : zj6 Tryz.prog 163 [.str s, .int .u8 c] (.int .i64 (Lib.indexByte s c.toNat.toUInt8)) := fun H W g cargs hG hA => by
 obtain ⟨x, y, rfl, h0, h1⟩ := y28 hA
 cases h0; cases h1
 have c := Tryz.stringslite_IndexByte ⟨s.toArray⟩ c W
 refine .inl ⟨Tryz.call163 _ _, c.mono fun e W' ⟨h1, h2⟩ => ?_⟩
 subst h1; subst h2
 exact ⟨_, g, rfl, .refl _ _ _, hG, .int _ _⟩
theorem z9c : FOk Tryz.prog z0n := fun n R x k kp r h => by
 refine ⟨(Lib.indexByte x.1 x.2.1.toNat.toUInt8, ()), h, rfl, rfl, rfl, fun lv vargs ha => ⟨[.int .i64 (Lib.indexByte x.1 x.2.1.toNat.toUInt8)], fun ρ lv' => ?_, ?_⟩⟩
 ·show VRL dat ρ lv' [TV.int .i64 (Lib.indexByte x.1 x.2.1.toNat.toUInt8)] _
  simp only [VRL, VR]
  exact ⟨_, _, rfl, rfl, rfl⟩
 ·have ha : VRL dat [] lv [TV.str x.1, TV.int .u8 x.2.1] vargs := ha
  simp only [VRL, VR] at ha
  obtain ⟨v, r1, rfl, rfl, v2, r2, rfl, rfl, rfl⟩ := ha
  exact yn8 _ _
def yzp : Nat → List UInt8 → List UInt8 → Option Int := fun _ s t => match t with
 | [c] => some (Lib.indexByte s c)
 | _ => none
def z84 : LSh := ⟨[(4, (.d (.int .i64)))], [], 0, 143⟩
noncomputable def z1p : FI dat := FI.of dat 205 143 0 [(.d .str), (.d .str)] [] [(.d (.int .i64))] [] true z84 (R := Int) (fun x => x.1) (fun r => (r, ())) (fun n x => yzp n x.1 x.2.1)
 (fun n => []) .skip
theorem ymq (s : List UInt8) (c : UInt8) : zj6 Tryz.prog 205 [.str s, .str [c]] (.int .i64 (Lib.indexByte s c)) := fun H W g cargs hG hA => by
 obtain ⟨x, y, rfl, h0, h1⟩ := y28 hA
 cases h0; cases h1
 have c := Tryz.stringslite_Index_one ⟨s.toArray⟩ c W
 refine .inl ⟨Tryz.call205 _ _, c.mono fun e W' ⟨h1, h2⟩ => ?_⟩
 subst h1; subst h2
 exact ⟨_, g, rfl, .refl _ _ _, hG, .int _ _⟩
theorem zay : FOk Tryz.prog z1p := fun n R x k kp r h => by
 obtain ⟨s, t, u⟩ := x
 obtain ⟨y, hy, h⟩ := Option.bind_eq_some_iff.1 (show (yzp n s t).bind (fun r => k (r, ())) = some r from h)
 match t, hy with
 | [c], hy =>
   have hy : some (Lib.indexByte s c) = some y := hy
   injection hy with hy
   subst hy
   refine ⟨(_, ()), h, rfl, rfl, rfl, fun lv vargs ha => ⟨[.int .i64 (Lib.indexByte s c)], fun ρ lv' => ?_, ?_⟩⟩
   · show VRL dat ρ lv' [TV.int .i64 (Lib.indexByte s c)] _
     simp only [VRL, VR]
     exact ⟨_, _, rfl, rfl, rfl⟩
   · have ha : VRL dat [] lv [TV.str s, TV.str [c]] vargs := ha
     simp only [VRL, VR] at ha
     obtain ⟨v, r1, rfl, rfl, v2, r2, rfl, rfl, rfl⟩ := ha
     exact ymq _ _
end Go.Proofs.YtfhpamcehnfhoaaGreatDoor


namespace Go.Proofs.YtfhpamcehnfhoaaGreatDoor
open Go Go.Ab
set_option linter.unusedVariables false
set_option maxRecDepth 100000
mutual
def z5k : Nat → yz0 → Int → Option Bool
 | 0, _, _ => none
 | n + 1, a0, a1 =>
   pIf (a1 == 0)
     (z1d n a1 true a0.re)
     (pIf (decide ((a0.str.length : Int) > 200))
       (z1d n a1 true a0.re)
       (z1d n a1 (decide ((a0.list.length : Int) > 150)) a0.re))
def z1d : Nat → Int → Bool → yz0 → Option Bool
 | 0, _, _, _ => none
 | n + 1, a0, a1, a2 =>
   pIf a1
     (some true)
     (z2m n 0 a0 a2.re)
def z2m : Nat → Int → Int → yz0 → Option Bool
 | 0, _, _, _ => none
 | n + 1, a0, a1, a2 =>
   pIf (decide (a0 < (a2.list.length : Int)))
     ((ix a2.list a0).bind fun x0 =>
     (z5k n x0.re (IntKind.i64.wrap (a1 - 1))).bind fun y1 =>
     pIf y1
       (some true)
       (z2m n (IntKind.i64.wrap (a0 + 1)) a1 a2.re))
     (some false)
end
def y9h : LSh := ⟨[(4, (.d .bool))], [], 0, 35⟩
noncomputable def zbp : FI dat := FI.of dat 58 35 0 [(.d (.st 3)), (.d (.int .i64))] [] [(.d .bool)] [] true y9h (R := Bool) (fun x => x.1) (fun r => (r, ())) (fun n x => z5k n x.1 x.2.1)
 (fun n => [(0, ⟨⟨[(1, (.d (.int .i64))), (2, (.ptr 0 0)), (19, (.d .bool))], [(.st 3)], 0, 35⟩, fun x => z1d n x.1 x.2.1 x.2.2.1⟩), (1, ⟨⟨[(5, (.d (.int .i64))), (1, (.d (.int .i64))), (2, (.ptr 0 0))], [(.st 3)], 0, 35⟩, fun x => z2m n x.1 x.2.1 x.2.2.1⟩)]) (ann [(5, 0), (14, 1)] (Tryz.f58.body.getD .skip) 0).1
noncomputable def yan : List (FI dat) := [zbp] ++ []
theorem y88 : (zbp).Good Tryz.prog dat (tb yan) := FI.yz5 (hD := zz3 _) Tryz.func58 Tryz.ntmps58 Tryz.call58 (by kernel_rfl) (of_decide_eq_true (by kernel_rfl)) (by kernel_rfl) (fun n => by kernel_rfl) (fun x => by kernel_rfl) (fun _ => rfl) ⟨fun _ => rfl, fun _ => rfl, trivial⟩
 (fun n => fun x => (z5k.eq_2 x.1 x.2.1 n).trans (by kernel_rfl))
 (fun n => ⟨fun x => (z1d.eq_2 x.1 x.2.1 x.2.2.1 n).trans (by kernel_rfl),
  fun x => (z2m.eq_2 x.1 x.2.1 x.2.2.1 n).trans (by kernel_rfl),
  trivial⟩)
 (fun x => .inl rfl)
theorem y8s : OkL Tryz.prog [zbp] := z4s (zz3 _) (bs := []) trivial ⟨y88, trivial⟩
theorem y84 : FOk Tryz.prog zbp := y8s.1
mutual
def z4l : Nat → yz0 → Option Int
 | 0, _ => none
 | n + 1, a0 =>
   z2d n 0 1 a0.re
def z2d : Nat → Int → Int → yz0 → Option Int
 | 0, _, _, _ => none
 | n + 1, a0, a1, a2 =>
   pIf (decide (a0 < (a2.list.length : Int)))
     (z2b n a0 a1 (a2.kind == 4) a2.re)
     (z2b n a0 a1 false a2.re)
def z2b : Nat → Int → Int → Bool → yz0 → Option Int
 | 0, _, _, _, _ => none
 | n + 1, a0, a1, a2, a3 =>
   pIf a2
     ((ix a3.list a0).bind fun x0 =>
     (z4l n x0.re).bind fun y1 =>
     z2d n (IntKind.i64.wrap (a0 + 1)) (IntKind.i64.wrap (a1 + y1)) a3.re)
     (some a1)
end
def ybg : LSh := ⟨[(2, (.d (.int .i64)))], [], 0, 26⟩
noncomputable def z8h : FI dat := FI.of dat 59 26 0 [(.d (.st 3))] [] [(.d (.int .i64))] [] true ybg (R := Int) (fun x => x.1) (fun r => (r, ())) (fun n x => z4l n x.1)
 (fun n => [(0, ⟨⟨[(4, (.d (.int .i64))), (1, (.ptr 0 0)), (3, (.d (.int .i64)))], [(.st 3)], 0, 26⟩, fun x => z2d n x.1 x.2.1 x.2.2.1⟩), (1, ⟨⟨[(1, (.ptr 0 0)), (4, (.d (.int .i64))), (3, (.d (.int .i64))), (14, (.d .bool))], [(.st 3)], 0, 26⟩, fun x => z2b n x.1 x.2.1 x.2.2.1 x.2.2.2.1⟩)]) (ann [(8, 0), (12, 1)] (Tryz.f59.body.getD .skip) 0).1
noncomputable def y8y : List (FI dat) := [z8h] ++ []
theorem y8l : (z8h).Good Tryz.prog dat (tb y8y) := FI.yz5 (hD := zz3 _) Tryz.func59 Tryz.ntmps59 Tryz.call59 (by kernel_rfl) (of_decide_eq_true (by kernel_rfl)) (by kernel_rfl) (fun n => by kernel_rfl) (fun x => by kernel_rfl) (fun _ => rfl) ⟨fun _ => rfl, fun _ => rfl, trivial⟩
 (fun n => fun x => (z4l.eq_2 x.1 n).trans (by kernel_rfl))
 (fun n => ⟨fun x => (z2d.eq_2 x.1 x.2.1 x.2.2.1 n).trans (by kernel_rfl),
  fun x => (z2b.eq_2 x.1 x.2.1 x.2.2.1 x.2.2.2.1 n).trans (by kernel_rfl),
  trivial⟩)
 (fun x => .inl rfl)
theorem y8j : OkL Tryz.prog [z8h] := z4s (zz3 _) (bs := []) trivial ⟨y8l, trivial⟩
theorem zs9 : FOk Tryz.prog z8h := y8j.1
def z7f : Nat → yz0 → Option Bool
 | 0, _ => none
 | n + 1, a0 =>
   (z5k n a0.re 10).bind fun y0 =>
   pIf y0
     (some true)
     ((z4l n a0.re).bind fun y1 =>
     some (decide (y1 > 150)))
def yb5 : LSh := ⟨[(2, (.d .bool))], [], 0, 10⟩
noncomputable def zec : FI dat := FI.of dat 31 10 0 [(.d (.st 3))] [] [(.d .bool)] [] true yb5 (R := Bool) (fun x => x.1) (fun r => (r, ())) (fun n x => z7f n x.1)
 (fun n => []) (ann [] (Tryz.f31.body.getD .skip) 0).1
noncomputable def y9y : List (FI dat) := [zbp, z8h]
theorem y93 : (zec).Good Tryz.prog dat (tb y9y) := FI.yz5 (hD := zz3 _) Tryz.func31 Tryz.ntmps31 Tryz.call31 (by kernel_rfl) (of_decide_eq_true (by kernel_rfl)) (by kernel_rfl) (fun n => by kernel_rfl) (fun x => by kernel_rfl) (fun _ => rfl) trivial
 (fun n => fun x => (z7f.eq_2 x.1 n).trans (by kernel_rfl))
 (fun n => trivial)
 (fun x => .inl rfl)
theorem yar : OkL Tryz.prog [zec] := yze (zz3 _) (bs := [zbp, z8h]) ⟨y84, zs9, trivial⟩ y93
theorem y5u : FOk Tryz.prog zec := yar.1
mutual
def z5y : Nat → kz0 → Int → Option Bool
 | 0, _, _ => none
 | n + 1, a0, a1 =>
   pIf (a1 == 0)
     (z0k n a1 true a0.re)
     (pIf (decide ((a0.args.length : Int) > 150))
       (z0k n a1 true a0.re)
       (pIf (decide ((a0.name.length : Int) > 200))
         (z0k n a1 true a0.re)
         ((z7f n a0.value.re).bind fun y0 =>
         z0k n a1 y0 a0.re)))
def z0k : Nat → Int → Bool → kz0 → Option Bool
 | 0, _, _, _ => none
 | n + 1, a0, a1, a2 =>
   pIf a1
     (some true)
     (z2c n 0 a0 a2.re)
def z2c : Nat → Int → Int → kz0 → Option Bool
 | 0, _, _, _ => none
 | n + 1, a0, a1, a2 =>
   pIf (decide (a0 < (a2.args.length : Int)))
     ((ix a2.args a0).bind fun x1 =>
     (z5y n x1.re (IntKind.i64.wrap (a1 - 1))).bind fun y2 =>
     pIf y2
       (some true)
       (z2c n (IntKind.i64.wrap (a0 + 1)) a1 a2.re))
     (some false)
end
def ybf : LSh := ⟨[(4, (.d .bool))], [], 0, 40⟩
noncomputable def zbr : FI dat := FI.of dat 35 40 0 [(.d (.st 4)), (.d (.int .i64))] [] [(.d .bool)] [] true ybf (R := Bool) (fun x => x.1) (fun r => (r, ())) (fun n x => z5y n x.1 x.2.1)
 (fun n => [(0, ⟨⟨[(1, (.d (.int .i64))), (2, (.ptr 0 0)), (24, (.d .bool))], [(.st 4)], 0, 40⟩, fun x => z0k n x.1 x.2.1 x.2.2.1⟩), (1, ⟨⟨[(5, (.d (.int .i64))), (1, (.d (.int .i64))), (2, (.ptr 0 0))], [(.st 4)], 0, 40⟩, fun x => z2c n x.1 x.2.1 x.2.2.1⟩)]) (ann [(5, 0), (14, 1)] (Tryz.f35.body.getD .skip) 0).1
noncomputable def y9p : List (FI dat) := [zbr] ++ [zec]
theorem yak : (zbr).Good Tryz.prog dat (tb y9p) := FI.yz5 (hD := zz3 _) Tryz.func35 Tryz.ntmps35 Tryz.call35 (by kernel_rfl) (of_decide_eq_true (by kernel_rfl)) (by kernel_rfl) (fun n => by kernel_rfl) (fun x => by kernel_rfl) (fun _ => rfl) ⟨fun _ => rfl, fun _ => rfl, trivial⟩
 (fun n => fun x => (z5y.eq_2 x.1 x.2.1 n).trans (by kernel_rfl))
 (fun n => ⟨fun x => (z0k.eq_2 x.1 x.2.1 x.2.2.1 n).trans (by kernel_rfl),
  fun x => (z2c.eq_2 x.1 x.2.1 x.2.2.1 n).trans (by kernel_rfl),
  trivial⟩)
 (fun x => .inl rfl)
theorem y96 : OkL Tryz.prog [zbr] := z4s (zz3 _) (bs := [zec]) ⟨y5u, trivial⟩ ⟨yak, trivial⟩
theorem y7f : FOk Tryz.prog zbr := y96.1
mutual
def z4g : Nat → kz0 → Option Int
 | 0, _ => none
 | n + 1, a0 =>
   z2i n 0 1 a0.re
def z2i : Nat → Int → Int → kz0 → Option Int
 | 0, _, _, _ => none
 | n + 1, a0, a1, a2 =>
   pIf (decide (a0 < (a2.args.length : Int)))
     ((ix a2.args a0).bind fun x0 =>
     (z4g n x0.re).bind fun y1 =>
     z2i n (IntKind.i64.wrap (a0 + 1)) (IntKind.i64.wrap (a1 + y1)) a2.re)
     (some a1)
end
def ya6 : LSh := ⟨[(2, (.d (.int .i64)))], [], 0, 21⟩
noncomputable def z8n : FI dat := FI.of dat 36 21 0 [(.d (.st 4))] [] [(.d (.int .i64))] [] true ya6 (R := Int) (fun x => x.1) (fun r => (r, ())) (fun n x => z4g n x.1)
 (fun n => [(0, ⟨⟨[(4, (.d (.int .i64))), (1, (.ptr 0 0)), (3, (.d (.int .i64)))], [(.st 4)], 0, 21⟩, fun x => z2i n x.1 x.2.1 x.2.2.1⟩)]) (ann [(8, 0)] (Tryz.f36.body.getD .skip) 0).1
noncomputable def y8b : List (FI dat) := [z8n] ++ []
theorem yab : (z8n).Good Tryz.prog dat (tb y8b) := FI.yz5 (hD := zz3 _) Tryz.func36 Tryz.ntmps36 Tryz.call36 (by kernel_rfl) (of_decide_eq_true (by kernel_rfl)) (by kernel_rfl) (fun n => by kernel_rfl) (fun x => by kernel_rfl) (fun _ => rfl) ⟨fun _ => rfl, trivial⟩
 (fun n => fun x => (z4g.eq_2 x.1 n).trans (by kernel_rfl))
 (fun n => ⟨fun x => (z2i.eq_2 x.1 x.2.1 x.2.2.1 n).trans (by kernel_rfl),
  trivial⟩)
 (fun x => .inl rfl)
theorem yb9 : OkL Tryz.prog [z8n] := z4s (zz3 _) (bs := []) trivial ⟨yab, trivial⟩
theorem zt5 : FOk Tryz.prog z8n := yb9.1
def z5t : Nat → kz0 → Option Bool
 | 0, _ => none
 | n + 1, a0 =>
   (z5y n a0.re 16).bind fun y0 =>
   pIf y0
     (some true)
     ((z4g n a0.re).bind fun y1 =>
     some (decide (y1 > 150)))
def yah : LSh := ⟨[(2, (.d .bool))], [], 0, 10⟩
noncomputable def z9w : FI dat := FI.of dat 10 10 0 [(.d (.st 4))] [] [(.d .bool)] [] true yah (R := Bool) (fun x => x.1) (fun r => (r, ())) (fun n x => z5t n x.1)
 (fun n => []) (ann [] (Tryz.f10.body.getD .skip) 0).1
noncomputable def y8w : List (FI dat) := [zbr, z8n]
theorem y8i : (z9w).Good Tryz.prog dat (tb y8w) := FI.yz5 (hD := zz3 _) Tryz.func10 Tryz.ntmps10 Tryz.call10 (by kernel_rfl) (of_decide_eq_true (by kernel_rfl)) (by kernel_rfl) (fun n => by kernel_rfl) (fun x => by kernel_rfl) (fun _ => rfl) trivial
 (fun n => fun x => (z5t.eq_2 x.1 n).trans (by kernel_rfl))
 (fun n => trivial)
 (fun x => .inl rfl)
theorem ybe : OkL Tryz.prog [z9w] := yze (zz3 _) (bs := [zbr, z8n]) ⟨y7f, zt5, trivial⟩ y8i
theorem zsa : FOk Tryz.prog z9w := ybe.1
mutual
def z4v : Nat → kz0 → Option (Int × Int)
 | 0, _ => none
 | n + 1, a0 =>
   z1f n 0 1 1 a0.args (a0.args.length : Int)
def z1f : Nat → Int → Int → Int → (List kz0) → Int → Option (Int × Int)
 | 0, _, _, _, _, _ => none
 | n + 1, a0, a1, a2, a3, a4 =>
   pIf (decide (a0 < a4))
     ((ix a3 a0).bind fun x0 =>
     (z4v n x0.re).bind fun y1 =>
     z1f n (IntKind.i64.wrap (a0 + 1)) (mxI a1 (IntKind.i64.wrap (y1.2 + 1))) (IntKind.i64.wrap (a2 + y1.1)) a3 a4)
     (some (a2, a1))
end
def y66 : LSh := ⟨[(2, (.d (.int .i64))), (3, (.d (.int .i64)))], [], 0, 30⟩
noncomputable def zar : FI dat := FI.of dat 52 30 0 [(.d (.st 4))] [] [(.d (.int .i64)), (.d (.int .i64))] [] true y66 (R := Int × Int) (fun x => (x.1, x.2.1)) (fun r => (r.1, r.2, ())) (fun n x => z4v n x.1)
 (fun n => [(0, ⟨⟨[(11, (.d (.int .i64))), (3, (.d (.int .i64))), (2, (.d (.int .i64))), (9, (.d (.sl (.st 4)))), (10, (.d (.int .i64)))], [], 0, 30⟩, fun x => z1f n x.1 x.2.1 x.2.2.1 x.2.2.2.1 x.2.2.2.2.1⟩)]) (ann [(8, 0)] (Tryz.f52.body.getD .skip) 0).1
noncomputable def y4p : List (FI dat) := [zar] ++ []
theorem y6k : (zar).Good Tryz.prog dat (tb y4p) := FI.yz5 (hD := zz3 _) Tryz.func52 Tryz.ntmps52 Tryz.call52 (by kernel_rfl) (of_decide_eq_true (by kernel_rfl)) (by kernel_rfl) (fun n => by kernel_rfl) (fun x => by kernel_rfl) (fun _ => rfl) ⟨fun _ => rfl, trivial⟩
 (fun n => fun x => (z4v.eq_2 x.1 n).trans (by kernel_rfl))
 (fun n => ⟨fun x => (z1f.eq_2 x.1 x.2.1 x.2.2.1 x.2.2.2.1 x.2.2.2.2.1 n).trans (by kernel_rfl),
  trivial⟩)
 (fun x => .inl rfl)
theorem y7a : OkL Tryz.prog [zar] := z4s (zz3 _) (bs := []) trivial ⟨y6k, trivial⟩
theorem y46 : FOk Tryz.prog zar := y7a.1
mutual
def z8q : Nat → Int → Option Int
 | 0, _ => none
 | n + 1, a0 =>
   pIf (a0 == 12)
     (z0a n 3)
     (pIf (a0 == 3)
       (kzr n (-2) a0 true)
       (pIf (a0 == 4)
         (kzr n (-2) a0 true)
         (pIf (a0 == 5)
           (kzr n (-2) a0 true)
           (pIf (a0 == 6)
             (kzr n (-2) a0 true)
             (pIf (a0 == 7)
               (kzr n (-2) a0 true)
               (pIf (a0 == 8)
                 (kzr n (-2) a0 true)
                 (pIf (a0 == 9)
                   (kzr n (-2) a0 true)
                   (kzr n (-2) a0 (a0 == 10)))))))))
def kzr : Nat → Int → Int → Bool → Option Int
 | 0, _, _, _ => none
 | n + 1, a0, a1, a2 =>
   pIf a2
     (z56 n )
     (pIf (a1 == 13)
       (z3n n a0 a1 true)
       (pIf (a1 == 14)
         (z3n n a0 a1 true)
         (z3n n a0 a1 (a1 == 17))))
def z3n : Nat → Int → Int → Bool → Option Int
 | 0, _, _, _ => none
 | n + 1, a0, a1, a2 =>
   pIf a2
     (z56 n )
     (pIf (a1 == 11)
       (z3b n a0 a1 true)
       (pIf (a1 == 15)
         (z3b n a0 a1 true)
         (z3b n a0 a1 (a1 == 16))))
def z3b : Nat → Int → Int → Bool → Option Int
 | 0, _, _, _ => none
 | n + 1, a0, a1, a2 =>
   pIf a2
     (z0a n 1)
     (pIf (a1 == 1)
       (z5a n a0 a1 true)
       (z5a n a0 a1 (a1 == 2)))
def z5a : Nat → Int → Int → Bool → Option Int
 | 0, _, _, _ => none
 | n + 1, a0, a1, a2 =>
   pIf a2
     (z0a n 0)
     (pIf (a1 == 18)
       (z0a n (-1))
       (z0a n a0))
def z56 : Nat → Option Int
 | 0 => none
 | n + 1 =>
   z0a n 2
def z0a : Nat → Int → Option Int
 | 0, _ => none
 | n + 1, a0 =>
   some a0
end
def ygk : LSh := ⟨[(2, (.d (.int .i64)))], [], 0, 30⟩
noncomputable def zgi : FI dat := FI.of dat 83 30 0 [(.d (.int .u8))] [] [(.d (.int .i64))] [] true ygk (R := Int) (fun x => x.1) (fun r => (r, ())) (fun n x => z8q n x.1)
 (fun n => [(0, ⟨⟨[(3, (.d (.int .i64))), (4, (.d (.int .u8))), (7, (.d .bool))], [], 0, 30⟩, fun x => kzr n x.1 x.2.1 x.2.2.1⟩), (1, ⟨⟨[(3, (.d (.int .i64))), (4, (.d (.int .u8))), (16, (.d .bool))], [], 0, 30⟩, fun x => z3n n x.1 x.2.1 x.2.2.1⟩), (2, ⟨⟨[(3, (.d (.int .i64))), (4, (.d (.int .u8))), (20, (.d .bool))], [], 0, 30⟩, fun x => z3b n x.1 x.2.1 x.2.2.1⟩), (3, ⟨⟨[(3, (.d (.int .i64))), (4, (.d (.int .u8))), (24, (.d .bool))], [], 0, 30⟩, fun x => z5a n x.1 x.2.1 x.2.2.1⟩), (4, ⟨⟨[], [], 0, 30⟩, fun x => z56 n ⟩), (5, ⟨⟨[(3, (.d (.int .i64)))], [], 0, 30⟩, fun x => z0a n x.1⟩)]) (ann [(57, 0), (71, 1), (85, 2), (95, 3), (107, 4), (119, 5)] (Tryz.f83.body.getD .skip) 0).1
noncomputable def ygq : List (FI dat) := []
theorem yfu : (zgi).Good Tryz.prog dat (tb ygq) := FI.yz5 (hD := zz3 _) Tryz.func83 Tryz.ntmps83 Tryz.call83 (by kernel_rfl) (of_decide_eq_true (by kernel_rfl)) (by kernel_rfl) (fun n => by kernel_rfl) (fun x => by kernel_rfl) (fun _ => rfl) ⟨fun _ => rfl, fun _ => rfl, fun _ => rfl, fun _ => rfl, fun _ => rfl, fun _ => rfl, trivial⟩
 (fun n => fun x => (z8q.eq_2 x.1 n).trans (by kernel_rfl))
 (fun n => ⟨fun x => (kzr.eq_2 x.1 x.2.1 x.2.2.1 n).trans (by kernel_rfl),
  fun x => (z3n.eq_2 x.1 x.2.1 x.2.2.1 n).trans (by kernel_rfl),
  fun x => (z3b.eq_2 x.1 x.2.1 x.2.2.1 n).trans (by kernel_rfl),
  fun x => (z5a.eq_2 x.1 x.2.1 x.2.2.1 n).trans (by kernel_rfl),
  fun x => (z56.eq_2  n).trans (by kernel_rfl),
  fun x => (z0a.eq_2 x.1 n).trans (by kernel_rfl),
  trivial⟩)
 (fun x => .inl rfl)
theorem yd0 : OkL Tryz.prog [zgi] := yze (zz3 _) (bs := []) trivial yfu
theorem y8z : FOk Tryz.prog zgi := yd0.1
mutual
def z3h : Nat → yz0 → Option (Int × Int)
 | 0, _ => none
 | n + 1, a0 =>
   pIf (a0.kind == 4)
     (z0v n 0 1 1 a0.list (a0.list.length : Int))
     (z0u n 1 1)
def z0v : Nat → Int → Int → Int → (List yz0) → Int → Option (Int × Int)
 | 0, _, _, _, _, _ => none
 | n + 1, a0, a1, a2, a3, a4 =>
   pIf (decide (a0 < a4))
     ((ix a3 a0).bind fun x0 =>
     (z3h n x0.re).bind fun y1 =>
     z0v n (IntKind.i64.wrap (a0 + 1)) (mxI a1 (IntKind.i64.wrap (y1.2 + 1))) (IntKind.i64.wrap (a2 + y1.1)) a3 a4)
     (z0u n a1 a2)
def z0u : Nat → Int → Int → Option (Int × Int)
 | 0, _, _ => none
 | n + 1, a0, a1 =>
   some (a1, a0)
end
def y3a : LSh := ⟨[(2, (.d (.int .i64))), (3, (.d (.int .i64)))], [], 0, 33⟩
noncomputable def z9i : FI dat := FI.of dat 79 33 0 [(.d (.st 3))] [] [(.d (.int .i64)), (.d (.int .i64))] [] true y3a (R := Int × Int) (fun x => (x.1, x.2.1)) (fun r => (r.1, r.2, ())) (fun n x => z3h n x.1)
 (fun n => [(0, ⟨⟨[(14, (.d (.int .i64))), (3, (.d (.int .i64))), (2, (.d (.int .i64))), (12, (.d (.sl (.st 3)))), (13, (.d (.int .i64)))], [], 0, 33⟩, fun x => z0v n x.1 x.2.1 x.2.2.1 x.2.2.2.1 x.2.2.2.2.1⟩), (1, ⟨⟨[(3, (.d (.int .i64))), (2, (.d (.int .i64)))], [], 0, 33⟩, fun x => z0u n x.1 x.2.1⟩)]) (ann [(11, 0), (29, 1)] (Tryz.f79.body.getD .skip) 0).1
noncomputable def y3h : List (FI dat) := [z9i] ++ []
theorem y3w : (z9i).Good Tryz.prog dat (tb y3h) := FI.yz5 (hD := zz3 _) Tryz.func79 Tryz.ntmps79 Tryz.call79 (by kernel_rfl) (of_decide_eq_true (by kernel_rfl)) (by kernel_rfl) (fun n => by kernel_rfl) (fun x => by kernel_rfl) (fun _ => rfl) ⟨fun _ => rfl, fun _ => rfl, trivial⟩
 (fun n => fun x => (z3h.eq_2 x.1 n).trans (by kernel_rfl))
 (fun n => ⟨fun x => (z0v.eq_2 x.1 x.2.1 x.2.2.1 x.2.2.2.1 x.2.2.2.2.1 n).trans (by kernel_rfl),
  fun x => (z0u.eq_2 x.1 x.2.1 n).trans (by kernel_rfl),
  trivial⟩)
 (fun x => .inl rfl)
theorem y3t : OkL Tryz.prog [z9i] := z4s (zz3 _) (bs := []) trivial ⟨y3w, trivial⟩
theorem y0w : FOk Tryz.prog z9i := y3t.1
end Go.Proofs.YtfhpamcehnfhoaaGreatDoor


namespace Go.Proofs.YtfhpamcehnfhoaaGreatDoor
open Go Go.Ab
set_option linter.unusedVariables false
set_option maxRecDepth 100000
def z5i : Nat → Int → Option Int
 | 0, _ => none
 | n + 1, a0 =>
   pIf (decide (a0 < 0))
     (some (IntKind.u64.wrap (0 - (IntKind.u64.wrap a0))))
     (some (IntKind.u64.wrap a0))
def yfj : LSh := ⟨[(2, (.d (.int .u64)))], [], 0, 10⟩
noncomputable def zgl : FI dat := FI.of dat 138 10 0 [(.d (.int .i64))] [] [(.d (.int .u64))] [] true yfj (R := Int) (fun x => x.1) (fun r => (r, ())) (fun n x => z5i n x.1)
 (fun n => []) (ann [] (Tryz.f138.body.getD .skip) 0).1
noncomputable def yd4 : List (FI dat) := []
theorem yeb : (zgl).Good Tryz.prog dat (tb yd4) := FI.yz5 (hD := zz3 _) Tryz.func138 Tryz.ntmps138 Tryz.call138 (by kernel_rfl) (of_decide_eq_true (by kernel_rfl)) (by kernel_rfl) (fun n => by kernel_rfl) (fun x => by kernel_rfl) (fun _ => rfl) trivial
 (fun n => fun x => (z5i.eq_2 x.1 n).trans (by kernel_rfl))
 (fun n => trivial)
 (fun x => .inl rfl)
theorem yd5 : OkL Tryz.prog [zgl] := yze (zz3 _) (bs := []) trivial yeb
theorem y9z : FOk Tryz.prog zgl := yd5.1
mutual
def z8d : Nat → Int → Int → Option Int
 | 0, _, _ => none
 | n + 1, a0, a1 =>
   z2y n a1 a0
def z2y : Nat → Int → Int → Option Int
 | 0, _, _ => none
 | n + 1, a0, a1 =>
   pIf (a0 != 0)
     ((rem .u64 a1 a0).bind fun x0 =>
     z2y n x0 a0)
     (some a1)
end
def yhl : LSh := ⟨[(4, (.d (.int .u64)))], [], 0, 12⟩
noncomputable def ziu : FI dat := FI.of dat 139 12 0 [(.d (.int .u64)), (.d (.int .u64))] [] [(.d (.int .u64))] [] true yhl (R := Int) (fun x => x.1) (fun r => (r, ())) (fun n x => z8d n x.1 x.2.1)
 (fun n => [(0, ⟨⟨[(1, (.d (.int .u64))), (0, (.d (.int .u64)))], [], 0, 12⟩, fun x => z2y n x.1 x.2.1⟩)]) (ann [(4, 0)] (Tryz.f139.body.getD .skip) 0).1
noncomputable def yhc : List (FI dat) := []
theorem yhw : (ziu).Good Tryz.prog dat (tb yhc) := FI.yz5 (hD := zz3 _) Tryz.func139 Tryz.ntmps139 Tryz.call139 (by kernel_rfl) (of_decide_eq_true (by kernel_rfl)) (by kernel_rfl) (fun n => by kernel_rfl) (fun x => by kernel_rfl) (fun _ => rfl) ⟨fun _ => rfl, trivial⟩
 (fun n => fun x => (z8d.eq_2 x.1 x.2.1 n).trans (by kernel_rfl))
 (fun n => ⟨fun x => (z2y.eq_2 x.1 x.2.1 n).trans (by kernel_rfl),
  trivial⟩)
 (fun x => .inl rfl)
theorem yii : OkL Tryz.prog [ziu] := yze (zz3 _) (bs := []) trivial yhw
theorem ydb : FOk Tryz.prog ziu := yii.1
mutual
def z1r : Nat → zz2 → Option Int
 | 0, _ => none
 | n + 1, a0 =>
   pIf (decide (a0.den < 1))
     (z04 n true)
     (pIf (decide (a0.den > 1000000000))
       (z04 n true)
       ((z5i n a0.num).bind fun y0 =>
       pIf (decide (y0 > 1000000000))
         (z04 n true)
         ((z5i n a0.num).bind fun y1 =>
         (z8d n y1 (IntKind.u64.wrap a0.den)).bind fun y2 =>
         z04 n (y2 != 1))))
def z04 : Nat → Bool → Option Int
 | 0, _ => none
 | n + 1, a0 =>
   pIf a0
     (some 8)
     (some 0)
end
def yag : LSh := ⟨[(2, (.d (.int .i64)))], [], 0, 27⟩
noncomputable def z79 : FI dat := FI.of dat 108 27 0 [(.d (.st 2))] [] [(.d (.int .i64))] [] true yag (R := Int) (fun x => x.1) (fun r => (r, ())) (fun n x => z1r n x.1)
 (fun n => [(0, ⟨⟨[(26, (.d .bool))], [], 0, 27⟩, fun x => z04 n x.1⟩)]) (ann [(5, 0)] (Tryz.f108.body.getD .skip) 0).1
noncomputable def yas : List (FI dat) := [zgl, ziu]
theorem ybc : (z79).Good Tryz.prog dat (tb yas) := FI.yz5 (hD := zz3 _) Tryz.func108 Tryz.ntmps108 Tryz.call108 (by kernel_rfl) (of_decide_eq_true (by kernel_rfl)) (by kernel_rfl) (fun n => by kernel_rfl) (fun x => by kernel_rfl) (fun _ => rfl) ⟨fun _ => rfl, trivial⟩
 (fun n => fun x => (z1r.eq_2 x.1 n).trans (by kernel_rfl))
 (fun n => ⟨fun x => (z04.eq_2 x.1 n).trans (by kernel_rfl),
  trivial⟩)
 (fun x => .inl rfl)
theorem y95 : OkL Tryz.prog [z79] := yze (zz3 _) (bs := [zgl, ziu]) ⟨y9z, ydb, trivial⟩ ybc
theorem zm4 : FOk Tryz.prog z79 := y95.1
mutual
def z6w : Nat → yz0 → Option Bool
 | 0, _ => none
 | n + 1, a0 =>
   pIf (a0.kind == 1)
     ((z1r n a0.num).bind fun y0 =>
     pIf (y0 != 0)
       (some false)
       (z0z n (yz0.mk a0.kind (zz2.mk 0 0) a0.truth a0.str a0.list)))
     (pIf (a0.kind == 2)
       (z0z n (yz0.mk a0.kind a0.num false a0.str a0.list))
       (pIf (a0.kind == 3)
         (pIf (decide ((a0.str.length : Int) > 60))
           (some false)
           (z3d n 0 a0.re (yz0.mk a0.kind a0.num a0.truth [] a0.list)))
         (pIf (a0.kind == 4)
           (z3o n 0 a0.list (a0.list.length : Int) (yz0.mk a0.kind a0.num a0.truth a0.str []))
           (some false))))
def z3d : Nat → Int → yz0 → yz0 → Option Bool
 | 0, _, _, _ => none
 | n + 1, a0, a1, a2 =>
   pIf (decide (a0 < (a1.str.length : Int)))
     ((ix a1.str a0).bind fun x1 =>
     pIf (decide ((x1.toNat : Int) < 32))
       (z3e n a0 true a1.re a2.re)
       ((ix a1.str a0).bind fun x2 =>
       z3e n a0 (decide ((x2.toNat : Int) > 126)) a1.re a2.re))
     (z0z n a2.re)
def z3e : Nat → Int → Bool → yz0 → yz0 → Option Bool
 | 0, _, _, _, _ => none
 | n + 1, a0, a1, a2, a3 =>
   pIf a1
     (some false)
     (z3d n (IntKind.i64.wrap (a0 + 1)) a2.re a3.re)
def z3o : Nat → Int → (List yz0) → Int → yz0 → Option Bool
 | 0, _, _, _, _ => none
 | n + 1, a0, a1, a2, a3 =>
   pIf (decide (a0 < a2))
     ((ix a1 a0).bind fun x3 =>
     (z6w n x3.re).bind fun y4 =>
     pIf (!y4)
       (some false)
       (z3o n (IntKind.i64.wrap (a0 + 1)) a1 a2 a3.re))
     (z0z n a3.re)
def z0z : Nat → yz0 → Option Bool
 | 0, _ => none
 | n + 1, a0 =>
   pIf ((a0.num.num == 0) && ((a0.num.den == 0) && true))
     (pIf (!a0.truth)
       (pIf (a0.str == [])
         (some ((a0.list.length : Int) == 0))
         (some false))
       (some false))
     (some false)
end
def ye4 : LSh := ⟨[(2, (.d .bool))], [], 0, 81⟩
noncomputable def zdm : FI dat := FI.of dat 80 81 0 [(.d (.st 3))] [] [(.d .bool)] [] true ye4 (R := Bool) (fun x => x.1) (fun r => (r, ())) (fun n x => z6w n x.1)
 (fun n => [(0, ⟨⟨[(4, (.d (.int .i64))), (1, (.ptr 0 0)), (3, (.ptr 1 0))], [(.st 3), (.st 3)], 0, 81⟩, fun x => z3d n x.1 x.2.1 x.2.2.1⟩), (1, ⟨⟨[(1, (.ptr 0 0)), (3, (.ptr 1 0)), (4, (.d (.int .i64))), (46, (.d .bool))], [(.st 3), (.st 3)], 0, 81⟩, fun x => z3e n x.1 x.2.1 x.2.2.1 x.2.2.2.1⟩), (2, ⟨⟨[(53, (.d (.int .i64))), (51, (.d (.sl (.st 3)))), (3, (.ptr 0 0)), (52, (.d (.int .i64)))], [(.st 3)], 0, 81⟩, fun x => z3o n x.1 x.2.1 x.2.2.1 x.2.2.2.1⟩), (3, ⟨⟨[(3, (.ptr 0 0))], [(.st 3)], 0, 81⟩, fun x => z0z n x.1⟩)]) (ann [(40, 0), (51, 1), (65, 2), (87, 3)] (Tryz.f80.body.getD .skip) 0).1
noncomputable def yeg : List (FI dat) := [zdm] ++ [z79]
theorem ydo : (zdm).Good Tryz.prog dat (tb yeg) := FI.yz5 (hD := zz3 _) Tryz.func80 Tryz.ntmps80 Tryz.call80 (by kernel_rfl) (of_decide_eq_true (by kernel_rfl)) (by kernel_rfl) (fun n => by kernel_rfl) (fun x => by kernel_rfl) (fun _ => rfl) ⟨fun _ => rfl, fun _ => rfl, fun _ => rfl, fun _ => rfl, trivial⟩
 (fun n => fun x => (z6w.eq_2 x.1 n).trans (by kernel_rfl))
 (fun n => ⟨fun x => (z3d.eq_2 x.1 x.2.1 x.2.2.1 n).trans (by kernel_rfl),
  fun x => (z3e.eq_2 x.1 x.2.1 x.2.2.1 x.2.2.2.1 n).trans (by kernel_rfl),
  fun x => (z3o.eq_2 x.1 x.2.1 x.2.2.1 x.2.2.2.1 n).trans (by kernel_rfl),
  fun x => (z0z.eq_2 x.1 n).trans (by kernel_rfl),
  trivial⟩)
 (fun x => .inl rfl)
theorem ydf : OkL Tryz.prog [zdm] := z4s (zz3 _) (bs := [z79]) ⟨zm4, trivial⟩ ⟨ydo, trivial⟩
theorem yb0 : FOk Tryz.prog zdm := ydf.1
mutual
def z4j : Nat → yz0 → Option Int
 | 0, _ => none
 | n + 1, a0 =>
   (z3h n a0.re).bind fun y0 =>
   pIf (decide (y0.1 > 100))
     (z2g n true a0.re)
     (z2g n (decide (y0.2 > 6)) a0.re)
def z2g : Nat → Bool → yz0 → Option Int
 | 0, _, _ => none
 | n + 1, a0, a1 =>
   pIf a0
     (some 4)
     ((z6w n a1.re).bind fun y1 =>
     pIf (!y1)
       (some 8)
       (some 0))
end
def y8d : LSh := ⟨[(2, (.d (.int .i64)))], [], 0, 19⟩
noncomputable def z77 : FI dat := FI.of dat 46 19 0 [(.d (.st 3))] [] [(.d (.int .i64))] [] true y8d (R := Int) (fun x => x.1) (fun r => (r, ())) (fun n x => z4j n x.1)
 (fun n => [(0, ⟨⟨[(1, (.ptr 0 0)), (15, (.d .bool))], [(.st 3)], 0, 19⟩, fun x => z2g n x.1 x.2.1⟩)]) (ann [(7, 0)] (Tryz.f46.body.getD .skip) 0).1
noncomputable def y8t : List (FI dat) := [z9i, zdm]
theorem y9a : (z77).Good Tryz.prog dat (tb y8t) := FI.yz5 (hD := zz3 _) Tryz.func46 Tryz.ntmps46 Tryz.call46 (by kernel_rfl) (of_decide_eq_true (by kernel_rfl)) (by kernel_rfl) (fun n => by kernel_rfl) (fun x => by kernel_rfl) (fun _ => rfl) ⟨fun _ => rfl, trivial⟩
 (fun n => fun x => (z4j.eq_2 x.1 n).trans (by kernel_rfl))
 (fun n => ⟨fun x => (z2g.eq_2 x.1 x.2.1 n).trans (by kernel_rfl),
  trivial⟩)
 (fun x => .inl rfl)
theorem yae : OkL Tryz.prog [z77] := yze (zz3 _) (bs := [z9i, zdm]) ⟨y0w, yb0, trivial⟩ y9a
theorem zmc : FOk Tryz.prog z77 := yae.1
mutual
def z8k : Nat → (List UInt8) → Option Bool
 | 0, _ => none
 | n + 1, a0 =>
   pIf ((a0.length : Int) == 0)
     (z5c n a0 true)
     (z5c n a0 (decide ((a0.length : Int) > 40)))
def z5c : Nat → (List UInt8) → Bool → Option Bool
 | 0, _, _ => none
 | n + 1, a0, a1 =>
   pIf a1
     (some false)
     (z0f n a0 0)
def z0f : Nat → (List UInt8) → Nat → Option Bool
 | 0, _, _ => none
 | n + 1, a0, a1 =>
   pIf (decide (a1 < a0.length))
     (pIf (decide (((zav a0 a1).1 : Int) ≥ 97))
       (z3f n ((zav a0 a1).1 : Int) (a1 : Int) (decide (((zav a0 a1).1 : Int) ≤ 122)) a0 (a1 + (zav a0 a1).2))
       (z3f n ((zav a0 a1).1 : Int) (a1 : Int) false a0 (a1 + (zav a0 a1).2)))
     (some true)
def z3f : Nat → Int → Int → Bool → (List UInt8) → Nat → Option Bool
 | 0, _, _, _, _, _ => none
 | n + 1, a0, a1, a2, a3, a4 =>
   pIf (!a2)
     (pIf (a1 == 0)
       (z03 n true a3 a4)
       (pIf (a0 != 45)
         (pIf (decide (a0 < 48))
           (z03 n true a3 a4)
           (z03 n (decide (a0 > 57)) a3 a4))
         (z03 n false a3 a4)))
     (z03 n false a3 a4)
def z03 : Nat → Bool → (List UInt8) → Nat → Option Bool
 | 0, _, _, _ => none
 | n + 1, a0, a1, a2 =>
   pIf a0
     (some false)
     (z0f n a1 a2)
end
def ydi : LSh := ⟨[(2, (.d .bool))], [], 0, 44⟩
noncomputable def zfy : FI dat := FI.of dat 45 44 0 [(.d .str)] [] [(.d .bool)] [] true ydi (R := Bool) (fun x => x.1) (fun r => (r, ())) (fun n x => z8k n x.1)
 (fun n => [(0, ⟨⟨[(0, (.d .str)), (13, (.d .bool))], [], 0, 44⟩, fun x => z5c n x.1 x.2.1⟩), (1, ⟨⟨[(15, (.ptr 0 0))], [.siter], 0, 44⟩, fun x => z0f n x.1 x.2.1⟩), (2, ⟨⟨[(15, (.ptr 0 0)), (4, (.d (.int .i32))), (3, (.d (.int .i64))), (5, (.d .bool))], [.siter], 0, 44⟩, fun x => z3f n x.1 x.2.1 x.2.2.1 x.2.2.2.1 x.2.2.2.2.1⟩), (3, ⟨⟨[(15, (.ptr 0 0)), (43, (.d .bool))], [.siter], 0, 44⟩, fun x => z03 n x.1 x.2.1 x.2.2.1⟩)]) (ann [(5, 0), (14, 1), (26, 2), (28, 3)] (Tryz.f45.body.getD .skip) 0).1
noncomputable def yg9 : List (FI dat) := []
theorem yfa : (zfy).Good Tryz.prog dat (tb yg9) := FI.yz5 (hD := zz3 _) Tryz.func45 Tryz.ntmps45 Tryz.call45 (by kernel_rfl) (of_decide_eq_true (by kernel_rfl)) (by kernel_rfl) (fun n => by kernel_rfl) (fun x => by kernel_rfl) (fun _ => rfl) ⟨fun _ => rfl, fun _ => rfl, fun _ => rfl, fun _ => rfl, trivial⟩
 (fun n => fun x => (z8k.eq_2 x.1 n).trans (by kernel_rfl))
 (fun n => ⟨fun x => (z5c.eq_2 x.1 x.2.1 n).trans (by kernel_rfl),
  fun x => (z0f.eq_2 x.1 x.2.1 n).trans (by kernel_rfl),
  fun x => (z3f.eq_2 x.1 x.2.1 x.2.2.1 x.2.2.2.1 x.2.2.2.2.1 n).trans (by kernel_rfl),
  fun x => (z03.eq_2 x.1 x.2.1 x.2.2.1 n).trans (by kernel_rfl),
  trivial⟩)
 (fun x => .inl rfl)
theorem ydx : OkL Tryz.prog [zfy] := yze (zz3 _) (bs := []) trivial yfa
theorem y9j : FOk Tryz.prog zfy := ydx.1
def z8i : Nat → (List UInt8) → Option Bool
 | 0, _ => none
 | n + 1, a0 =>
   (z8k n a0).bind fun y0 =>
   pIf y0
     (pIf (!(a0 == [116, 114, 117, 101]))
       (some (!(a0 == [102, 97, 108, 115, 101])))
       (some false))
     (some false)
def yfz : LSh := ⟨[(2, (.d .bool))], [], 0, 13⟩
noncomputable def zfw : FI dat := FI.of dat 48 13 0 [(.d .str)] [] [(.d .bool)] [] true yfz (R := Bool) (fun x => x.1) (fun r => (r, ())) (fun n x => z8i n x.1)
 (fun n => []) (ann [] (Tryz.f48.body.getD .skip) 0).1
noncomputable def yfm : List (FI dat) := [zfy]
theorem yd1 : (zfw).Good Tryz.prog dat (tb yfm) := FI.yz5 (hD := zz3 _) Tryz.func48 Tryz.ntmps48 Tryz.call48 (by kernel_rfl) (of_decide_eq_true (by kernel_rfl)) (by kernel_rfl) (fun n => by kernel_rfl) (fun x => by kernel_rfl) (fun _ => rfl) trivial
 (fun n => fun x => (z8i.eq_2 x.1 n).trans (by kernel_rfl))
 (fun n => trivial)
 (fun x => .inl rfl)
theorem yf5 : OkL Tryz.prog [zfw] := yze (zz3 _) (bs := [zfy]) ⟨y9j, trivial⟩ yd1
theorem y91 : FOk Tryz.prog zfw := yf5.1
mutual
def z1v : Nat → yz0 → yz0 → Option Bool
 | 0, _, _ => none
 | n + 1, a0, a1 =>
   pIf (a0.kind != a1.kind)
     (z0c n true a1.re a0.re)
     (pIf (!((a0.num.num == a1.num.num) && ((a0.num.den == a1.num.den) && true)))
       (z0c n true a1.re a0.re)
       (pIf (!(a0.truth == a1.truth))
         (z0c n true a1.re a0.re)
         (pIf (!(a0.str == a1.str))
           (z0c n true a1.re a0.re)
           (z0c n ((a0.list.length : Int) != (a1.list.length : Int)) a1.re a0.re))))
def z0c : Nat → Bool → yz0 → yz0 → Option Bool
 | 0, _, _, _ => none
 | n + 1, a0, a1, a2 =>
   pIf a0
     (some false)
     (z36 n 0 (a2.list.length : Int) a1.re a2.re)
def z36 : Nat → Int → Int → yz0 → yz0 → Option Bool
 | 0, _, _, _, _ => none
 | n + 1, a0, a1, a2, a3 =>
   pIf (decide (a0 < a1))
     ((ix a3.list a0).bind fun x0 =>
     (ix a2.list a0).bind fun x1 =>
     (z1v n x0.re x1.re).bind fun y2 =>
     pIf (!y2)
       (some false)
       (z36 n (IntKind.i64.wrap (a0 + 1)) a1 a2.re a3.re))
     (some true)
end
def yec : LSh := ⟨[(4, (.d .bool))], [], 0, 60⟩
noncomputable def z9p : FI dat := FI.of dat 56 60 0 [(.d (.st 3)), (.d (.st 3))] [] [(.d .bool)] [] true yec (R := Bool) (fun x => x.1) (fun r => (r, ())) (fun n x => z1v n x.1 x.2.1)
 (fun n => [(0, ⟨⟨[(3, (.ptr 0 0)), (2, (.ptr 1 0)), (40, (.d .bool))], [(.st 3), (.st 3)], 0, 60⟩, fun x => z0c n x.1 x.2.1 x.2.2.1⟩), (1, ⟨⟨[(44, (.d (.int .i64))), (3, (.ptr 0 0)), (2, (.ptr 1 0)), (43, (.d (.int .i64)))], [(.st 3), (.st 3)], 0, 60⟩, fun x => z36 n x.1 x.2.1 x.2.2.1 x.2.2.2.1⟩)]) (ann [(5, 0), (14, 1)] (Tryz.f56.body.getD .skip) 0).1
noncomputable def yex : List (FI dat) := [z9p] ++ []
theorem ydd : (z9p).Good Tryz.prog dat (tb yex) := FI.yz5 (hD := zz3 _) Tryz.func56 Tryz.ntmps56 Tryz.call56 (by kernel_rfl) (of_decide_eq_true (by kernel_rfl)) (by kernel_rfl) (fun n => by kernel_rfl) (fun x => by kernel_rfl) (fun _ => rfl) ⟨fun _ => rfl, fun _ => rfl, trivial⟩
 (fun n => fun x => (z1v.eq_2 x.1 x.2.1 n).trans (by kernel_rfl))
 (fun n => ⟨fun x => (z0c.eq_2 x.1 x.2.1 x.2.2.1 n).trans (by kernel_rfl),
  fun x => (z36.eq_2 x.1 x.2.1 x.2.2.1 x.2.2.2.1 n).trans (by kernel_rfl),
  trivial⟩)
 (fun x => .inl rfl)
theorem ycu : OkL Tryz.prog [z9p] := z4s (zz3 _) (bs := []) trivial ⟨ydd, trivial⟩
theorem zv6 : FOk Tryz.prog z9p := ycu.1
mutual
def z8a : Nat → kz0 → Option Bool
 | 0, _ => none
 | n + 1, a0 =>
   (z8q n a0.op).bind fun y0 =>
   pIf (y0 == (-2))
     (z2w n true a0.re)
     (pIf (decide (y0 ≥ 0))
       (z2w n ((a0.args.length : Int) != y0) a0.re)
       (z2w n false a0.re))
def z2w : Nat → Bool → kz0 → Option Bool
 | 0, _, _ => none
 | n + 1, a0, a1 =>
   pIf a0
     (some false)
     (pIf (a1.op == 1)
       ((z4j n a1.value.re).bind fun y1 =>
       pIf (y1 != 0)
         (z2v n true a1.re)
         (pIf (a1.value.kind == 4)
           (z2v n true a1.re)
           (z2v n (!(a1.name == [])) a1.re)))
       (pIf (a1.op == 2)
         ((z8i n a1.name).bind fun y2 =>
         pIf (!y2)
           (z4q n true a1.re)
           ((z1v n a1.value.re (yz0.mk 0 (zz2.mk 0 0) false [] [])).bind fun y3 =>
           z4q n (!y3) a1.re))
         (pIf (!(a1.name == []))
           (z4n n true a1.re)
           ((z1v n a1.value.re (yz0.mk 0 (zz2.mk 0 0) false [] [])).bind fun y4 =>
           z4n n (!y4) a1.re))))
def z2v : Nat → Bool → kz0 → Option Bool
 | 0, _, _ => none
 | n + 1, a0, a1 =>
   pIf a0
     (some false)
     (z2x n a1.re)
def z4q : Nat → Bool → kz0 → Option Bool
 | 0, _, _ => none
 | n + 1, a0, a1 =>
   pIf a0
     (some false)
     (z2x n a1.re)
def z4n : Nat → Bool → kz0 → Option Bool
 | 0, _, _ => none
 | n + 1, a0, a1 =>
   pIf a0
     (some false)
     (z2x n a1.re)
def z2x : Nat → kz0 → Option Bool
 | 0, _ => none
 | n + 1, a0 =>
   (kza n a0.args).bind fun y5 =>
   some (!y5)
def kza : Nat → (List kz0) → Option Bool
 | 0, _ => none
 | n + 1, a0 =>
   (kzb n a0).bind fun y0 =>
   some (decide (y0 ≥ 0))
def kzb : Nat → (List kz0) → Option Int
 | 0, _ => none
 | n + 1, a0 =>
   yz8 n 0 a0 (a0.length : Int)
def yz8 : Nat → Int → (List kz0) → Int → Option Int
 | 0, _, _, _ => none
 | n + 1, a0, a1, a2 =>
   pIf (decide (a0 < a2))
     ((ix a1 a0).bind fun x0 =>
     (z7d n x0.re).bind fun y1 =>
     pIf y1
       (some a0)
       (yz8 n (IntKind.i64.wrap (a0 + 1)) a1 a2))
     (some (-1))
def z7d : Nat → kz0 → Option Bool
 | 0, _ => none
 | n + 1, a0 =>
   (z8a n a0.re).bind fun y0 =>
   some (!y0)
end
def yie : LSh := ⟨[(2, (.d .bool))], [], 0, 66⟩
noncomputable def zff : FI dat := FI.of dat 53 66 0 [(.d (.st 4))] [] [(.d .bool)] [] true yie (R := Bool) (fun x => x.1) (fun r => (r, ())) (fun n x => z8a n x.1)
 (fun n => [(0, ⟨⟨[(1, (.ptr 0 0)), (19, (.d .bool))], [(.st 4)], 0, 66⟩, fun x => z2w n x.1 x.2.1⟩), (1, ⟨⟨[(1, (.ptr 0 0)), (48, (.d .bool))], [(.st 4)], 0, 66⟩, fun x => z2v n x.1 x.2.1⟩), (2, ⟨⟨[(1, (.ptr 0 0)), (61, (.d .bool))], [(.st 4)], 0, 66⟩, fun x => z4q n x.1 x.2.1⟩), (3, ⟨⟨[(1, (.ptr 0 0)), (31, (.d .bool))], [(.st 4)], 0, 66⟩, fun x => z4n n x.1 x.2.1⟩), (4, ⟨⟨[(1, (.ptr 0 0))], [(.st 4)], 0, 66⟩, fun x => z2x n x.1⟩)]) (ann [(7, 0), (21, 1), (31, 2), (38, 3), (43, 4)] (Tryz.f53.body.getD .skip) 0).1
def zc8 : LSh := ⟨[(4, (.d .bool))], [], 0, 9⟩
noncomputable def z2o : FI dat := FI.of dat 84 9 0 [(.d (.sl (.st 4))), (.fn 85 [] [])] [] [(.d .bool)] [] true zc8 (R := Bool) (fun x => x.1) (fun r => (r, ())) (fun n x => kza n x.1)
 (fun n => []) (ann [] (Tryz.f84.body.getD .skip) 0).1
def ze4 : LSh := ⟨[(4, (.d (.int .i64)))], [], 0, 19⟩
noncomputable def z4c : FI dat := FI.of dat 114 19 0 [(.d (.sl (.st 4))), (.fn 85 [] [])] [] [(.d (.int .i64))] [] true ze4 (R := Int) (fun x => x.1) (fun r => (r, ())) (fun n x => kzb n x.1)
 (fun n => [(0, ⟨⟨[(8, (.d (.int .i64))), (0, (.d (.sl (.st 4)))), (1, (.fn 85 [] [])), (7, (.d (.int .i64)))], [], 0, 19⟩, fun x => yz8 n x.1 x.2.1 x.2.2.1⟩)]) (ann [(6, 0)] (Tryz.f114.body.getD .skip) 0).1
def yb8 : LSh := ⟨[(2, (.d .bool))], [], 0, 6⟩
noncomputable def znc : FI dat := FI.of dat 85 6 0 [(.d (.st 4))] [] [(.d .bool)] [] true yb8 (R := Bool) (fun x => x.1) (fun r => (r, ())) (fun n x => z7d n x.1)
 (fun n => []) (ann [] (Tryz.f85.body.getD .skip) 0).1
noncomputable def zn0 : List (FI dat) := [zff, z2o, z4c, znc] ++ [zgi, z77, zfw, z9p]
theorem yhn : (zff).Good Tryz.prog dat (tb zn0) := FI.yz5 (hD := zz3 _) Tryz.func53 Tryz.ntmps53 Tryz.call53 (by kernel_rfl) (of_decide_eq_true (by kernel_rfl)) (by kernel_rfl) (fun n => by kernel_rfl) (fun x => by kernel_rfl) (fun _ => rfl) ⟨fun _ => rfl, fun _ => rfl, fun _ => rfl, fun _ => rfl, fun _ => rfl, trivial⟩
 (fun n => fun x => (z8a.eq_2 x.1 n).trans (by kernel_rfl))
 (fun n => ⟨fun x => (z2w.eq_2 x.1 x.2.1 n).trans (by kernel_rfl),
  fun x => (z2v.eq_2 x.1 x.2.1 n).trans (by kernel_rfl),
  fun x => (z4q.eq_2 x.1 x.2.1 n).trans (by kernel_rfl),
  fun x => (z4n.eq_2 x.1 x.2.1 n).trans (by kernel_rfl),
  fun x => (z2x.eq_2 x.1 n).trans (by kernel_rfl),
  trivial⟩)
 (fun x => .inl rfl)
theorem zc7 : (z2o).Good Tryz.prog dat (tb zn0) := FI.yz5 (hD := zz3 _) Tryz.func84 Tryz.ntmps84 Tryz.call84 (by kernel_rfl) (of_decide_eq_true (by kernel_rfl)) (by kernel_rfl) (fun n => by kernel_rfl) (fun x => by kernel_rfl) (fun _ => rfl) trivial
 (fun n => fun x => (kza.eq_2 x.1 n).trans (by kernel_rfl))
 (fun n => trivial)
 (fun x => .inl rfl)
theorem ze3 : (z4c).Good Tryz.prog dat (tb zn0) := FI.yz5 (hD := zz3 _) Tryz.func114 Tryz.ntmps114 Tryz.call114 (by kernel_rfl) (of_decide_eq_true (by kernel_rfl)) (by kernel_rfl) (fun n => by kernel_rfl) (fun x => by kernel_rfl) (fun _ => rfl) ⟨fun _ => rfl, trivial⟩
 (fun n => fun x => (kzb.eq_2 x.1 n).trans (by kernel_rfl))
 (fun n => ⟨fun x => (yz8.eq_2 x.1 x.2.1 x.2.2.1 n).trans (by kernel_rfl),
  trivial⟩)
 (fun x => .inl rfl)
theorem y8v : (znc).Good Tryz.prog dat (tb zn0) := FI.yz5 (hD := zz3 _) Tryz.func85 Tryz.ntmps85 Tryz.call85 (by kernel_rfl) (of_decide_eq_true (by kernel_rfl)) (by kernel_rfl) (fun n => by kernel_rfl) (fun x => by kernel_rfl) (fun _ => rfl) trivial
 (fun n => fun x => (z7d.eq_2 x.1 n).trans (by kernel_rfl))
 (fun n => trivial)
 (fun x => .inl rfl)
theorem yk4 : OkL Tryz.prog [zff, z2o, z4c, znc] := z4s (zz3 _) (bs := [zgi, z77, zfw, z9p]) ⟨y8z, zmc, y91, zv6, trivial⟩ ⟨yhn, zc7, ze3, y8v, trivial⟩
theorem ygb : FOk Tryz.prog zff := yk4.1
end Go.Proofs.YtfhpamcehnfhoaaGreatDoor


namespace Go.Proofs.YtfhpamcehnfhoaaGreatDoor
open Go Go.Ab
set_option linter.unusedVariables false
set_option maxRecDepth 100000
mutual
def z2z : Nat → kz0 → Option Int
 | 0, _ => none
 | n + 1, a0 =>
   (z4v n a0.re).bind fun y0 =>
   pIf (decide (y0.1 > 100))
     (z3p n true a0.re)
     (z3p n (decide (y0.2 > 12)) a0.re)
def z3p : Nat → Bool → kz0 → Option Int
 | 0, _, _ => none
 | n + 1, a0, a1 =>
   pIf a0
     (some 4)
     ((z8a n a1.re).bind fun y1 =>
     pIf (!y1)
       (some 8)
       (some 0))
end
def yf6 : LSh := ⟨[(2, (.d (.int .i64)))], [], 0, 19⟩
noncomputable def z8f : FI dat := FI.of dat 24 19 0 [(.d (.st 4))] [] [(.d (.int .i64))] [] true yf6 (R := Int) (fun x => x.1) (fun r => (r, ())) (fun n x => z2z n x.1)
 (fun n => [(0, ⟨⟨[(1, (.ptr 0 0)), (15, (.d .bool))], [(.st 4)], 0, 19⟩, fun x => z3p n x.1 x.2.1⟩)]) (ann [(7, 0)] (Tryz.f24.body.getD .skip) 0).1
noncomputable def yg6 : List (FI dat) := [zar, zff]
theorem yfh : (z8f).Good Tryz.prog dat (tb yg6) := FI.yz5 (hD := zz3 _) Tryz.func24 Tryz.ntmps24 Tryz.call24 (by kernel_rfl) (of_decide_eq_true (by kernel_rfl)) (by kernel_rfl) (fun n => by kernel_rfl) (fun x => by kernel_rfl) (fun _ => rfl) ⟨fun _ => rfl, trivial⟩
 (fun n => fun x => (z2z.eq_2 x.1 n).trans (by kernel_rfl))
 (fun n => ⟨fun x => (z3p.eq_2 x.1 x.2.1 n).trans (by kernel_rfl),
  trivial⟩)
 (fun x => .inl rfl)
theorem yea : OkL Tryz.prog [z8f] := yze (zz3 _) (bs := [zar, zff]) ⟨y46, ygb, trivial⟩ yfh
theorem zny : FOk Tryz.prog z8f := yea.1
mutual
def z4k : Nat → zz2 → Option ((List UInt8) × Int)
 | 0, _ => none
 | n + 1, a0 =>
   (z1r n a0).bind fun y0 =>
   pIf (y0 != 0)
     (some ([], y0))
     ((yzj n a0.num 10).bind fun y1 =>
     pIf (a0.den != 1)
       ((yzj n a0.den 10).bind fun y2 =>
       (cat [47] y2).bind fun x3 =>
       (cat y1 x3).bind fun x4 =>
       z5d n x4)
       (z5d n y1))
def z5d : Nat → (List UInt8) → Option ((List UInt8) × Int)
 | 0, _ => none
 | n + 1, a0 =>
   some (a0, 0)
end
def ydq : LSh := ⟨[(2, (.d .str)), (3, (.d (.int .i64)))], [], 0, 24⟩
noncomputable def zb1 : FI dat := FI.of dat 127 24 0 [(.d (.st 2))] [] [(.d .str), (.d (.int .i64))] [] true ydq (R := (List UInt8) × Int) (fun x => (x.1, x.2.1)) (fun r => (r.1, r.2, ())) (fun n x => z4k n x.1)
 (fun n => [(0, ⟨⟨[(5, (.d .str))], [], 0, 24⟩, fun x => z5d n x.1⟩)]) (ann [(20, 0)] (Tryz.f127.body.getD .skip) 0).1
noncomputable def yfr : List (FI dat) := [z79, z88]
theorem yei : (zb1).Good Tryz.prog dat (tb yfr) := FI.yz5 (hD := zz3 _) Tryz.func127 Tryz.ntmps127 Tryz.call127 (by kernel_rfl) (of_decide_eq_true (by kernel_rfl)) (by kernel_rfl) (fun n => by kernel_rfl) (fun x => by kernel_rfl) (fun _ => rfl) ⟨fun _ => rfl, trivial⟩
 (fun n => fun x => (z4k.eq_2 x.1 n).trans (by kernel_rfl))
 (fun n => ⟨fun x => (z5d.eq_2 x.1 n).trans (by kernel_rfl),
  trivial⟩)
 (fun x => .inl rfl)
theorem ygt : OkL Tryz.prog [zb1] := yze (zz3 _) (bs := [z79, z88]) ⟨zm4, zja, trivial⟩ yei
theorem zvl : FOk Tryz.prog zb1 := ygt.1
def kz4 : Nat → (List UInt8) → (List Int) → Option (Int × (List Int))
 | 0, _, _ => none
 | n + 1, a0, a1 =>
   (yzl n a1).bind fun y0 =>
   (ext y0 (yza a0)).bind fun x1 =>
   some ((a0.length : Int), x1)
def ziy : LSh := ⟨[(4, (.d (.int .i64))), (5, .nili)], [(.bld 74 1), (.acc 5 (.int .u8) true)], 1, 19⟩
noncomputable def zzp : FI dat := FI.of dat 64 19 1 [(.bp 0), (.d .str)] [(.bld 74 1), (.acc 5 (.int .u8) true)] [(.d (.int .i64)), .nili] [(.bld 74 1), (.acc 5 (.int .u8) true)] false ziy (R := Int × (List Int)) (fun x => (x.1, x.2.1)) (fun r => (r.1, r.2, ())) (fun n x => kz4 n x.1 x.2.1)
 (fun n => []) (ann [] (Tryz.f64.body.getD .skip) 0).1
noncomputable def zj7 : List (FI dat) := [zzd]
theorem zim : (zzp).Good Tryz.prog dat (tb zj7) := FI.yz5 (hD := zz3 _) Tryz.func64 Tryz.ntmps64 Tryz.call64 (by kernel_rfl) (of_decide_eq_true (by kernel_rfl)) (by kernel_rfl) (fun n => by kernel_rfl) (fun x => by kernel_rfl) (fun _ => rfl) trivial
 (fun n => fun x => (kz4.eq_2 x.1 x.2.1 n).trans (by kernel_rfl))
 (fun n => trivial)
 (fun x => .inr (by kernel_rfl))
theorem ziw : OkL Tryz.prog [zzp] := yze (zz3 _) (bs := [zzd]) ⟨z4t, trivial⟩ zim
theorem zap : FOk Tryz.prog zzp := ziw.1
def zz8 : Nat → Int → (List Int) → Option (List Int)
 | 0, _, _ => none
 | n + 1, a0, a1 =>
   (yzl n a1).bind fun y0 =>
   (ext y0 [a0]).bind fun x1 =>
   some x1
def zk5 : LSh := ⟨[(4, .nili)], [(.bld 74 1), (.acc 5 (.int .u8) true)], 1, 17⟩
noncomputable def yzw : FI dat := FI.of dat 128 17 1 [(.bp 0), (.d (.int .u8))] [(.bld 74 1), (.acc 5 (.int .u8) true)] [.nili] [(.bld 74 1), (.acc 5 (.int .u8) true)] false zk5 (R := List Int) (fun x => x.1) (fun r => (r, ())) (fun n x => zz8 n x.1 x.2.1)
 (fun n => []) (ann [] (Tryz.f128.body.getD .skip) 0).1
noncomputable def zkk : List (FI dat) := [zzd]
theorem zkc : (yzw).Good Tryz.prog dat (tb zkk) := FI.yz5 (hD := zz3 _) Tryz.func128 Tryz.ntmps128 Tryz.call128 (by kernel_rfl) (of_decide_eq_true (by kernel_rfl)) (by kernel_rfl) (fun n => by kernel_rfl) (fun x => by kernel_rfl) (fun _ => rfl) trivial
 (fun n => fun x => (zz8.eq_2 x.1 x.2.1 n).trans (by kernel_rfl))
 (fun n => trivial)
 (fun x => .inr (by kernel_rfl))
theorem zkj : OkL Tryz.prog [yzw] := yze (zz3 _) (bs := [zzd]) ⟨z4t, trivial⟩ zkc
theorem zbh : FOk Tryz.prog yzw := zkj.1
mutual
def z4z : Nat → Int → (List Int) → Option (List Int)
 | 0, _, _ => none
 | n + 1, a0, a1 =>
   pIf (decide ((IntKind.u32.wrap a0) ≤ 2047))
     ((shr .i32 a0 6).bind fun x0 =>
     (ext a1 [(bits BinOp.or .u8 192 (IntKind.u8.wrap x0)), (bits BinOp.or .u8 128 (bits BinOp.and .u8 (IntKind.u8.wrap a0) 63))]).bind fun x1 =>
     some x1)
     (pIf (decide ((IntKind.u32.wrap a0) < 55296))
       (kzq n a0 (IntKind.u32.wrap a0) true a1)
       (pIf (decide (57343 < (IntKind.u32.wrap a0)))
         (kzq n a0 (IntKind.u32.wrap a0) (decide ((IntKind.u32.wrap a0) ≤ 65535)) a1)
         (kzq n a0 (IntKind.u32.wrap a0) false a1)))
def kzq : Nat → Int → Int → Bool → (List Int) → Option (List Int)
 | 0, _, _, _, _ => none
 | n + 1, a0, a1, a2, a3 =>
   pIf a2
     ((shr .i32 a0 12).bind fun x2 =>
     (shr .i32 a0 6).bind fun x3 =>
     (ext a3 [(bits BinOp.or .u8 224 (IntKind.u8.wrap x2)), (bits BinOp.or .u8 128 (bits BinOp.and .u8 (IntKind.u8.wrap x3) 63)), (bits BinOp.or .u8 128 (bits BinOp.and .u8 (IntKind.u8.wrap a0) 63))]).bind fun x4 =>
     some x4)
     (pIf (decide (a1 > 65535))
       (z0t n a0 (decide (a1 ≤ 1114111)) a3)
       (z0t n a0 false a3))
def z0t : Nat → Int → Bool → (List Int) → Option (List Int)
 | 0, _, _, _ => none
 | n + 1, a0, a1, a2 =>
   pIf a1
     ((shr .i32 a0 18).bind fun x5 =>
     (shr .i32 a0 12).bind fun x6 =>
     (shr .i32 a0 6).bind fun x7 =>
     (ext a2 [(bits BinOp.or .u8 240 (IntKind.u8.wrap x5)), (bits BinOp.or .u8 128 (bits BinOp.and .u8 (IntKind.u8.wrap x6) 63)), (bits BinOp.or .u8 128 (bits BinOp.and .u8 (IntKind.u8.wrap x7) 63)), (bits BinOp.or .u8 128 (bits BinOp.and .u8 (IntKind.u8.wrap a0) 63))]).bind fun x8 =>
     some x8)
     ((ext a2 [239, 191, 189]).bind fun x9 =>
     some x9)
end
def zfi : LSh := ⟨[(4, (.own 0))], [(.acc 5 (.int .u8) true)], 0, 78⟩
noncomputable def z09 : FI dat := FI.of dat 176 78 0 [(.own 0), (.d (.int .i32))] [(.acc 5 (.int .u8) true)] [(.own 0)] [(.acc 5 (.int .u8) true)] false zfi (R := List Int) (fun x => x.1) (fun r => (r, ())) (fun n x => z4z n x.1 x.2.1)
 (fun n => [(0, ⟨⟨[(1, (.d (.int .i32))), (0, (.own 0)), (5, (.d (.int .u32))), (25, (.d .bool))], [(.acc 5 (.int .u8) true)], 0, 78⟩, fun x => kzq n x.1 x.2.1 x.2.2.1 x.2.2.2.1⟩), (1, ⟨⟨[(1, (.d (.int .i32))), (0, (.own 0)), (50, (.d .bool))], [(.acc 5 (.int .u8) true)], 0, 78⟩, fun x => z0t n x.1 x.2.1 x.2.2.1⟩)]) (ann [(17, 0), (23, 1)] (Tryz.f176.body.getD .skip) 0).1
noncomputable def zfm : List (FI dat) := []
theorem zfg : (z09).Good Tryz.prog dat (tb zfm) := FI.yz5 (hD := zz3 _) Tryz.func176 Tryz.ntmps176 Tryz.call176 (by kernel_rfl) (of_decide_eq_true (by kernel_rfl)) (by kernel_rfl) (fun n => by kernel_rfl) (fun x => by kernel_rfl) (fun _ => rfl) ⟨fun _ => rfl, fun _ => rfl, trivial⟩
 (fun n => fun x => (z4z.eq_2 x.1 x.2.1 n).trans (by kernel_rfl))
 (fun n => ⟨fun x => (kzq.eq_2 x.1 x.2.1 x.2.2.1 x.2.2.2.1 n).trans (by kernel_rfl),
  fun x => (z0t.eq_2 x.1 x.2.1 x.2.2.1 n).trans (by kernel_rfl),
  trivial⟩)
 (fun x => .inr (by kernel_rfl))
theorem zfl : OkL Tryz.prog [z09] := yze (zz3 _) (bs := []) trivial zfg
theorem zen : FOk Tryz.prog z09 := zfl.1
def kzk : Nat → Int → (List Int) → Option (List Int)
 | 0, _, _ => none
 | n + 1, a0, a1 =>
   pIf (decide ((IntKind.u32.wrap a0) ≤ 127))
     ((ext a1 [(IntKind.u8.wrap a0)]).bind fun x0 =>
     some x0)
     ((z4z n a0 a1).bind fun y1 =>
     some y1)
def zmh : LSh := ⟨[(4, (.own 0))], [(.acc 5 (.int .u8) true)], 0, 16⟩
noncomputable def z3v : FI dat := FI.of dat 158 16 0 [(.own 0), (.d (.int .i32))] [(.acc 5 (.int .u8) true)] [(.own 0)] [(.acc 5 (.int .u8) true)] false zmh (R := List Int) (fun x => x.1) (fun r => (r, ())) (fun n x => kzk n x.1 x.2.1)
 (fun n => []) (ann [] (Tryz.f158.body.getD .skip) 0).1
noncomputable def zmj : List (FI dat) := [z09]
theorem zme : (z3v).Good Tryz.prog dat (tb zmj) := FI.yz5 (hD := zz3 _) Tryz.func158 Tryz.ntmps158 Tryz.call158 (by kernel_rfl) (of_decide_eq_true (by kernel_rfl)) (by kernel_rfl) (fun n => by kernel_rfl) (fun x => by kernel_rfl) (fun _ => rfl) trivial
 (fun n => fun x => (kzk.eq_2 x.1 x.2.1 n).trans (by kernel_rfl))
 (fun n => trivial)
 (fun x => .inr (by kernel_rfl))
theorem zmf : OkL Tryz.prog [z3v] := yze (zz3 _) (bs := [z09]) ⟨zen, trivial⟩ zme
theorem zm3 : FOk Tryz.prog z3v := zmf.1
def yzg : Nat → Int → (List Int) → Option (Int × (List Int))
 | 0, _, _ => none
 | n + 1, a0, a1 =>
   (yzl n a1).bind fun y0 =>
   (kzk n a0 y0).bind fun y1 =>
   some ((IntKind.i64.wrap ((y1.length : Int) - (y0.length : Int))), y1)
def zk6 : LSh := ⟨[(4, (.d (.int .i64))), (5, .nili)], [(.bld 74 1), (.acc 5 (.int .u8) true)], 1, 30⟩
noncomputable def z2n : FI dat := FI.of dat 129 30 1 [(.bp 0), (.d (.int .i32))] [(.bld 74 1), (.acc 5 (.int .u8) true)] [(.d (.int .i64)), .nili] [(.bld 74 1), (.acc 5 (.int .u8) true)] false zk6 (R := Int × (List Int)) (fun x => (x.1, x.2.1)) (fun r => (r.1, r.2, ())) (fun n x => yzg n x.1 x.2.1)
 (fun n => []) (ann [] (Tryz.f129.body.getD .skip) 0).1
noncomputable def zkd : List (FI dat) := [zzd, z3v]
theorem zki : (z2n).Good Tryz.prog dat (tb zkd) := FI.yz5 (hD := zz3 _) Tryz.func129 Tryz.ntmps129 Tryz.call129 (by kernel_rfl) (of_decide_eq_true (by kernel_rfl)) (by kernel_rfl) (fun n => by kernel_rfl) (fun x => by kernel_rfl) (fun _ => rfl) trivial
 (fun n => fun x => (yzg.eq_2 x.1 x.2.1 n).trans (by kernel_rfl))
 (fun n => trivial)
 (fun x => .inr (by kernel_rfl))
theorem zkf : OkL Tryz.prog [z2n] := yze (zz3 _) (bs := [zzd, z3v]) ⟨z4t, zm3, trivial⟩ zki
theorem zjs : FOk Tryz.prog z2n := zkf.1
mutual
def z4h : Nat → yz0 → (List Int) → Option (List Int)
 | 0, _, _ => none
 | n + 1, a0, a1 =>
   pIf (a0.kind == 1)
     ((z4k n a0.num).bind fun y0 =>
     (kz4 n y0.1 a1).bind fun y1 =>
     some y1.2)
     (pIf (a0.kind == 2)
       (pIf a0.truth
         ((kz4 n [116, 114, 117, 101] a1).bind fun y2 =>
         some y2.2)
         ((kz4 n [102, 97, 108, 115, 101] a1).bind fun y3 =>
         some y3.2))
       (pIf (a0.kind == 3)
         ((zz8 n 34 a1).bind fun y4 =>
         z18 n y4 a0.str 0)
         (pIf (a0.kind == 4)
           ((zz8 n 91 a1).bind fun y5 =>
           zc5 n 0 a0.list (a0.list.length : Int) y5)
           (some a1))))
def z18 : Nat → (List Int) → (List UInt8) → Nat → Option (List Int)
 | 0, _, _, _ => none
 | n + 1, a0, a1, a2 =>
   pIf (decide (a2 < a1.length))
     (pIf (((zav a1 a2).1 : Int) == 34)
       (z14 n ((zav a1 a2).1 : Int) a0 a1 (a2 + (zav a1 a2).2))
       (pIf (((zav a1 a2).1 : Int) == 92)
         (z14 n ((zav a1 a2).1 : Int) a0 a1 (a2 + (zav a1 a2).2))
         (z15 n ((zav a1 a2).1 : Int) a0 a1 (a2 + (zav a1 a2).2))))
     ((zz8 n 34 a0).bind fun y6 =>
     some y6)
def z14 : Nat → Int → (List Int) → (List UInt8) → Nat → Option (List Int)
 | 0, _, _, _, _ => none
 | n + 1, a0, a1, a2, a3 =>
   (zz8 n 92 a1).bind fun y10 =>
   z15 n a0 y10 a2 a3
def z15 : Nat → Int → (List Int) → (List UInt8) → Nat → Option (List Int)
 | 0, _, _, _, _ => none
 | n + 1, a0, a1, a2, a3 =>
   (yzg n a0 a1).bind fun y11 =>
   z18 n y11.2 a2 a3
def zc5 : Nat → Int → (List yz0) → Int → (List Int) → Option (List Int)
 | 0, _, _, _, _ => none
 | n + 1, a0, a1, a2, a3 =>
   pIf (decide (a0 < a2))
     ((ix a1 a0).bind fun x7 =>
     pIf (decide (a0 > 0))
       ((kz4 n [44, 32] a3).bind fun y8 =>
       zc0 n a1 a2 a0 y8.2 x7.re)
       (zc0 n a1 a2 a0 a3 x7.re))
     ((zz8 n 93 a3).bind fun y9 =>
     some y9)
def zc0 : Nat → (List yz0) → Int → Int → (List Int) → yz0 → Option (List Int)
 | 0, _, _, _, _, _ => none
 | n + 1, a0, a1, a2, a3, a4 =>
   (z4h n a4.re a3).bind fun y12 =>
   zc5 n (IntKind.i64.wrap (a2 + 1)) a0 a1 y12
end
def yaw : LSh := ⟨[], [(.bld 74 1), (.acc 5 (.int .u8) true)], 1, 75⟩
noncomputable def zbv : FI dat := FI.of dat 93 75 1 [(.bp 0), (.d (.st 3))] [(.bld 74 1), (.acc 5 (.int .u8) true)] [] [(.bld 74 1), (.acc 5 (.int .u8) true)] false yaw (R := List Int) (fun x => x.1) (fun r => (r, ())) (fun n x => z4h n x.1 x.2.1)
 (fun n => [(0, ⟨⟨[(0, (.bp 0)), (37, (.ptr 2 0))], [(.bld 74 1), (.acc 5 (.int .u8) true), .siter], 1, 75⟩, fun x => z18 n x.1 x.2.1 x.2.2.1⟩), (1, ⟨⟨[(0, (.bp 0)), (37, (.ptr 2 0)), (7, (.d (.int .i32)))], [(.bld 74 1), (.acc 5 (.int .u8) true), .siter], 1, 75⟩, fun x => z14 n x.1 x.2.1 x.2.2.1 x.2.2.2.1⟩), (2, ⟨⟨[(0, (.bp 0)), (37, (.ptr 2 0)), (7, (.d (.int .i32)))], [(.bld 74 1), (.acc 5 (.int .u8) true), .siter], 1, 75⟩, fun x => z15 n x.1 x.2.1 x.2.2.1 x.2.2.2.1⟩), (3, ⟨⟨[(60, (.d (.int .i64))), (0, (.bp 0)), (58, (.d (.sl (.st 3)))), (59, (.d (.int .i64)))], [(.bld 74 1), (.acc 5 (.int .u8) true)], 1, 75⟩, fun x => zc5 n x.1 x.2.1 x.2.2.1 x.2.2.2.1⟩), (4, ⟨⟨[(0, (.bp 0)), (58, (.d (.sl (.st 3)))), (59, (.d (.int .i64))), (60, (.d (.int .i64))), (9, (.ptr 2 0))], [(.bld 74 1), (.acc 5 (.int .u8) true), (.st 3)], 1, 75⟩, fun x => zc0 n x.1 x.2.1 x.2.2.1 x.2.2.2.1 x.2.2.2.2.1⟩)]) (ann [(28, 0), (59, 1), (60, 2), (73, 3), (90, 4)] (Tryz.f93.body.getD .skip) 0).1
noncomputable def yap : List (FI dat) := [zbv] ++ [zb1, zzp, yzw, z2n]
theorem yaa : (zbv).Good Tryz.prog dat (tb yap) := FI.yz5 (hD := zz3 _) Tryz.func93 Tryz.ntmps93 Tryz.call93 (by kernel_rfl) (of_decide_eq_true (by kernel_rfl)) (by kernel_rfl) (fun n => by kernel_rfl) (fun x => by kernel_rfl) (fun _ => rfl) ⟨fun _ => rfl, fun _ => rfl, fun _ => rfl, fun _ => rfl, fun _ => rfl, trivial⟩
 (fun n => fun x => (z4h.eq_2 x.1 x.2.1 n).trans (by kernel_rfl))
 (fun n => ⟨fun x => (z18.eq_2 x.1 x.2.1 x.2.2.1 n).trans (by kernel_rfl),
  fun x => (z14.eq_2 x.1 x.2.1 x.2.2.1 x.2.2.2.1 n).trans (by kernel_rfl),
  fun x => (z15.eq_2 x.1 x.2.1 x.2.2.1 x.2.2.2.1 n).trans (by kernel_rfl),
  fun x => (zc5.eq_2 x.1 x.2.1 x.2.2.1 x.2.2.2.1 n).trans (by kernel_rfl),
  fun x => (zc0.eq_2 x.1 x.2.1 x.2.2.1 x.2.2.2.1 x.2.2.2.2.1 n).trans (by kernel_rfl),
  trivial⟩)
 (fun x => .inr (by kernel_rfl))
theorem y8n : OkL Tryz.prog [zbv] := z4s (zz3 _) (bs := [zb1, zzp, yzw, z2n]) ⟨zvl, zap, zbh, zjs, trivial⟩ ⟨yaa, trivial⟩
theorem y5h : FOk Tryz.prog zbv := y8n.1
end Go.Proofs.YtfhpamcehnfhoaaGreatDoor


namespace Go.Proofs.YtfhpamcehnfhoaaGreatDoor
open Go Go.Ab
set_option linter.unusedVariables false
set_option maxRecDepth 100000
def yzn : Nat → (List Int) → Option (Int × (List Int))
 | 0, _ => none
 | n + 1, a0 =>
   some ((a0.length : Int), a0)
def zr0 : LSh := ⟨[(2, (.d (.int .i64)))], [(.bld 74 1), (.acc 5 (.int .u8) true)], 1, 8⟩
noncomputable def z26 : FI dat := FI.of dat 38 8 1 [(.bp 0)] [(.bld 74 1), (.acc 5 (.int .u8) true)] [(.d (.int .i64))] [(.bld 74 1), (.acc 5 (.int .u8) true)] false zr0 (R := Int × (List Int)) (fun x => (x.1, x.2.1)) (fun r => (r.1, r.2, ())) (fun n x => yzn n x.1)
 (fun n => []) (ann [] (Tryz.f38.body.getD .skip) 0).1
noncomputable def zrd : List (FI dat) := []
theorem zrb : (z26).Good Tryz.prog dat (tb zrd) := FI.yz5 (hD := zz3 _) Tryz.func38 Tryz.ntmps38 Tryz.call38 (by kernel_rfl) (of_decide_eq_true (by kernel_rfl)) (by kernel_rfl) (fun n => by kernel_rfl) (fun x => by kernel_rfl) (fun _ => rfl) trivial
 (fun n => fun x => (yzn.eq_2 x.1 n).trans (by kernel_rfl))
 (fun n => trivial)
 (fun x => .inr (by kernel_rfl))
theorem zr8 : OkL Tryz.prog [z26] := yze (zz3 _) (bs := []) trivial zrb
theorem zgb : FOk Tryz.prog z26 := zr8.1
def z6o : Nat → yz0 → Option ((List UInt8) × Int)
 | 0, _ => none
 | n + 1, a0 =>
   (z4j n a0.re).bind fun y0 =>
   pIf (y0 != 0)
     (some ([], y0))
     ((z4h n a0.re []).bind fun y1 =>
     (yzn n y1).bind fun y2 =>
     pIf (decide (y2.1 > 4000))
       (some ([], 4))
       ((kzt n y2.2).bind fun y3 =>
       some (y3, 0)))
def yfq : LSh := ⟨[(2, (.d .str)), (3, (.d (.int .i64)))], [], 0, 16⟩
noncomputable def zgk : FI dat := FI.of dat 63 16 0 [(.d (.st 3))] [] [(.d .str), (.d (.int .i64))] [] true yfq (R := (List UInt8) × Int) (fun x => (x.1, x.2.1)) (fun r => (r.1, r.2, ())) (fun n x => z6o n x.1)
 (fun n => []) (ann [] (Tryz.f63.body.getD .skip) 0).1
noncomputable def yem : List (FI dat) := [z77, zbv, z26, kzf]
theorem ygc : (zgk).Good Tryz.prog dat (tb yem) := FI.yz5 (hD := zz3 _) Tryz.func63 Tryz.ntmps63 Tryz.call63 (by kernel_rfl) (of_decide_eq_true (by kernel_rfl)) (by kernel_rfl) (fun n => by kernel_rfl) (fun x => by kernel_rfl) (fun _ => rfl) trivial
 (fun n => fun x => (z6o.eq_2 x.1 n).trans (by kernel_rfl))
 (fun n => trivial)
 (fun x => .inl rfl)
theorem yda : OkL Tryz.prog [zgk] := yze (zz3 _) (bs := [z77, zbv, z26, kzf]) ⟨zmc, y5h, zgb, z66, trivial⟩ ygc
theorem y89 : FOk Tryz.prog zgk := yda.1
mutual
def z61 : Nat → Int → Option (List UInt8)
 | 0, _ => none
 | n + 1, a0 =>
   pIf (decide (a0 < 3))
     (z32 n a0 true)
     (z32 n a0 (decide (a0 > 10)))
def z32 : Nat → Int → Bool → Option (List UInt8)
 | 0, _, _ => none
 | n + 1, a0, a1 =>
   pIf a1
     (some [])
     ((kzd n [43, 32, 45, 32, 42, 32, 47, 32, 60, 32, 61, 32, 97, 110, 100, 32, 111, 114]).bind fun y0 =>
     (ix y0 (IntKind.u8.wrap (a0 - 3))).bind fun x1 =>
     some x1)
end
def yh8 : LSh := ⟨[(2, (.d .str))], [], 0, 14⟩
noncomputable def zcf : FI dat := FI.of dat 65 14 0 [(.d (.int .u8))] [] [(.d .str)] [] true yh8 (R := List UInt8) (fun x => x.1) (fun r => (r, ())) (fun n x => z61 n x.1)
 (fun n => [(0, ⟨⟨[(0, (.d (.int .u8))), (8, (.d .bool))], [], 0, 14⟩, fun x => z32 n x.1 x.2.1⟩)]) (ann [(5, 0)] (Tryz.f65.body.getD .skip) 0).1
noncomputable def yj8 : List (FI dat) := [z3q]
theorem yjs : (zcf).Good Tryz.prog dat (tb yj8) := FI.yz5 (hD := zz3 _) Tryz.func65 Tryz.ntmps65 Tryz.call65 (by kernel_rfl) (of_decide_eq_true (by kernel_rfl)) (by kernel_rfl) (fun n => by kernel_rfl) (fun x => by kernel_rfl) (fun _ => rfl) ⟨fun _ => rfl, trivial⟩
 (fun n => fun x => (z61.eq_2 x.1 n).trans (by kernel_rfl))
 (fun n => ⟨fun x => (z32.eq_2 x.1 x.2.1 n).trans (by kernel_rfl),
  trivial⟩)
 (fun x => .inl rfl)
theorem yi2 : OkL Tryz.prog [zcf] := yze (zz3 _) (bs := [z3q]) ⟨zc6, trivial⟩ yjs
theorem zys : FOk Tryz.prog zcf := yi2.1
mutual
def z5h : Nat → kz0 → (List Int) → Option (List Int)
 | 0, _, _ => none
 | n + 1, a0, a1 =>
   pIf (a0.op == 1)
     ((z6o n a0.value.re).bind fun y0 =>
     pIf (y0.2 == 0)
       ((kz4 n y0.1 a1).bind fun y1 =>
       some y1.2)
       (some a1))
     (pIf (a0.op == 2)
       ((kz4 n a0.name a1).bind fun y2 =>
       some y2.2)
       ((z61 n a0.op).bind fun y3 =>
       pIf (!(y3 == []))
         ((z61 n a0.op).bind fun y4 =>
         (cat [32] y4).bind fun x5 =>
         (cat x5 [32]).bind fun x6 =>
         z10 n x6 [41] [40] a1 a0.re)
         (pIf (a0.op != 18)
           ((kzd n [110, 111, 116, 32, 105, 102, 32, 109, 105, 110, 32, 109, 97, 120, 32, 102, 108, 111, 111, 114, 32, 108, 101, 110, 32, 97, 116]).bind fun y7 =>
           (ix y7 (IntKind.u8.wrap (a0.op - 11))).bind fun x8 =>
           (cat x8 [40]).bind fun x9 =>
           z10 n [44, 32] [41] x9 a1 a0.re)
           (z10 n [44, 32] [93] [91] a1 a0.re))))
def z10 : Nat → (List UInt8) → (List UInt8) → (List UInt8) → (List Int) → kz0 → Option (List Int)
 | 0, _, _, _, _, _ => none
 | n + 1, a0, a1, a2, a3, a4 =>
   (kz4 n a2 a3).bind fun y10 =>
   z1x n 0 a0 a4.args a1 (a4.args.length : Int) y10.2
def z1x : Nat → Int → (List UInt8) → (List kz0) → (List UInt8) → Int → (List Int) → Option (List Int)
 | 0, _, _, _, _, _, _ => none
 | n + 1, a0, a1, a2, a3, a4, a5 =>
   pIf (decide (a0 < a4))
     ((ix a2 a0).bind fun x11 =>
     pIf (decide (a0 > 0))
       ((kz4 n a1 a5).bind fun y12 =>
       z1w n a1 a2 a3 a4 a0 y12.2 x11.re)
       (z1w n a1 a2 a3 a4 a0 a5 x11.re))
     ((kz4 n a3 a5).bind fun y13 =>
     some y13.2)
def z1w : Nat → (List UInt8) → (List kz0) → (List UInt8) → Int → Int → (List Int) → kz0 → Option (List Int)
 | 0, _, _, _, _, _, _, _ => none
 | n + 1, a0, a1, a2, a3, a4, a5, a6 =>
   (z5h n a6.re a5).bind fun y14 =>
   z1x n (IntKind.i64.wrap (a4 + 1)) a0 a1 a2 a3 y14
end
def yep : LSh := ⟨[], [(.bld 74 1), (.acc 5 (.int .u8) true)], 1, 78⟩
noncomputable def zdq : FI dat := FI.of dat 37 78 1 [(.bp 0), (.d (.st 4))] [(.bld 74 1), (.acc 5 (.int .u8) true)] [] [(.bld 74 1), (.acc 5 (.int .u8) true)] false yep (R := List Int) (fun x => x.1) (fun r => (r, ())) (fun n x => z5h n x.1 x.2.1)
 (fun n => [(0, ⟨⟨[(0, (.bp 0)), (5, (.d .str)), (6, (.d .str)), (3, (.ptr 2 0)), (4, (.d .str))], [(.bld 74 1), (.acc 5 (.int .u8) true), (.st 4)], 1, 78⟩, fun x => z10 n x.1 x.2.1 x.2.2.1 x.2.2.2.1 x.2.2.2.2.1⟩), (1, ⟨⟨[(61, (.d (.int .i64))), (0, (.bp 0)), (5, (.d .str)), (59, (.d (.sl (.st 4)))), (6, (.d .str)), (60, (.d (.int .i64)))], [(.bld 74 1), (.acc 5 (.int .u8) true)], 1, 78⟩, fun x => z1x n x.1 x.2.1 x.2.2.1 x.2.2.2.1 x.2.2.2.2.1 x.2.2.2.2.2.1⟩), (2, ⟨⟨[(0, (.bp 0)), (5, (.d .str)), (59, (.d (.sl (.st 4)))), (6, (.d .str)), (60, (.d (.int .i64))), (61, (.d (.int .i64))), (10, (.ptr 2 0))], [(.bld 74 1), (.acc 5 (.int .u8) true), (.st 4)], 1, 78⟩, fun x => z1w n x.1 x.2.1 x.2.2.1 x.2.2.2.1 x.2.2.2.2.1 x.2.2.2.2.2.1 x.2.2.2.2.2.2.1⟩)]) (ann [(33, 0), (39, 1), (56, 2)] (Tryz.f37.body.getD .skip) 0).1
noncomputable def ygm : List (FI dat) := [zdq] ++ [zgk, zzp, zcf, z3q]
theorem ygo : (zdq).Good Tryz.prog dat (tb ygm) := FI.yz5 (hD := zz3 _) Tryz.func37 Tryz.ntmps37 Tryz.call37 (by kernel_rfl) (of_decide_eq_true (by kernel_rfl)) (by kernel_rfl) (fun n => by kernel_rfl) (fun x => by kernel_rfl) (fun _ => rfl) ⟨fun _ => rfl, fun _ => rfl, fun _ => rfl, trivial⟩
 (fun n => fun x => (z5h.eq_2 x.1 x.2.1 n).trans (by kernel_rfl))
 (fun n => ⟨fun x => (z10.eq_2 x.1 x.2.1 x.2.2.1 x.2.2.2.1 x.2.2.2.2.1 n).trans (by kernel_rfl),
  fun x => (z1x.eq_2 x.1 x.2.1 x.2.2.1 x.2.2.2.1 x.2.2.2.2.1 x.2.2.2.2.2.1 n).trans (by kernel_rfl),
  fun x => (z1w.eq_2 x.1 x.2.1 x.2.2.1 x.2.2.2.1 x.2.2.2.2.1 x.2.2.2.2.2.1 x.2.2.2.2.2.2.1 n).trans (by kernel_rfl),
  trivial⟩)
 (fun x => .inr (by kernel_rfl))
theorem ygv : OkL Tryz.prog [zdq] := z4s (zz3 _) (bs := [zgk, zzp, zcf, z3q]) ⟨y89, zap, zys, zc6, trivial⟩ ⟨ygo, trivial⟩
theorem y9q : FOk Tryz.prog zdq := ygv.1
def z6p : Nat → kz0 → Option ((List UInt8) × Int)
 | 0, _ => none
 | n + 1, a0 =>
   (z2z n a0.re).bind fun y0 =>
   pIf (y0 != 0)
     (some ([], y0))
     ((z5h n a0.re []).bind fun y1 =>
     (yzn n y1).bind fun y2 =>
     pIf (decide (y2.1 > 4000))
       (some ([], 4))
       ((kzt n y2.2).bind fun y3 =>
       some (y3, 0)))
def yjl : LSh := ⟨[(2, (.d .str)), (3, (.d (.int .i64)))], [], 0, 16⟩
noncomputable def zcz : FI dat := FI.of dat 11 16 0 [(.d (.st 4))] [] [(.d .str), (.d (.int .i64))] [] true yjl (R := (List UInt8) × Int) (fun x => (x.1, x.2.1)) (fun r => (r.1, r.2, ())) (fun n x => z6p n x.1)
 (fun n => []) (ann [] (Tryz.f11.body.getD .skip) 0).1
noncomputable def yhx : List (FI dat) := [z8f, zdq, z26, kzf]
theorem yk8 : (zcz).Good Tryz.prog dat (tb yhx) := FI.yz5 (hD := zz3 _) Tryz.func11 Tryz.ntmps11 Tryz.call11 (by kernel_rfl) (of_decide_eq_true (by kernel_rfl)) (by kernel_rfl) (fun n => by kernel_rfl) (fun x => by kernel_rfl) (fun _ => rfl) trivial
 (fun n => fun x => (z6p.eq_2 x.1 n).trans (by kernel_rfl))
 (fun n => trivial)
 (fun x => .inl rfl)
theorem yhz : OkL Tryz.prog [zcz] := yze (zz3 _) (bs := [z8f, zdq, z26, kzf]) ⟨zny, y9q, zgb, z66, trivial⟩ yk8
theorem zxb : FOk Tryz.prog zcz := yhz.1
mutual
def z7a : Nat → kz0 → Option Int
 | 0, _ => none
 | n + 1, a0 =>
   z3l n 0 1 a0.re
def z3l : Nat → Int → Int → kz0 → Option Int
 | 0, _, _, _ => none
 | n + 1, a0, a1, a2 =>
   pIf (decide (a0 < (a2.args.length : Int)))
     ((ix a2.args a0).bind fun x0 =>
     (z7a n x0.re).bind fun y1 =>
     z3l n (IntKind.i64.wrap (a0 + 1)) (mxI a1 (IntKind.i64.wrap (1 + y1))) a2.re)
     (some a1)
end
def ye3 : LSh := ⟨[(2, (.d (.int .i64)))], [], 0, 22⟩
noncomputable def zdo : FI dat := FI.of dat 67 22 0 [(.d (.st 4))] [] [(.d (.int .i64))] [] true ye3 (R := Int) (fun x => x.1) (fun r => (r, ())) (fun n x => z7a n x.1)
 (fun n => [(0, ⟨⟨[(4, (.d (.int .i64))), (1, (.ptr 0 0)), (3, (.d (.int .i64)))], [(.st 4)], 0, 22⟩, fun x => z3l n x.1 x.2.1 x.2.2.1⟩)]) (ann [(8, 0)] (Tryz.f67.body.getD .skip) 0).1
noncomputable def ygd : List (FI dat) := [zdo] ++ []
theorem yez : (zdo).Good Tryz.prog dat (tb ygd) := FI.yz5 (hD := zz3 _) Tryz.func67 Tryz.ntmps67 Tryz.call67 (by kernel_rfl) (of_decide_eq_true (by kernel_rfl)) (by kernel_rfl) (fun n => by kernel_rfl) (fun x => by kernel_rfl) (fun _ => rfl) ⟨fun _ => rfl, trivial⟩
 (fun n => fun x => (z7a.eq_2 x.1 n).trans (by kernel_rfl))
 (fun n => ⟨fun x => (z3l.eq_2 x.1 x.2.1 x.2.2.1 n).trans (by kernel_rfl),
  trivial⟩)
 (fun x => .inl rfl)
theorem ygi : OkL Tryz.prog [zdo] := z4s (zz3 _) (bs := []) trivial ⟨yez, trivial⟩
theorem y8c : FOk Tryz.prog zdo := ygi.1
mutual
def z8p : Nat → Int → Option Int
 | 0, _ => none
 | n + 1, a0 =>
   pIf (a0 == 1)
     (z57 n a0 true)
     (z57 n a0 (a0 == 2))
def z57 : Nat → Int → Bool → Option Int
 | 0, _, _ => none
 | n + 1, a0, a1 =>
   pIf a1
     (some 0)
     (pIf (decide (a0 ≥ 3))
       (pIf (decide (a0 ≤ 10))
         (zzr n a0 true)
         (pIf (a0 == 13)
           (zzr n a0 true)
           (pIf (a0 == 14)
             (zzr n a0 true)
             (zzr n a0 (a0 == 17)))))
       (pIf (a0 == 13)
         (zzr n a0 true)
         (pIf (a0 == 14)
           (zzr n a0 true)
           (zzr n a0 (a0 == 17)))))
def zzr : Nat → Int → Bool → Option Int
 | 0, _, _ => none
 | n + 1, a0, a1 =>
   pIf a1
     (some 2)
     (pIf (a0 == 11)
       (z3j n a0 true)
       (pIf (a0 == 15)
         (z3j n a0 true)
         (z3j n a0 (a0 == 16))))
def z3j : Nat → Int → Bool → Option Int
 | 0, _, _ => none
 | n + 1, a0, a1 =>
   pIf a1
     (some 1)
     (pIf (a0 == 12)
       (some 3)
       (pIf (a0 == 18)
         (some (-1))
         (some (-2))))
end
def yga : LSh := ⟨[(2, (.d (.int .i64)))], [], 0, 46⟩
noncomputable def zg8 : FI dat := FI.of dat 97 46 0 [(.d (.int .u8))] [] [(.d (.int .i64))] [] true yga (R := Int) (fun x => x.1) (fun r => (r, ())) (fun n x => z8p n x.1)
 (fun n => [(0, ⟨⟨[(0, (.d (.int .u8))), (3, (.d .bool))], [], 0, 46⟩, fun x => z57 n x.1 x.2.1⟩), (1, ⟨⟨[(0, (.d (.int .u8))), (10, (.d .bool))], [], 0, 46⟩, fun x => zzr n x.1 x.2.1⟩), (2, ⟨⟨[(0, (.d (.int .u8))), (29, (.d .bool))], [], 0, 46⟩, fun x => z3j n x.1 x.2.1⟩)]) (ann [(6, 0), (12, 1), (18, 2)] (Tryz.f97.body.getD .skip) 0).1
noncomputable def ye6 : List (FI dat) := []
theorem yeh : (zg8).Good Tryz.prog dat (tb ye6) := FI.yz5 (hD := zz3 _) Tryz.func97 Tryz.ntmps97 Tryz.call97 (by kernel_rfl) (of_decide_eq_true (by kernel_rfl)) (by kernel_rfl) (fun n => by kernel_rfl) (fun x => by kernel_rfl) (fun _ => rfl) ⟨fun _ => rfl, fun _ => rfl, fun _ => rfl, trivial⟩
 (fun n => fun x => (z8p.eq_2 x.1 n).trans (by kernel_rfl))
 (fun n => ⟨fun x => (z57.eq_2 x.1 x.2.1 n).trans (by kernel_rfl),
  fun x => (zzr.eq_2 x.1 x.2.1 n).trans (by kernel_rfl),
  fun x => (z3j.eq_2 x.1 x.2.1 n).trans (by kernel_rfl),
  trivial⟩)
 (fun x => .inl rfl)
theorem ygp : OkL Tryz.prog [zg8] := yze (zz3 _) (bs := []) trivial yeh
theorem y9e : FOk Tryz.prog zg8 := ygp.1
mutual
def z6y : Nat → yz0 → Option Int
 | 0, _ => none
 | n + 1, a0 =>
   z39 n 0 1 a0.re
def z39 : Nat → Int → Int → yz0 → Option Int
 | 0, _, _, _ => none
 | n + 1, a0, a1, a2 =>
   pIf (decide (a0 < (a2.list.length : Int)))
     (z35 n a0 a1 (a2.kind == 4) a2.re)
     (z35 n a0 a1 false a2.re)
def z35 : Nat → Int → Int → Bool → yz0 → Option Int
 | 0, _, _, _, _ => none
 | n + 1, a0, a1, a2, a3 =>
   pIf a2
     ((ix a3.list a0).bind fun x0 =>
     (z6y n x0.re).bind fun y1 =>
     z39 n (IntKind.i64.wrap (a0 + 1)) (mxI a1 (IntKind.i64.wrap (1 + y1))) a3.re)
     (some a1)
end
def ydt : LSh := ⟨[(2, (.d (.int .i64)))], [], 0, 27⟩
noncomputable def zdi : FI dat := FI.of dat 88 27 0 [(.d (.st 3))] [] [(.d (.int .i64))] [] true ydt (R := Int) (fun x => x.1) (fun r => (r, ())) (fun n x => z6y n x.1)
 (fun n => [(0, ⟨⟨[(4, (.d (.int .i64))), (1, (.ptr 0 0)), (3, (.d (.int .i64)))], [(.st 3)], 0, 27⟩, fun x => z39 n x.1 x.2.1 x.2.2.1⟩), (1, ⟨⟨[(1, (.ptr 0 0)), (4, (.d (.int .i64))), (3, (.d (.int .i64))), (14, (.d .bool))], [(.st 3)], 0, 27⟩, fun x => z35 n x.1 x.2.1 x.2.2.1 x.2.2.2.1⟩)]) (ann [(8, 0), (12, 1)] (Tryz.f88.body.getD .skip) 0).1
noncomputable def ye1 : List (FI dat) := [zdi] ++ []
theorem yg0 : (zdi).Good Tryz.prog dat (tb ye1) := FI.yz5 (hD := zz3 _) Tryz.func88 Tryz.ntmps88 Tryz.call88 (by kernel_rfl) (of_decide_eq_true (by kernel_rfl)) (by kernel_rfl) (fun n => by kernel_rfl) (fun x => by kernel_rfl) (fun _ => rfl) ⟨fun _ => rfl, fun _ => rfl, trivial⟩
 (fun n => fun x => (z6y.eq_2 x.1 n).trans (by kernel_rfl))
 (fun n => ⟨fun x => (z39.eq_2 x.1 x.2.1 x.2.2.1 n).trans (by kernel_rfl),
  fun x => (z35.eq_2 x.1 x.2.1 x.2.2.1 x.2.2.2.1 n).trans (by kernel_rfl),
  trivial⟩)
 (fun x => .inl rfl)
theorem yek : OkL Tryz.prog [zdi] := z4s (zz3 _) (bs := []) trivial ⟨yg0, trivial⟩
theorem y8m : FOk Tryz.prog zdi := yek.1
mutual
def z4o : Nat → Int → Int → Option Int
 | 0, _, _ => none
 | n + 1, a0, a1 =>
   z0q n a1 a0
def z0q : Nat → Int → Int → Option Int
 | 0, _, _ => none
 | n + 1, a0, a1 =>
   pIf (a0 != 0)
     ((rem .i64 a1 a0).bind fun x0 =>
     z0q n x0 a0)
     (pIf (decide (a1 < 0))
       (some (IntKind.i64.wrap (0 - a1)))
       (some a1))
end
def y4n : LSh := ⟨[(4, (.d (.int .i64)))], [], 0, 16⟩
noncomputable def zcd : FI dat := FI.of dat 150 16 0 [(.d (.int .i64)), (.d (.int .i64))] [] [(.d (.int .i64))] [] true y4n (R := Int) (fun x => x.1) (fun r => (r, ())) (fun n x => z4o n x.1 x.2.1)
 (fun n => [(0, ⟨⟨[(1, (.d (.int .i64))), (0, (.d (.int .i64)))], [], 0, 16⟩, fun x => z0q n x.1 x.2.1⟩)]) (ann [(4, 0)] (Tryz.f150.body.getD .skip) 0).1
noncomputable def y7e : List (FI dat) := []
theorem y5l : (zcd).Good Tryz.prog dat (tb y7e) := FI.yz5 (hD := zz3 _) Tryz.func150 Tryz.ntmps150 Tryz.call150 (by kernel_rfl) (of_decide_eq_true (by kernel_rfl)) (by kernel_rfl) (fun n => by kernel_rfl) (fun x => by kernel_rfl) (fun _ => rfl) ⟨fun _ => rfl, trivial⟩
 (fun n => fun x => (z4o.eq_2 x.1 x.2.1 n).trans (by kernel_rfl))
 (fun n => ⟨fun x => (z0q.eq_2 x.1 x.2.1 n).trans (by kernel_rfl),
  trivial⟩)
 (fun x => .inl rfl)
theorem y7g : OkL Tryz.prog [zcd] := yze (zz3 _) (bs := []) trivial y5l
theorem y37 : FOk Tryz.prog zcd := y7g.1
mutual
def z1m : Nat → zz2 → Option Int
 | 0, _ => none
 | n + 1, a0 =>
   pIf (decide (a0.den < 1))
     (yzr n true)
     (pIf (decide (a0.den > 1000000000))
       (yzr n true)
       (pIf (decide (a0.num < (-1000000000)))
         (yzr n true)
         (pIf (decide (a0.num > 1000000000))
           (yzr n true)
           ((z4o n a0.num a0.den).bind fun y0 =>
           yzr n (y0 != 1)))))
def yzr : Nat → Bool → Option Int
 | 0, _ => none
 | n + 1, a0 =>
   pIf a0
     (some 8)
     (some 0)
end
def y8x : LSh := ⟨[(2, (.d (.int .i64)))], [], 0, 29⟩
noncomputable def z6s : FI dat := FI.of dat 115 29 0 [(.d (.st 2))] [] [(.d (.int .i64))] [] true y8x (R := Int) (fun x => x.1) (fun r => (r, ())) (fun n x => z1m n x.1)
 (fun n => [(0, ⟨⟨[(28, (.d .bool))], [], 0, 29⟩, fun x => yzr n x.1⟩)]) (ann [(5, 0)] (Tryz.f115.body.getD .skip) 0).1
noncomputable def ya1 : List (FI dat) := [zcd]
theorem yam : (z6s).Good Tryz.prog dat (tb ya1) := FI.yz5 (hD := zz3 _) Tryz.func115 Tryz.ntmps115 Tryz.call115 (by kernel_rfl) (of_decide_eq_true (by kernel_rfl)) (by kernel_rfl) (fun n => by kernel_rfl) (fun x => by kernel_rfl) (fun _ => rfl) ⟨fun _ => rfl, trivial⟩
 (fun n => fun x => (z1m.eq_2 x.1 n).trans (by kernel_rfl))
 (fun n => ⟨fun x => (yzr.eq_2 x.1 n).trans (by kernel_rfl),
  trivial⟩)
 (fun x => .inl rfl)
theorem ya9 : OkL Tryz.prog [z6s] := yze (zz3 _) (bs := [zcd]) ⟨y37, trivial⟩ yam
theorem zkx : FOk Tryz.prog z6s := ya9.1
end Go.Proofs.YtfhpamcehnfhoaaGreatDoor

