/-
  THE GO STRUCTS AS LEAN STRUCTURES, by a program of this repo (types.py).
-/
import Derived.Test.YtfhpamcehnfhoaaGreatDoorLib2
import Derived.Test.YtfhpamcehnfhoaaGreatDoorLib3
import Derived.Test.YtfhpamcehnfhoaaGreatDoorLib6
import Derived.Shelf.Strings.Builder1
import Derived.Shelf.Strings.Search1
import Derived.Shelf.Strings.Search2
import Derived.Shelf.Strings.Fields
import Derived.Ground.NamesProg
import Derived.Test.YtfhpamcehnfhoaaGreatDoorProg
import Derived.Test.YtfhpamcehnfhoaaGreatDoorLib8
import Derived.Test.YtfhpamcehnfhoaaGreatDoorOwn0
import Derived.Test.YtfhpamcehnfhoaaGreatDoorRun8
import Derived.KernelRfl
namespace Go.Ab
open Go
set_option linter.unusedVariables false
set_option linter.unusedSimpArgs false
structure zz2 where
 num : Int
 den : Int
def zz2.el (x : zz2) : V := .agg [.int .i64 x.num, .int .i64 x.den]
def zz2.size (x : zz2) : Nat := 1 + 1 + 1
def zz2.wf (x : zz2) : Prop := (IntKind.i64.min ≤ x.num ∧ x.num ≤ IntKind.i64.max) ∧ (IntKind.i64.min ≤ x.den ∧ x.den ≤ IntKind.i64.max)
theorem zz2.yzt (x : zz2) : x.el = .agg [.int .i64 x.num, .int .i64 x.den] := by rw [zz2.el]
theorem zz2.size_eq (x : zz2) : x.size = 1 + 1 + 1 := by rw [zz2.size]
theorem zz2.z99 (x : zz2) : x.wf = ((IntKind.i64.min ≤ x.num ∧ x.num ≤ IntKind.i64.max) ∧ (IntKind.i64.min ≤ x.den ∧ x.den ≤ IntKind.i64.max)) := by rw [zz2.wf]
theorem zz2.z8p (x : zz2) : x.el.cells.length = 2 := by rw [zz2.yzt]; rfl
theorem zz2.zse (x : zz2) : x.el = .agg x.el.cells := by rw [zz2.yzt]; rfl
theorem zz2.kin {D : Nat → Nat → Prop} (x : zz2) : V.kin D x.el := by rw [zz2.yzt]; simp only [V.kin, V.zc7, and_true, true_and]
def zz2.ty : Ty zz2 := ⟨zz2.el, 2, zz2.size, zz2.wf, zz2.z8p⟩
structure yz0 where
 kind : Int
 num : zz2
 truth : Bool
 str : List UInt8
 list : List yz0
theorem yz0.zxa {x y : yz0} (h : y ∈ x.list) : SizeOf.sizeOf y < SizeOf.sizeOf x := by cases x; have := List.sizeOf_lt_of_mem h; simp at this ⊢; omega
def yz0.el (x : yz0) : V := .agg [.int .u8 x.kind, .int .i64 x.num.num, .int .i64 x.num.den, .bool x.truth, .str x.str, .sl 6 (x.list.map yz0.el) false]
 termination_by x
 decreasing_by all_goals first | exact yz0.zxa ‹_›
def yz0.size (x : yz0) : Nat := 1 + x.num.size + 1 + (x.str.length + 1) + ((x.list.map yz0.size).sum + 1) + 1
 termination_by x
 decreasing_by all_goals first | exact yz0.zxa ‹_›
def yz0.wf (x : yz0) : Prop := (IntKind.u8.min ≤ x.kind ∧ x.kind ≤ IntKind.u8.max) ∧ x.num.wf ∧ True ∧ True ∧ (∀ y ∈ x.list, y.wf)
 termination_by x
 decreasing_by all_goals first | exact yz0.zxa ‹_›
theorem yz0.yzt (x : yz0) : x.el = .agg [.int .u8 x.kind, .int .i64 x.num.num, .int .i64 x.num.den, .bool x.truth, .str x.str, .sl 6 (x.list.map yz0.el) false] := by rw [yz0.el]
theorem yz0.size_eq (x : yz0) : x.size = 1 + x.num.size + 1 + (x.str.length + 1) + ((x.list.map yz0.size).sum + 1) + 1 := by rw [yz0.size]
theorem yz0.z99 (x : yz0) : x.wf = ((IntKind.u8.min ≤ x.kind ∧ x.kind ≤ IntKind.u8.max) ∧ x.num.wf ∧ True ∧ True ∧ (∀ y ∈ x.list, y.wf)) := by rw [yz0.wf]
theorem yz0.z8p (x : yz0) : x.el.cells.length = 6 := by rw [yz0.yzt]; rfl
theorem yz0.zse (x : yz0) : x.el = .agg x.el.cells := by rw [yz0.yzt]; rfl
theorem yz0.kin {D : Nat → Nat → Prop} (x : yz0) : V.kin D x.el := by rw [yz0.yzt]; simp only [V.kin, V.zc7, and_true, true_and]; exact zy5 fun y hy => yz0.kin y
 termination_by x
 decreasing_by all_goals first | exact yz0.zxa ‹_›
def yz0.ty : Ty yz0 := ⟨yz0.el, 6, yz0.size, yz0.wf, yz0.z8p⟩
structure kz0 where
 op : Int
 value : yz0
 name : List UInt8
 args : List kz0
theorem kz0.zxu {x y : kz0} (h : y ∈ x.args) : SizeOf.sizeOf y < SizeOf.sizeOf x := by cases x; have := List.sizeOf_lt_of_mem h; simp at this ⊢; omega
def kz0.el (x : kz0) : V := .agg [.int .u8 x.op, .int .u8 x.value.kind, .int .i64 x.value.num.num, .int .i64 x.value.num.den, .bool x.value.truth, .str x.value.str, .sl 6 (x.value.list.map yz0.el) false, .str x.name, .sl 9 (x.args.map kz0.el) false]
 termination_by x
 decreasing_by all_goals first | exact kz0.zxu ‹_›
def kz0.size (x : kz0) : Nat := 1 + x.value.size + (x.name.length + 1) + ((x.args.map kz0.size).sum + 1) + 1
 termination_by x
 decreasing_by all_goals first | exact kz0.zxu ‹_›
def kz0.wf (x : kz0) : Prop := (IntKind.u8.min ≤ x.op ∧ x.op ≤ IntKind.u8.max) ∧ x.value.wf ∧ True ∧ (∀ y ∈ x.args, y.wf)
 termination_by x
 decreasing_by all_goals first | exact kz0.zxu ‹_›
theorem kz0.yzt (x : kz0) : x.el = .agg [.int .u8 x.op, .int .u8 x.value.kind, .int .i64 x.value.num.num, .int .i64 x.value.num.den, .bool x.value.truth, .str x.value.str, .sl 6 (x.value.list.map yz0.el) false, .str x.name, .sl 9 (x.args.map kz0.el) false] := by rw [kz0.el]
theorem kz0.size_eq (x : kz0) : x.size = 1 + x.value.size + (x.name.length + 1) + ((x.args.map kz0.size).sum + 1) + 1 := by rw [kz0.size]
theorem kz0.z99 (x : kz0) : x.wf = ((IntKind.u8.min ≤ x.op ∧ x.op ≤ IntKind.u8.max) ∧ x.value.wf ∧ True ∧ (∀ y ∈ x.args, y.wf)) := by rw [kz0.wf]
theorem kz0.z8p (x : kz0) : x.el.cells.length = 9 := by rw [kz0.yzt]; rfl
theorem kz0.zse (x : kz0) : x.el = .agg x.el.cells := by rw [kz0.yzt]; rfl
theorem kz0.kin {D : Nat → Nat → Prop} (x : kz0) : V.kin D x.el := by rw [kz0.yzt]; simp only [V.kin, V.zc7, and_true, true_and]; exact ⟨zy5 fun y hy => yz0.kin y, zy5 fun y hy => kz0.kin y⟩
 termination_by x
 decreasing_by all_goals first | exact kz0.zxu ‹_›
def kz0.ty : Ty kz0 := ⟨kz0.el, 9, kz0.size, kz0.wf, kz0.z8p⟩
structure zzw where
 name : List UInt8
 value : yz0
def zzw.el (x : zzw) : V := .agg [.str x.name, .int .u8 x.value.kind, .int .i64 x.value.num.num, .int .i64 x.value.num.den, .bool x.value.truth, .str x.value.str, .sl 6 (x.value.list.map yz0.el) false]
def zzw.size (x : zzw) : Nat := (x.name.length + 1) + x.value.size + 1
def zzw.wf (x : zzw) : Prop := True ∧ x.value.wf
theorem zzw.yzt (x : zzw) : x.el = .agg [.str x.name, .int .u8 x.value.kind, .int .i64 x.value.num.num, .int .i64 x.value.num.den, .bool x.value.truth, .str x.value.str, .sl 6 (x.value.list.map yz0.el) false] := by rw [zzw.el]
theorem zzw.size_eq (x : zzw) : x.size = (x.name.length + 1) + x.value.size + 1 := by rw [zzw.size]
theorem zzw.z99 (x : zzw) : x.wf = (True ∧ x.value.wf) := by rw [zzw.wf]
theorem zzw.z8p (x : zzw) : x.el.cells.length = 7 := by rw [zzw.yzt]; rfl
theorem zzw.zse (x : zzw) : x.el = .agg x.el.cells := by rw [zzw.yzt]; rfl
theorem zzw.kin {D : Nat → Nat → Prop} (x : zzw) : V.kin D x.el := by rw [zzw.yzt]; simp only [V.kin, V.zc7, and_true, true_and]; exact zy5 fun y hy => yz0.kin y
def zzw.ty : Ty zzw := ⟨zzw.el, 7, zzw.size, zzw.wf, zzw.z8p⟩
structure yz3 where
 s : List UInt8
def yz3.el (x : yz3) : V := .agg [.str x.s]
def yz3.size (x : yz3) : Nat := (x.s.length + 1) + 1
def yz3.wf (x : yz3) : Prop := True
theorem yz3.yzt (x : yz3) : x.el = .agg [.str x.s] := by rw [yz3.el]
theorem yz3.size_eq (x : yz3) : x.size = (x.s.length + 1) + 1 := by rw [yz3.size]
theorem yz3.z99 (x : yz3) : x.wf = (True) := by rw [yz3.wf]
theorem yz3.z8p (x : yz3) : x.el.cells.length = 1 := by rw [yz3.yzt]; rfl
theorem yz3.zse (x : yz3) : x.el = .agg x.el.cells := by rw [yz3.yzt]; rfl
theorem yz3.kin {D : Nat → Nat → Prop} (x : yz3) : V.kin D x.el := by rw [yz3.yzt]; simp only [V.kin, V.zc7, and_true, true_and]
def yz3.ty : Ty yz3 := ⟨yz3.el, 1, yz3.size, yz3.wf, yz3.z8p⟩
structure kz3 where
 s : List UInt8
 at_ : Int
 ok : Bool
def kz3.el (x : kz3) : V := .agg [.str x.s, .int .i64 x.at_, .bool x.ok]
def kz3.size (x : kz3) : Nat := (x.s.length + 1) + 1 + 1 + 1
def kz3.wf (x : kz3) : Prop := True ∧ (IntKind.i64.min ≤ x.at_ ∧ x.at_ ≤ IntKind.i64.max) ∧ True
theorem kz3.yzt (x : kz3) : x.el = .agg [.str x.s, .int .i64 x.at_, .bool x.ok] := by rw [kz3.el]
theorem kz3.size_eq (x : kz3) : x.size = (x.s.length + 1) + 1 + 1 + 1 := by rw [kz3.size]
theorem kz3.z99 (x : kz3) : x.wf = (True ∧ (IntKind.i64.min ≤ x.at_ ∧ x.at_ ≤ IntKind.i64.max) ∧ True) := by rw [kz3.wf]
theorem kz3.z8p (x : kz3) : x.el.cells.length = 3 := by rw [kz3.yzt]; rfl
theorem kz3.zse (x : kz3) : x.el = .agg x.el.cells := by rw [kz3.yzt]; rfl
theorem kz3.kin {D : Nat → Nat → Prop} (x : kz3) : V.kin D x.el := by rw [kz3.yzt]; simp only [V.kin, V.zc7, and_true, true_and]
def kz3.ty : Ty kz3 := ⟨kz3.el, 3, kz3.size, kz3.wf, kz3.z8p⟩
structure z6n where
 a : zz2
 b : zz2
 out : zz2
 e : Int
def z6n.el (x : z6n) : V := .agg [.int .i64 x.a.num, .int .i64 x.a.den, .int .i64 x.b.num, .int .i64 x.b.den, .int .i64 x.out.num, .int .i64 x.out.den, .int .i64 x.e]
def z6n.size (x : z6n) : Nat := x.a.size + x.b.size + x.out.size + 1 + 1
def z6n.wf (x : z6n) : Prop := x.a.wf ∧ x.b.wf ∧ x.out.wf ∧ (IntKind.i64.min ≤ x.e ∧ x.e ≤ IntKind.i64.max)
theorem z6n.yzt (x : z6n) : x.el = .agg [.int .i64 x.a.num, .int .i64 x.a.den, .int .i64 x.b.num, .int .i64 x.b.den, .int .i64 x.out.num, .int .i64 x.out.den, .int .i64 x.e] := by rw [z6n.el]
theorem z6n.size_eq (x : z6n) : x.size = x.a.size + x.b.size + x.out.size + 1 + 1 := by rw [z6n.size]
theorem z6n.z99 (x : z6n) : x.wf = (x.a.wf ∧ x.b.wf ∧ x.out.wf ∧ (IntKind.i64.min ≤ x.e ∧ x.e ≤ IntKind.i64.max)) := by rw [z6n.wf]
theorem z6n.z8p (x : z6n) : x.el.cells.length = 7 := by rw [z6n.yzt]; rfl
theorem z6n.zse (x : z6n) : x.el = .agg x.el.cells := by rw [z6n.yzt]; rfl
theorem z6n.kin {D : Nat → Nat → Prop} (x : z6n) : V.kin D x.el := by rw [z6n.yzt]; simp only [V.kin, V.zc7, and_true, true_and]
def z6n.ty : Ty z6n := ⟨z6n.el, 7, z6n.size, z6n.wf, z6n.z8p⟩
end Go.Ab


namespace Go.Ab
open Go
set_option linter.unusedVariables false
structure zaa where
 e0 : List UInt8
 e1 : List UInt8
 e2 : List UInt8
 e3 : List UInt8
 e4 : List UInt8
 e5 : List UInt8
 e6 : List UInt8
 e7 : List UInt8
def zaa.el (x : zaa) : V := .agg [.str x.e0, .str x.e1, .str x.e2, .str x.e3, .str x.e4, .str x.e5, .str x.e6, .str x.e7]
theorem zaa.yzt (x : zaa) : x.el = .agg [.str x.e0, .str x.e1, .str x.e2, .str x.e3, .str x.e4, .str x.e5, .str x.e6, .str x.e7] := rfl
theorem zaa.kin {Dm : Nat → Nat → Prop} (x : zaa) : V.kin Dm x.el := by simp [zaa.el, V.kin, V.zc7]
structure za8 where
 e0 : List UInt8
 e1 : List UInt8
 e2 : List UInt8
 e3 : List UInt8
 e4 : List UInt8
 e5 : List UInt8
 e6 : List UInt8
def za8.el (x : za8) : V := .agg [.str x.e0, .str x.e1, .str x.e2, .str x.e3, .str x.e4, .str x.e5, .str x.e6]
theorem za8.yzt (x : za8) : x.el = .agg [.str x.e0, .str x.e1, .str x.e2, .str x.e3, .str x.e4, .str x.e5, .str x.e6] := rfl
theorem za8.kin {Dm : Nat → Nat → Prop} (x : za8) : V.kin Dm x.el := by simp [za8.el, V.kin, V.zc7]
def yz0.re (x : yz0) : yz0 := ⟨x.kind, x.num, x.truth, x.str, x.list⟩
@[simp] theorem yz0.kz2 (x : yz0) : x.re = x := by cases x; simp [yz0.re]
def kz0.re (x : kz0) : kz0 := ⟨x.op, x.value.re, x.name, x.args⟩
@[simp] theorem kz0.kz2 (x : kz0) : x.re = x := by cases x; simp [kz0.re]
def zzw.re (x : zzw) : zzw := ⟨x.name, x.value.re⟩
@[simp] theorem zzw.kz2 (x : zzw) : x.re = x := by cases x; simp [zzw.re]
def datT : Nat → Type
 | 0 => zaa
 | 1 => za8
 | 2 => zz2
 | 3 => yz0
 | 4 => kz0
 | 5 => zzw
 | 6 => yz3
 | 7 => kz3
 | 8 => z6n
 | _ => Unit
def zvc : Nat → List DTy
 | 0 => [.str, .str, .str, .str, .str, .str, .str, .str]
 | 1 => [.str, .str, .str, .str, .str, .str, .str]
 | 2 => [.int .i64, .int .i64]
 | 3 => [.int .u8, .int .i64, .int .i64, .bool, .str, .sl (.st 3)]
 | 4 => [.int .u8, .int .u8, .int .i64, .int .i64, .bool, .str, .sl (.st 3), .str, .sl (.st 4)]
 | 5 => [.str, .int .u8, .int .i64, .int .i64, .bool, .str, .sl (.st 3)]
 | 6 => [.str]
 | 7 => [.str, .int .i64, .bool]
 | 8 => [.int .i64, .int .i64, .int .i64, .int .i64, .int .i64, .int .i64, .int .i64]
 | _ => []
def yrv : List (Nat × DTy) := [(2, .int .i64), (3, .int .i64), (4, .bool), (5, .int .u8), (6, .int .u8), (9, .str), (10, .str), (11, .str), (12, .int .u64), (21, .int .i32), (23, .st 2), (24, .sl (.st 3)), (26, .st 3), (27, .sl (.st 4)), (29, .st 4), (31, .int .i64), (49, .sl (.st 5)), (51, .st 5), (61, .sl .str), (72, .sl (.int .u8)), (106, .st 6), (123, .int .u64), (129, .st 0), (130, .st 1), (144, .int .i64), (152, .int .u32), (154, .int .u64), (186, .int .u64), (198, .int .u16), (207, .st 7), (220, .st 8), (241, .sl (.int .i64)), (252, .int .u8), (253, .int .u8), (255, .int .i32), (256, .int .i32)]
def dat : Dat where
 T := datT
 fl := zvc
 get := fun i => match i with
  | 0 => fun (x : zaa) => (x.e0, x.e1, x.e2, x.e3, x.e4, x.e5, x.e6, x.e7, ())
  | 1 => fun (x : za8) => (x.e0, x.e1, x.e2, x.e3, x.e4, x.e5, x.e6, ())
  | 2 => fun (x : zz2) => (x.num, x.den, ())
  | 3 => fun (x : yz0) => (x.kind, x.num.num, x.num.den, x.truth, x.str, x.list, ())
  | 4 => fun (x : kz0) => (x.op, x.value.kind, x.value.num.num, x.value.num.den, x.value.truth, x.value.str, x.value.list, x.name, x.args, ())
  | 5 => fun (x : zzw) => (x.name, x.value.kind, x.value.num.num, x.value.num.den, x.value.truth, x.value.str, x.value.list, ())
  | 6 => fun (x : yz3) => (x.s, ())
  | 7 => fun (x : kz3) => (x.s, x.at_, x.ok, ())
  | 8 => fun (x : z6n) => (x.a.num, x.a.den, x.b.num, x.b.den, x.out.num, x.out.den, x.e, ())
  | _ + 9 => fun _ => ()
 make := fun i => match i with
  | 0 => fun x => zaa.mk x.1 x.2.1 x.2.2.1 x.2.2.2.1 x.2.2.2.2.1 x.2.2.2.2.2.1 x.2.2.2.2.2.2.1 x.2.2.2.2.2.2.2.1
  | 1 => fun x => za8.mk x.1 x.2.1 x.2.2.1 x.2.2.2.1 x.2.2.2.2.1 x.2.2.2.2.2.1 x.2.2.2.2.2.2.1
  | 2 => fun x => zz2.mk x.1 x.2.1
  | 3 => fun x => yz0.mk x.1 (zz2.mk x.2.1 x.2.2.1) x.2.2.2.1 x.2.2.2.2.1 x.2.2.2.2.2.1
  | 4 => fun x => kz0.mk x.1 (yz0.mk x.2.1 (zz2.mk x.2.2.1 x.2.2.2.1) x.2.2.2.2.1 x.2.2.2.2.2.1 x.2.2.2.2.2.2.1) x.2.2.2.2.2.2.2.1 x.2.2.2.2.2.2.2.2.1
  | 5 => fun x => zzw.mk x.1 (yz0.mk x.2.1 (zz2.mk x.2.2.1 x.2.2.2.1) x.2.2.2.2.1 x.2.2.2.2.2.1 x.2.2.2.2.2.2.1)
  | 6 => fun x => yz3.mk x.1
  | 7 => fun x => kz3.mk x.1 x.2.1 x.2.2.1
  | 8 => fun x => z6n.mk (zz2.mk x.1 x.2.1) (zz2.mk x.2.2.1 x.2.2.2.1) (zz2.mk x.2.2.2.2.1 x.2.2.2.2.2.1) x.2.2.2.2.2.2.1
  | _ + 9 => fun _ => ()
 enc := fun i => match i with
  | 0 => zaa.el
  | 1 => za8.el
  | 2 => zz2.el
  | 3 => yz0.el
  | 4 => kz0.el
  | 5 => zzw.el
  | 6 => yz3.el
  | 7 => kz3.el
  | 8 => z6n.el
  | _ + 9 => fun _ => .agg []
 ty := fnd yrv
end Go.Ab


namespace Go.Ab
open Go
set_option linter.unusedVariables false
theorem zz3 (P : Program) : dat.Ok P where
 enc := fun i => match i with
  | 0 => fun x => zaa.yzt x
  | 1 => fun x => za8.yzt x
  | 2 => fun x => zz2.yzt x
  | 3 => fun x => yz0.yzt x
  | 4 => fun x => kz0.yzt x
  | 5 => fun x => zzw.yzt x
  | 6 => fun x => yz3.yzt x
  | 7 => fun x => kz3.yzt x
  | 8 => fun x => z6n.yzt x
  | _ + 9 => fun _ => rfl
 getMake := fun i => match i with
  | 0 => fun x => rfl
  | 1 => fun x => rfl
  | 2 => fun x => rfl
  | 3 => fun x => rfl
  | 4 => fun x => rfl
  | 5 => fun x => rfl
  | 6 => fun x => rfl
  | 7 => fun x => rfl
  | 8 => fun x => rfl
  | _ + 9 => fun _ => rfl
 flat := fun i => match i with
  | 0 => fun t h => by simp only [dat, zvc, List.mem_cons, List.not_mem_nil, or_false] at h; rcases h with rfl | rfl | rfl | rfl | rfl | rfl | rfl | rfl <;> trivial
  | 1 => fun t h => by simp only [dat, zvc, List.mem_cons, List.not_mem_nil, or_false] at h; rcases h with rfl | rfl | rfl | rfl | rfl | rfl | rfl <;> trivial
  | 2 => fun t h => by simp only [dat, zvc, List.mem_cons, List.not_mem_nil, or_false] at h; rcases h with rfl | rfl <;> trivial
  | 3 => fun t h => by simp only [dat, zvc, List.mem_cons, List.not_mem_nil, or_false] at h; rcases h with rfl | rfl | rfl | rfl | rfl | rfl <;> trivial
  | 4 => fun t h => by simp only [dat, zvc, List.mem_cons, List.not_mem_nil, or_false] at h; rcases h with rfl | rfl | rfl | rfl | rfl | rfl | rfl | rfl | rfl <;> trivial
  | 5 => fun t h => by simp only [dat, zvc, List.mem_cons, List.not_mem_nil, or_false] at h; rcases h with rfl | rfl | rfl | rfl | rfl | rfl | rfl <;> trivial
  | 6 => fun t h => by simp only [dat, zvc, List.mem_cons, List.not_mem_nil, or_false] at h; rcases h with rfl <;> trivial
  | 7 => fun t h => by simp only [dat, zvc, List.mem_cons, List.not_mem_nil, or_false] at h; rcases h with rfl | rfl | rfl <;> trivial
  | 8 => fun t h => by simp only [dat, zvc, List.mem_cons, List.not_mem_nil, or_false] at h; rcases h with rfl | rfl | rfl | rfl | rfl | rfl | rfl <;> trivial
  | _ + 9 => fun t h => by cases h
 ty := fun e t h => by
  have := z6w h
  simp only [yrv, List.mem_cons, Prod.mk.injEq, List.not_mem_nil, or_false] at this
  rcases this with ⟨_, rfl⟩ | ⟨_, rfl⟩ | ⟨_, rfl⟩ | ⟨_, rfl⟩ | ⟨_, rfl⟩ | ⟨_, rfl⟩ | ⟨_, rfl⟩ | ⟨_, rfl⟩ | ⟨_, rfl⟩ | ⟨_, rfl⟩ | ⟨_, rfl⟩ | ⟨_, rfl⟩ | ⟨_, rfl⟩ | ⟨_, rfl⟩ | ⟨_, rfl⟩ | ⟨_, rfl⟩ | ⟨_, rfl⟩ | ⟨_, rfl⟩ | ⟨_, rfl⟩ | ⟨_, rfl⟩ | ⟨_, rfl⟩ | ⟨_, rfl⟩ | ⟨_, rfl⟩ | ⟨_, rfl⟩ | ⟨_, rfl⟩ | ⟨_, rfl⟩ | ⟨_, rfl⟩ | ⟨_, rfl⟩ | ⟨_, rfl⟩ | ⟨_, rfl⟩ | ⟨_, rfl⟩ | ⟨_, rfl⟩ | ⟨_, rfl⟩ | ⟨_, rfl⟩ | ⟨_, rfl⟩ | ⟨_, rfl⟩ <;> simp
 kin := fun i => match i with
  | 0 => fun x _ => zaa.kin x
  | 1 => fun x _ => za8.kin x
  | 2 => fun x _ => zz2.kin x
  | 3 => fun x _ => yz0.kin x
  | 4 => fun x _ => kz0.kin x
  | 5 => fun x _ => zzw.kin x
  | 6 => fun x _ => yz3.kin x
  | 7 => fun x _ => kz3.kin x
  | 8 => fun x _ => z6n.kin x
  | _ + 9 => fun _ _ => by simp only [dat, V.kin, V.zc7]
end Go.Ab


namespace Go.Proofs
open Go.Shelf
def Tryz.y2a : Go.Shelf.Ren := ⟨fun | 169 => 39 | n => n, fun | 70 => 71 | 9 => 9 | 0 => 0 | 72 => 74 | 37 => 72 | 127 => 100 | 3 => 3 | 5 => 5 | n => n, fun | n => n⟩
theorem Tryz.yeh : Go.Proofs.Lays.n169 Tryz.prog Tryz.y2a := {
 mixed := by kernel_rfl
 f169 := Tryz.func39.trans (congrArg some (by kernel_rfl))
 t0 := Tryz.underlying0
 a0 := Tryz.isAgg0
 z0 := Tryz.sizeOf0
 v0 := Tryz.zeroValue0
 t3 := Tryz.underlying3
 a3 := Tryz.isAgg3
 z3 := Tryz.sizeOf3
 v3 := Tryz.zeroValue3
 t9 := Tryz.underlying9
 a9 := Tryz.isAgg9
 z9 := Tryz.sizeOf9
 v9 := Tryz.zeroValue9
 t37 := Tryz.underlying72
 a37 := Tryz.isAgg72
 z37 := Tryz.sizeOf72
 v37 := Tryz.zeroValue72
 t70 := Tryz.underlying71
 a70 := Tryz.isAgg71
 z70 := Tryz.sizeOf71
 v70 := Tryz.zeroValue71
 t72 := Tryz.underlying74
 a72 := Tryz.isAgg74
 z72 := Tryz.sizeOf74
 v72 := Tryz.zeroValue74
 t127 := Tryz.underlying100
 a127 := Tryz.isAgg100
 z127 := Tryz.sizeOf100
 v127 := Tryz.zeroValue100 }
theorem Tryz.z5v : Builder.Extra Tryz.prog Tryz.y2a := {
 sizeBuilder := by kernel_rfl
 liesBuilder := by kernel_rfl
 t5 := Tryz.underlying5
 a5 := Tryz.isAgg5
 z5 := Tryz.sizeOf5
 v5 := Tryz.zeroValue5
 infoByte := by kernel_rfl
 cellsByte := by kernel_rfl
 sizeByte := by kernel_rfl
 neB5 := by decide }
def Tryz.yiz : Go.Shelf.Ren := ⟨fun | 217 => 163 | 266 => 177 | n => n, fun | 9 => 9 | 5 => 5 | 3 => 3 | n => n, fun | n => n⟩
theorem Tryz.yu0 : Go.Proofs.Lays.n217 Tryz.prog Tryz.yiz := {
 mixed := by kernel_rfl
 f217 := Tryz.func163.trans (congrArg some (by kernel_rfl))
 f266 := Tryz.func177.trans (congrArg some (by kernel_rfl))
 t3 := Tryz.underlying3
 a3 := Tryz.isAgg3
 z3 := Tryz.sizeOf3
 v3 := Tryz.zeroValue3
 t5 := Tryz.underlying5
 a5 := Tryz.isAgg5
 z5 := Tryz.sizeOf5
 v5 := Tryz.zeroValue5
 t9 := Tryz.underlying9
 a9 := Tryz.isAgg9
 z9 := Tryz.sizeOf9
 v9 := Tryz.zeroValue9 }
open Go.RowKit Go.Lib in
theorem Tryz.stringslite_IndexByte (s : ByteArray) (c : Int) (w : World) :
  Calls Tryz.prog 163 #[.string s, .int .u8 c] w fun e w' => e = .returned (.int .i64 (Lib.indexByte s.data.toList c.toNat.toUInt8)) ∧ w' = w := Any.stringslite_IndexByte Tryz.yu0 s c w
def Tryz.yk5 : Go.Shelf.Ren := ⟨fun | 219 => 205 | 217 => 163 | 225 => 206 | 224 => 207 | 267 => 208 | 266 => 177 | 314 => 209 | n => n, fun | 9 => 9 | 3 => 3 | 4 => 4 | 5 => 5 | 46 => 123 | 146 => 245 | 51 => 152 | n => n, fun | 1 => 2 | n => n⟩
theorem Tryz.yto : Go.Proofs.Lays.n219 Tryz.prog Tryz.yk5 := {
 mixed := by kernel_rfl
 f217 := Tryz.func163.trans (congrArg some (by kernel_rfl))
 f219 := Tryz.func205.trans (congrArg some (by kernel_rfl))
 f224 := Tryz.func207.trans (congrArg some (by kernel_rfl))
 f225 := Tryz.func206.trans (congrArg some (by kernel_rfl))
 f266 := Tryz.func177.trans (congrArg some (by kernel_rfl))
 f267 := Tryz.func208.trans (congrArg some (by kernel_rfl))
 f314 := Tryz.func209.trans (congrArg some (by kernel_rfl))
 t3 := Tryz.underlying3
 a3 := Tryz.isAgg3
 z3 := Tryz.sizeOf3
 v3 := Tryz.zeroValue3
 t4 := Tryz.underlying4
 a4 := Tryz.isAgg4
 z4 := Tryz.sizeOf4
 v4 := Tryz.zeroValue4
 t5 := Tryz.underlying5
 a5 := Tryz.isAgg5
 z5 := Tryz.sizeOf5
 v5 := Tryz.zeroValue5
 t9 := Tryz.underlying9
 a9 := Tryz.isAgg9
 z9 := Tryz.sizeOf9
 v9 := Tryz.zeroValue9
 t46 := Tryz.underlying123
 a46 := Tryz.isAgg123
 z46 := Tryz.sizeOf123
 v46 := Tryz.zeroValue123
 t51 := Tryz.underlying152
 a51 := Tryz.isAgg152
 z51 := Tryz.sizeOf152
 v51 := Tryz.zeroValue152
 t146 := Tryz.underlying245
 a146 := Tryz.isAgg245
 z146 := Tryz.sizeOf245
 v146 := Tryz.zeroValue245
 g1 := by kernel_rfl }
open Go.RowKit Go.Lib in
theorem Tryz.stringslite_Index_one (s : ByteArray) (c : UInt8) (w : World) :
  Calls Tryz.prog 205 #[.string s, .string ⟨#[c]⟩] w fun e w' => e = .returned (.int .i64 (Lib.indexByte s.data.toList c)) ∧ w' = w := Any.stringslite_Index_one Tryz.yto s c w
def Tryz.yif : Go.Shelf.Ren := ⟨fun | 157 => 66 | 229 => 95 | 199 => 96 | 261 => 131 | 311 => 159 | 312 => 160 | n => n, fun | 9 => 9 | 31 => 61 | 3 => 3 | 5 => 5 | 4 => 4 | 119 => 125 | 0 => 0 | 40 => 127 | 152 => 160 | 21 => 21 | 154 => 162 | 51 => 152 | 141 => 164 | 196 => 197 | 193 => 194 | 198 => 200 | 49 => 198 | 194 => 195 | 201 => 203 | 226 => 216 | 46 => 123 | 227 => 217 | n => n, fun | 0 => 0 | 6 => 1 | n => n⟩
theorem Tryz.ytq : Go.Proofs.Lays.n157 Tryz.prog Tryz.yif := {
 mixed := by kernel_rfl
 f157 := Tryz.func66.trans (congrArg some (by kernel_rfl))
 f199 := Tryz.func96.trans (congrArg some (by kernel_rfl))
 f229 := Tryz.func95.trans (congrArg some (by kernel_rfl))
 f261 := Tryz.func131.trans (congrArg some (by kernel_rfl))
 f311 := Tryz.func159.trans (congrArg some (by kernel_rfl))
 f312 := Tryz.func160.trans (congrArg some (by kernel_rfl))
 t0 := Tryz.underlying0
 a0 := Tryz.isAgg0
 z0 := Tryz.sizeOf0
 v0 := Tryz.zeroValue0
 t3 := Tryz.underlying3
 a3 := Tryz.isAgg3
 z3 := Tryz.sizeOf3
 v3 := Tryz.zeroValue3
 t4 := Tryz.underlying4
 a4 := Tryz.isAgg4
 z4 := Tryz.sizeOf4
 v4 := Tryz.zeroValue4
 t5 := Tryz.underlying5
 a5 := Tryz.isAgg5
 z5 := Tryz.sizeOf5
 v5 := Tryz.zeroValue5
 t9 := Tryz.underlying9
 a9 := Tryz.isAgg9
 z9 := Tryz.sizeOf9
 v9 := Tryz.zeroValue9
 t21 := Tryz.underlying21
 a21 := Tryz.isAgg21
 z21 := Tryz.sizeOf21
 v21 := Tryz.zeroValue21
 t31 := Tryz.underlying61
 a31 := Tryz.isAgg61
 z31 := Tryz.sizeOf61
 v31 := Tryz.zeroValue61
 t40 := Tryz.underlying127
 a40 := Tryz.isAgg127
 z40 := Tryz.sizeOf127
 v40 := Tryz.zeroValue127
 t46 := Tryz.underlying123
 a46 := Tryz.isAgg123
 z46 := Tryz.sizeOf123
 v46 := Tryz.zeroValue123
 t49 := Tryz.underlying198
 a49 := Tryz.isAgg198
 z49 := Tryz.sizeOf198
 v49 := Tryz.zeroValue198
 t51 := Tryz.underlying152
 a51 := Tryz.isAgg152
 z51 := Tryz.sizeOf152
 v51 := Tryz.zeroValue152
 t119 := Tryz.underlying125
 a119 := Tryz.isAgg125
 z119 := Tryz.sizeOf125
 t141 := Tryz.underlying164
 a141 := Tryz.isAgg164
 z141 := Tryz.sizeOf164
 v141 := Tryz.zeroValue164
 t152 := Tryz.underlying160
 a152 := Tryz.isAgg160
 z152 := Tryz.sizeOf160
 v152 := Tryz.zeroValue160
 t154 := Tryz.underlying162
 a154 := Tryz.isAgg162
 z154 := Tryz.sizeOf162
 v154 := Tryz.zeroValue162
 t193 := Tryz.underlying194
 a193 := Tryz.isAgg194
 z193 := Tryz.sizeOf194
 v193 := Tryz.zeroValue194
 t194 := Tryz.underlying195
 a194 := Tryz.isAgg195
 z194 := Tryz.sizeOf195
 v194 := Tryz.zeroValue195
 t196 := Tryz.underlying197
 a196 := Tryz.isAgg197
 z196 := Tryz.sizeOf197
 v196 := Tryz.zeroValue197
 t198 := Tryz.underlying200
 a198 := Tryz.isAgg200
 z198 := Tryz.sizeOf200
 v198 := Tryz.zeroValue200
 t201 := Tryz.underlying203
 a201 := Tryz.isAgg203
 z201 := Tryz.sizeOf203
 v201 := Tryz.zeroValue203
 t226 := Tryz.underlying216
 a226 := Tryz.isAgg216
 z226 := Tryz.sizeOf216
 v226 := Tryz.zeroValue216
 t227 := Tryz.underlying217
 a227 := Tryz.isAgg217
 z227 := Tryz.sizeOf217
 v227 := Tryz.zeroValue217
 g0 := by kernel_rfl
 g6 := by kernel_rfl }
open Go.RowKit Go.Lib in
theorem Tryz.strings_Fields (s : ByteArray) (w : World) (hs : s.size < 4294967281) (hascii : ∀ (j : Nat) b, s.data.toList[j]? = some b → b.toNat < 128) (htab : Lib.TabIs Tryz.prog w "strings.asciiSpace" .u8 Lib.asciiSpaceTab) :
  Calls Tryz.prog 66 #[.string s] w fun e w' =>
   e = .returned (.slice (some ⟨w.heap.size, 0, none⟩) (Lib.fields s.data.toList).length (Lib.fields s.data.toList).length) ∧ w' = w.alloc (.cells ((Lib.fields s.data.toList).map fun l => Value.string ⟨l.toArray⟩).toArray 9) := Any.strings_Fields Tryz.ytq (by kernel_rfl) (by kernel_rfl) s w hs hascii htab
end Go.Proofs


namespace Go.Proofs.YtfhpamcehnfhoaaGreatDoor
open Go Go.RowKit Go.Shelf Go.Proofs
set_option linter.unusedVariables false
set_option maxRecDepth 100000
theorem yq9 (b : Nat) (w : World) (h0 : w.cell? ⟨b, 0, none⟩ = some (.pointer (some ⟨b, 0, none⟩))) :
  Calls Tryz.prog 94 #[.pointer (some ⟨b, 0, none⟩)] w fun e w' => e = .returned (.tuple #[]) ∧ w' = w := by
 obtain ⟨j, hj, _⟩ := Option.map_eq_some_iff.1 Tryz.z5v.sizeBuilder
 go_enter Tryz.func94, Tryz.ntmps94
 go_wp2
 rw [Lib.run_neq_ptr_same w _ Tryz.underlying71 hj]
 go_wp2
 go_end0
 exact ⟨rfl, rfl⟩
theorem yl4 (b : Nat) (w : World) (h0 : w.cell? ⟨b, 0, none⟩ = some (.pointer none)) (hsh : w.shape? b = some (74, 2)) (hfz : w.frozen? ⟨b, 0, none⟩ = false) :
  Calls Tryz.prog 94 #[.pointer (some ⟨b, 0, none⟩)] w fun e w' => e = .returned (.tuple #[]) ∧ w' = w.setCell ⟨b, 0, none⟩ (.pointer (some ⟨b, 0, none⟩)) := by
 obtain ⟨j, hj, hjs⟩ := Option.map_eq_some_iff.1 Tryz.z5v.sizeBuilder
 go_enter Tryz.func94, Tryz.ntmps94
 go_wp2
 rw [Lib.run_to_unsafe w ⟨b, 0, none⟩ Tryz.underlying71 Tryz.underlying158 hj (by rw [hjs]; decide) hsh (Nat.zero_lt_succ 1)]
 simp only [Result.andThen]
 rw [Oper.upon_value]
 go_wp2
 rw [run_callFunc_extern Tryz.func130 (by kernel_rfl) (by kernel_rfl) (by kernel_rfl) (e := Extern.AbiNoEscape.same) (by kernel_rfl)]
 rw [Lib.run_noEscape]
 simp only [Result.andThen]
 rw [Oper.upon_value]
 go_wp2
 rw [Lib.run_from_unsafe w ⟨b, 0, none⟩ Tryz.underlying158 Tryz.underlying71 hj hsh Tryz.z5v.liesBuilder]
 simp only [Result.andThen]
 rw [Oper.upon_value]
 go_wp2
 go_end0
 exact ⟨rfl, rfl⟩
theorem ylt (b g cap : Nat) (p : Value) (l : List UInt8) (cur : Array Value) (w : World) (h0 : l ≠ []) (hbk : w.heap[b]? = some (.cells #[p, .slice (some ⟨g, 0, none⟩) l.length cap] 74 (0, 0))) (hg : w.heap[g]? = some (.cells cur 5 (0, 0))) (hlcap : l.length ≤ cap) (hlc : l.length ≤ cur.size) (hmax : l.length ≤ 9223372036854775807)
  (hc : ∀ (j : Nat) (x : UInt8), l[j]? = some x → w.cell? ⟨g, j, none⟩ = some (.int .u8 x.toNat)) :
  Calls Tryz.prog 39 #[.pointer (some ⟨b, 0, none⟩)] w fun e w' => e = .returned (.string ⟨l.toArray⟩) ∧ w' = w.drew.freeze ⟨g, 0, none⟩ l.length := by
 have hl0 : l.length ≠ 0 := by simpa using h0
 have c1 : w.drew.cell? ⟨b, 1, none⟩ = some (.slice (some ⟨g, 0, none⟩) l.length cap) := by
  have : w.drew.heap[b]? = some (.cells #[p, .slice (some ⟨g, 0, none⟩) l.length cap] 74 (0, 0)) := hbk
  rw [Lib.cell_of_heap this]; rfl
 have hSD : (Builtin.unsafeSliceData_ #[72] 100 #[.slice (some ⟨g, 0, none⟩) l.length cap]).run Tryz.prog w.drew = .ok (.pointer (some ⟨g, 0, none⟩)) w.drew :=
  Lib.run_unsafeSliceData_row _ _ _ _ _ _ (by omega)
 have hUS : (Builtin.unsafeString_ #[100, 3] 9 #[.pointer (some ⟨g, 0, none⟩), .int .i64 l.length]).run Tryz.prog w.drew = .ok (.string ⟨l.toArray⟩) (w.drew.freeze ⟨g, 0, none⟩ l.length) := by
  refine Lib.run_unsafeString_row w.drew 100 3 9 5 Tryz.underlying100 Tryz.z5v.cellsByte g cur.size (by have hg' : w.drew.heap[g]? = some (.cells cur 5 (0, 0)) := hg; simp [World.shape?, hg']) l h0 hlc hmax ?_
  intro j x hx
  have := hc j x hx
  have hadd : (⟨g, 0, none⟩ : Addr).add j = ⟨g, j, none⟩ := by unfold Addr.add; split <;> simp_all
  rw [hadd]
  exact this
 go_enter Tryz.func39, Tryz.ntmps39
 go_wp2
 go_region
 all_goals (go_wp2; go_ret; exact ⟨rfl, rfl⟩)
end Go.Proofs.YtfhpamcehnfhoaaGreatDoor


namespace Go.Proofs.YtfhpamcehnfhoaaGreatDoor
open Go Go.Ab Go.RowKit Go.Proofs
set_option linter.unusedVariables false
set_option linter.unusedSimpArgs false
theorem y5u {W : World} {g : Gh} {H : Heap} {u : V} {cs : Array Value} (h : zjp W g H [u] cs) : ∃ x, cs = #[x] ∧ Rel W g H u x := by
 obtain ⟨h1, h2⟩ := h
 have hsz : cs.toList.length = 1 := by simpa using h1
 obtain ⟨c, hc⟩ := List.length_eq_one_iff.1 hsz
 have hc' : cs = #[c] := by rw [← Array.toList_inj, hc]
 subst hc'
 exact ⟨c, rfl, by simpa using h2 0 _ rfl⟩
theorem yoe {W : World} {g : Gh} {H : Heap} {lv i : Nat} {a c : V} (hG : Go.Ab.Good W g H) (hg : H.get lv i = some (.arr 0 74 2 [.agg [a, c]] (some 1))) :
  g.cap lv i = 1 ∧ ∃ p v, W.heap[g.ab lv i]? = some (.cells #[p, v] 74 (0, 0)) ∧ Rel W g H a p ∧ Rel W g H c v ∧ p.oneCell' = true ∧ v.oneCell' = true := by
 obtain ⟨cc, k1, k2, k3, k3', k4, k5, k6, k7, k8⟩ := hG.obj _ _ _ hg
 have hcap := k5 1 rfl
 rw [hcap] at k3
 obtain ⟨l⟩ := cc
 match l, k3 with
 | [p, v], _ =>
   refine ⟨hcap, p, v, k1, k8 0 _ 0 a rfl rfl, k8 0 _ 1 c rfl rfl, k7 0 _ 0 a rfl rfl, k7 0 _ 1 c rfl rfl⟩
 | [], h => simp at h
 | [_], h => simp at h
 | _ :: _ :: _ :: _, h => simp at h
theorem ys4 {α : Type} {L : List α} {i : Nat} {x : α} (h : L[i]? = some x) : L.set i x = L := by
 refine List.ext_getElem? fun j => ?_
 rw [List.getElem?_set]
 split
 ·rename_i e
  subst e
  split
  ·exact h.symm
  ·rename_i hn; exact (hn (List.getElem?_eq_some_iff.1 h).1).elim
 ·rfl
theorem yhl {lv i : Nat} {L : List (Option yz4)} {E : Nat → Nat → Option yz4} {a c : V} (hL : L[i]? = some (some (.arr 0 74 2 [.agg [a, c]] (some 1)))) (ha : a = .nilp ∨ a = .ap lv i 0 0 0) :
  zny Tryz.prog 94 [.ap lv i 0 0 0] ⟨lv, L, E⟩ fun o H' => o = .ret (.tup []) ∧ H' = ⟨lv, L.set i (some (.arr 0 74 2 [.agg [.ap lv i 0 0 0, c]] (some 1))), E⟩ := by
 intro W g cargs hG hR
 have hg : (⟨lv, L, E⟩ : Heap).get lv i = some (.arr 0 74 2 [.agg [a, c]] (some 1)) := by simp [Heap.get, hL]
 obtain ⟨x, rfl, h0⟩ := y5u hR
 obtain ⟨hcap, p, v, k1, k2, k3, k4, k5⟩ := yoe hG hg
 refine ⟨Tryz.call94 _ _, ?_⟩
 cases h0 with
 | ap _ _ _ _ _ ad hd hv hadr =>
   have had : ad = ⟨g.ab lv i, 0, none⟩ := hadr _ _ _ _ hg
   subst had
   rcases ha with rfl | rfl
   · cases k2
     refine (yl4 (g.ab lv i) W (by rw [Lib.cell_of_heap k1]; rfl) (by simp [World.shape?, k1]) (by simp [World.frozen?, k1])).mono ?_
     rintro e W' ⟨rfl, rfl⟩
     have hh : (W.setCell ⟨g.ab lv i, 0, none⟩ (.pointer (some ⟨g.ab lv i, 0, none⟩))).heap[g.ab lv i]? = some (.cells #[.pointer (some ⟨g.ab lv i, 0, none⟩), v] 74 (0, 0)) := by simp [World.setCell, Array.getElem?_modify, k1]
     obtain ⟨q1, q2⟩ := zlg (W' := W.setCell ⟨g.ab lv i, 0, none⟩ (.pointer (some ⟨g.ab lv i, 0, none⟩))) hG (o' := .arr 0 74 2 [.agg [.ap lv i 0 0 0, c]] (some 1)) hg rfl rfl rfl rfl (by simp [World.setCell]) (fun b hb1 hb2 => Below.heap_setCell _ _ _ _ fun e => hb2 e)
       (fun ver ty sz xs cp he => by injection he with e1 e2 e3 e4 e5; subst e1; subst e2; subst e3; subst e4; exact ⟨_, _, _, rfl, Nat.le_refl _, fun _ => Nat.le_refl _⟩) (fun hst => by
       refine yh4 (c := #[.pointer (some ⟨g.ab lv i, 0, none⟩), v]) hcap hh (by decide) rfl ⟨rfl, fun j u hj => ?_, fun j u hj => ?_⟩
       · match j, hj with
         | 0, _ => rfl
         | 1, _ => exact k5
         | j + 2, hj => simp [V.cells] at hj
       · match j, hj with
         | 0, hj =>
           simp only [V.cells, List.getElem?_cons_zero, Option.some.injEq] at hj
           subst hj
           exact .ap lv i 0 0 0 _ hd (fun _ _ _ _ _ _ => Nat.zero_le _) fun ty sz xs cp h => by simp
         | 1, hj =>
           simp only [V.cells, List.getElem?_cons_succ, List.getElem?_cons_zero, Option.some.injEq] at hj
           subst hj
           exact k3.mono hst
         | j + 2, hj => simp [V.cells] at hj)
     refine ⟨.ret (.tup []), _, g, ⟨rfl, rfl⟩, ?_, ?_, _, rfl, .tup [] #[] rfl (by simp)⟩
     · have := q1; simp only [Heap.set, if_pos] at this; exact this
     · have := q2; simp only [Heap.set, if_pos] at this; exact this
   · have hp : p = .pointer (some ⟨g.ab lv i, 0, none⟩) := by
       cases k2 with
       | ap _ _ _ _ _ ad hd hv hadr => rw [hadr _ _ _ _ hg]
     subst hp
     refine (yq9 (g.ab lv i) W (by rw [Lib.cell_of_heap k1]; rfl)).mono ?_
     rintro e W' ⟨rfl, rfl⟩
     rw [ys4 hL]
     exact ⟨.ret (.tup []), _, g, ⟨rfl, rfl⟩, .refl _ _ _, hG, _, rfl, .tup [] #[] rfl (by simp)⟩
theorem yo8 {lv i : Nat} {L : List (Option yz4)} {E : Nat → Nat → Option yz4} {a c : V} {s : List UInt8} (hL : L[i]? = some (some (.arr 0 74 2 [.agg [a, c]] (some 1))))
  (hb : (c = .nils ∧ s = []) ∨ ∃ j ver ws cp, c = .hs lv j ver 0 ws.length false ∧ L[j]? = some (some (.arr ver 5 1 ws cp)) ∧ ze0 ws = some s) :
  zny Tryz.prog 39 [.ap lv i 0 0 0] ⟨lv, L, E⟩ fun o H' => o = .ret (.str s) ∧ ∃ L', H' = ⟨lv, L', E⟩ ∧ L'.length = L.length ∧ ∀ k, (∀ j ver n, c = .hs lv j ver 0 n false → k ≠ j) → L'[k]? = L[k]? := by
 intro W g cargs hG hR
 have hg : (⟨lv, L, E⟩ : Heap).get lv i = some (.arr 0 74 2 [.agg [a, c]] (some 1)) := by simp [Heap.get, hL]
 obtain ⟨x, rfl, h0⟩ := y5u hR
 obtain ⟨hcap, p, v, k1, k2, k3, k4, k5⟩ := yoe hG hg
 refine ⟨Tryz.call39 _ _, ?_⟩
 have below : ∀ {W' : World}, Below W.heap.size W W' → s = [] → ∀ (e : Ending), e = .returned (.string ⟨#[]⟩) →
   ∃ o H' g', (o = Out.ret (.str s) ∧ ∃ L', H' = ⟨lv, L', E⟩ ∧ L'.length = L.length ∧ ∀ k, (∀ j ver n, c = .hs lv j ver 0 n false → k ≠ j) → L'[k]? = L[k]?) ∧ Step W g ⟨lv, L, E⟩ W' g' H' ∧ Go.Ab.Good W' g' H' ∧ y5a W' g' H' o e := fun {W'} hB hs e he => by
  subst he; subst hs
  have hgr : Grow W W' := ⟨hB.os, hB.tape, hB.output, hB.size, hB.block⟩
  exact ⟨.ret (.str []), ⟨lv, L, E⟩, g, ⟨rfl, L, rfl, rfl, fun _ _ => rfl⟩, hgr.step, hG.grow hgr, _, rfl, .str []⟩
 cases h0 with
 | ap _ _ _ _ _ ad hd hv hadr =>
   have had : ad = ⟨g.ab lv i, 0, none⟩ := hadr _ _ _ _ hg
   subst had
   rcases hb with ⟨rfl, hs⟩ | ⟨j, ver, ws, cp, rfl, hj, hbs⟩
   · cases k3
     refine (Any.Builder_String_nil Tryz.yeh Tryz.z5v W.heap.size (g.ab lv i) p W k1).mono ?_
     rintro e W' ⟨he, hB⟩
     exact below hB hs e he
   · have hgj : (⟨lv, L, E⟩ : Heap).get lv j = some (.arr ver 5 1 ws cp) := by simp [Heap.get, hj]
     obtain ⟨b1, b2⟩ := zn6 hbs
     obtain ⟨cc, m1, m2, m3, m3', m4, m5, m6, m7, m8⟩ := hG.obj _ _ _ hgj
     cases k3 with
     | hs _ _ _ _ _ _ ad m cap hd' hv' ha' =>
       obtain ⟨rfl, rfl, ⟨c1, c2, _⟩, c3⟩ := ha' _ _ _ _ hgj
       by_cases hs : s = []
       · have hw0 : ws.length = 0 := by rw [← b1, hs]; rfl
         rw [hw0] at k1
         by_cases hc0 : cap = 0
         · subst hc0
           refine (Any.Builder_String_noroom Tryz.yeh Tryz.z5v W.heap.size (g.ab lv i) (g.ab lv j) p cc W (Nat.le_refl _) k1 m1).mono ?_
           rintro e W' ⟨he, hB⟩
           exact below hB hs e he
         · refine (Any.Builder_String_room Tryz.yeh Tryz.z5v W.heap.size (g.ab lv i) (g.ab lv j) cap p W hc0 k1).mono ?_
           rintro e W' ⟨he, hB⟩
           exact below hB hs e he
       · have hsz : s.length ≤ cc.size := by rw [m3]; omega
         refine (ylt (g.ab lv i) (g.ab lv j) cap p s cc W hs (by rw [b1]; exact k1) m1 (by rw [b1]; exact c1) hsz (by unfold maxLen at m3'; omega) fun q x hq => ?_).mono ?_
         · have hq' := b2 q x hq
           have hrel := m8 q _ 0 _ hq' rfl
           rw [Lib.cell_of_heap m1]
           have hql : q < cc.size := Nat.lt_of_lt_of_le (List.getElem?_eq_some_iff.1 hq).1 hsz
           rw [Nat.mul_one, Nat.add_zero, Array.getD_eq_getD_getElem?, Array.getElem?_eq_getElem hql] at hrel
           rw [Array.getElem?_eq_getElem hql]
           simp only [Option.getD_some] at hrel
           generalize cc[q] = z at hrel
           cases hrel
           rfl
         · rintro e W' ⟨rfl, rfl⟩
           obtain ⟨g1, g2, g3, g4⟩ := ybx hG hgj
           have hfz : ∀ k, k ≠ g.ab lv j → (W.drew.freeze ⟨g.ab lv j, 0, none⟩ s.length).heap[k]? = W.heap[k]? := fun k hk => by
             unfold World.freeze
             split
             · rfl
             · simp only [Array.getElem?_modify]
               rw [if_neg (fun e => hk e.symm)]
               rfl
           have hsize : (W.drew.freeze ⟨g.ab lv j, 0, none⟩ s.length).heap.size = W.heap.size := by
             unfold World.freeze
             split
             · rfl
             · exact Array.size_modify ..
           have hos : (W.drew.freeze ⟨g.ab lv j, 0, none⟩ s.length).os = W.os ∧ (W.drew.freeze ⟨g.ab lv j, 0, none⟩ s.length).tape = W.tape ∧ (W.drew.freeze ⟨g.ab lv j, 0, none⟩ s.length).output = W.output := by unfold World.freeze; split <;> exact ⟨rfl, rfl, rfl⟩
           have hob : Own g ⟨lv, L, E⟩ (g.ab lv j) := ⟨_, _, _, hgj, rfl⟩
           have hst : Step W g ⟨lv, L, E⟩ (W.drew.freeze ⟨g.ab lv j, 0, none⟩ s.length) g ((⟨lv, L, E⟩ : Heap).zfh j) :=
             ⟨hos.1, hos.2.1, hos.2.2, Nat.le_of_eq hsize.symm, fun b hb hno => hfz b (fun e => hno (by rw [e]; exact hob)), g2.own, g2.dom, g2.new, g2.blk, g2.arr, g2.lv⟩
           have hst2 : ∀ l k o, ((⟨lv, L, E⟩ : Heap).zfh j).get l k = some o → o.blk g l k ≠ g.ab lv j := fun l k o ho e => by
             obtain ⟨q1, q2⟩ := Heap.zbk ho
             exact q2 (hG.inj _ _ _ _ _ _ q1 hgj e)
           refine ⟨.ret (.str s), (⟨lv, L, E⟩ : Heap).zfh j, g, ⟨rfl, L.set j none, rfl, by simp, fun k hk => ?_⟩, hst, ⟨g1.dom, fun l k o ho => by rw [hsize]; exact g1.lt l k o ho, g1.inj, g1.fresh, fun l k o ho => ?_, hG.zk2.step hst⟩, _, rfl, .str s⟩
           · rw [List.getElem?_set_ne (fun e => hk j ver ws.length rfl e.symm)]
           · have ho' := hG.obj l k o (Heap.zbk ho).1
             exact ho'.mono hst (hfz _ (hst2 l k o ho)) rfl rfl rfl
end Go.Proofs.YtfhpamcehnfhoaaGreatDoor


namespace Go.Proofs.YtfhpamcehnfhoaaGreatDoor
open Go Go.Ab Go.RowKit Go.Proofs
set_option linter.unusedVariables false
set_option linter.unusedSimpArgs false
set_option maxRecDepth 100000
def kzl : Nat → List Int → Option (List Int) := fun _ xs => some xs
noncomputable def kzc : FI dat :=
 { R := List Int, ent := fun n => { f := 94, p := 1, args := [.bp 0], aos := [.bld 74 1, .acc 5 (.int .u8) true], outs := [], ros := [.bld 74 1, .acc 5 (.int .u8) true], pan := .nilp, pos := [.bld 74 1, .acc 5 (.int .u8) true], pure := false, go := fun x k _ => (kzl n x.1).bind fun r => k (r, ()) },
   c := .skip, K := ⟨fun _ => none, [], fun _ => none, fun _ _ => none⟩, p := 0, args := [], aos := [], nt := 0, z8d := fun _ => [], go := fun _ _ => none }
def zzu : Nat → List Int → Option (List UInt8) := fun _ xs => zr2 xs
noncomputable def yzf : FI dat :=
 { R := List UInt8, ent := fun n => { f := 39, p := 0, args := [.bp 0], aos := [.bld 74 1, .acc 5 (.int .u8) true], outs := [.d .str], ros := [], pan := .nilp, pos := [], pure := false, go := fun x k _ => (zzu n x.1).bind fun r => k (r, ()) },
   c := .skip, K := ⟨fun _ => none, [], fun _ => none, fun _ _ => none⟩, p := 0, args := [], aos := [], nt := 0, z8d := fun _ => [], go := fun _ _ => none }
theorem y4n {lv : Nat} {L : List (Option yz4)} {ρ0 : List Slot} {vargs : List V} {xs : List Int} (k1 : ρ0.length = 2) (k2 : VRL dat ρ0 lv [TV.bp 0 0] vargs)
  (k3 : ∀ j o, (j, o) ∈ [((0 : Nat), (TO.bld 74 (some 1) : TO dat.T)), (1, .acc 5 (.int .u8) xs true)] → ∃ sl, ρ0[j]? = some sl ∧ OR dat ρ0 lv L sl o) :
  ∃ s0 s1 i a c, ρ0 = [s0, s1] ∧ vargs = [.ap lv i 0 0 0] ∧ s0.k = some i ∧ L[i]? = some (some (.arr 0 74 2 [.agg [a, c]] (some 1))) ∧ (a = .nilp ∨ a = .ap lv i 0 0 0) ∧ VR dat ρ0 lv (.own 1) c ∧ OR dat ρ0 lv L s1 (.acc 5 (.int .u8) xs true) := by
 obtain ⟨s0, s1, rfl⟩ : ∃ s0 s1, ρ0 = [s0, s1] := by
  match ρ0, k1 with
  | [a, b], _ => exact ⟨a, b, rfl⟩
 simp only [VRL, VR] at k2
 obtain ⟨v, r, rfl, ⟨sl, i, e1, e2, rfl⟩, rfl⟩ := k2
 obtain rfl : s0 = sl := by simpa using e1
 obtain ⟨sl, e4, e5⟩ := k3 0 (.bld 74 (some 1)) (by simp)
 obtain rfl : s0 = sl := by simpa using e4
 simp only [OR] at e5
 obtain ⟨i', a, c, q1, q2, q3, q4⟩ := e5
 rw [e2] at q1; injection q1 with q1; subst q1
 obtain ⟨sl, e6, e7⟩ := k3 1 (.acc 5 (.int .u8) xs true) (by simp)
 obtain rfl : s1 = sl := by simpa using e6
 exact ⟨s0, s1, i, a, c, rfl, rfl, e2, q2, q3, q4, e7⟩
theorem z4u : FOk Tryz.prog kzc := fun n R x k kp r h => by
 refine .inl ⟨(x.1, ()), h, fun lv L E ρ0 vargs k1 k2 k3 k4 => ?_⟩
 obtain ⟨s0, s1, i, a, c, rfl, rfl, e2, q2, q3, q4, e7⟩ := y4n (xs := x.1) k1 k2 k3
 have hlt := (List.getElem?_eq_some_iff.1 q2).1
 refine (yhl (E := E) q2 q3).mono fun o H' ⟨h1, h2⟩ => ⟨_, [s0, s1], h2, ⟨rfl, fun j o hm => ?_, k4, fun s sl i' r hk => .inr ⟨s, sl, r, hk⟩, fun i' hi' hno => ?_, fun j sl _ h => h⟩, fun q hq => by simp [kzc] at hq, [], h1, (by simp only [VRL] : VRL dat [s0, s1] lv [] [])⟩
 ·have hm : (j, o) ∈ [((0 : Nat), (TO.bld 74 (some 1) : TO dat.T)), (1, .acc 5 (.int .u8) x.1 true)] := hm
  simp only [List.mem_cons, List.not_mem_nil, or_false, Prod.mk.injEq] at hm
  rcases hm with ⟨rfl, rfl⟩ | ⟨rfl, rfl⟩
  ·refine ⟨s0, rfl, ?_⟩
   simp only [OR]
   exact ⟨i, .ap lv i 0 0 0, c, e2, by simp [hlt], .inr rfl, q4⟩
  ·refine ⟨s1, rfl, ?_⟩
   have := e7.mono (L' := L.set i (some (.arr 0 74 2 [.agg [.ap lv i 0 0 0, c]] (some 1)))) [] fun i' hi' _ => by
    rw [List.getElem?_set_ne]
    intro e
    subst e
    have := k4 0 1 s0 s1 i rfl rfl e2 hi'
    cases this
   simpa using this
 ·exact ⟨by simpa using hi', List.getElem?_set_ne fun e => hno 0 s0 rfl (by rw [e2, e])⟩
theorem z66 : FOk Tryz.prog yzf := fun n R x k kp r h => by
 obtain ⟨s, hs, h⟩ := Option.bind_eq_some_iff.1 h
 have hs : zr2 x.1 = some s := hs
 refine .inl ⟨(s, ()), h, fun lv L E ρ0 vargs k1 k2 k3 k4 => ?_⟩
 obtain ⟨s0, s1, i, a, c, rfl, rfl, e2, q2, q3, q4, e7⟩ := y4n (xs := x.1) k1 k2 k3
 simp only [VR] at q4
 obtain ⟨sl, d1, d2, d3⟩ := q4
 obtain rfl : s1 = sl := by simpa using d1
 subst d2
 simp only [OR] at e7
 obtain ⟨p1, p2, p3⟩ := e7
 have hb : (s1.v = .nils ∧ s = []) ∨ ∃ j ver ws cp, s1.v = .hs lv j ver 0 ws.length false ∧ L[j]? = some (some (.arr ver 5 1 ws cp)) ∧ ze0 ws = some s ∧ s1.k = some j := by
  have hbv : ze0 s1.ws = some s := by rw [zty x.1 s1.ws p1 p2, hs]
  cases hk : s1.k with
  | none =>
    rw [hk] at p3
    rcases p3 with ⟨w1, w2⟩ | ⟨⟨_, w2⟩, _⟩
    · rw [w2] at hbv
      simp only [ze0, Option.some.injEq] at hbv
      exact .inl ⟨w1, hbv.symm⟩
    · exact (w2 rfl).elim
  | some j =>
    rw [hk] at p3
    obtain ⟨ver, cp, w1, w2⟩ := p3
    exact .inr ⟨j, ver, s1.ws, cp, w1, w2, hbv, rfl⟩
 refine (yo8 (E := E) (s := s) q2 (hb.imp id fun ⟨j, ver, ws, cp, w1, w2, w3, _⟩ => ⟨j, ver, ws, cp, w1, w2, w3⟩)).mono fun o H' ⟨h1, L', h2, h3, h4⟩ => ⟨L', [], h2, ⟨rfl, fun j o hm => (by cases hm), fun _ _ _ _ _ h => (by simp at h), fun _ _ _ h => (by simp at h), fun i' hi' hno => ⟨by rw [h3]; exact hi', h4 i' fun j ver n hv e => ?_⟩, fun _ _ h => (Nat.not_lt_zero _ h).elim⟩, fun q hq => (by simp [yzf] at hq), [.str s], h1, ?_⟩
 ·rcases hb with ⟨w1, _⟩ | ⟨j', ver', ws, cp, w1, _, _, w4⟩
  ·rw [w1] at hv; cases hv
  ·rw [w1] at hv
   injection hv with _ hv
   subst hv
   exact hno 1 s1 rfl (by rw [w4, e])
 ·show VRL dat [] lv [TV.str s] [.str s]
  simp only [VRL, VR]
  exact ⟨_, _, rfl, rfl, rfl⟩
def kzd : Nat → List UInt8 → Option (List (List UInt8)) := fun _ s => if s.length < 4294967281 ∧ s.all (fun b => decide (b.toNat < 128)) = true then some (Lib.fields s) else none
def zhe : LSh := ⟨[(2, (.d (.sl .str)))], [], 0, 106⟩
noncomputable def z3m : FI dat := FI.of dat 66 106 0 [(.d .str)] [] [(.d (.sl .str))] [] true zhe (R := List (List UInt8)) (fun x => x.1) (fun r => (r, ())) (fun n x => kzd n x.1)
 (fun n => []) .skip
theorem y0h (s : List UInt8) (hl : s.length < 4294967281) (ha : s.all (fun b => decide (b.toNat < 128)) = true) : zj2 Tryz.prog 66 [.str s] (.sl 1 ((Lib.fields s).map V.str) false) := fun H W g cargs hG hA => by
 obtain ⟨x, rfl, h0⟩ := y5u hA
 cases h0
 have htab : Lib.TabIs Tryz.prog W "strings.asciiSpace" .u8 Lib.asciiSpaceTab := by
  obtain ⟨_, ty, q, hq⟩ := hG.zk2 0 gl0 rfl
  unfold Lib.TabIs World.var?
  rw [show Tryz.prog.globalNamed "strings.asciiSpace" = some 0 by kernel_rfl]
  simp only [Option.bind_some, hq]
  rfl
 refine .inl ⟨Tryz.call66 _ _, (Tryz.strings_Fields ⟨s.toArray⟩ W hl (fun j b hb => ?_) htab).mono fun e W' ⟨h1, h2⟩ => ?_⟩
 ·rw [List.all_eq_true] at ha
  exact of_decide_eq_true (ha b (List.mem_of_getElem? hb))
 ·subst h1; subst h2
  have hg : Grow W (W.alloc (.cells ((Lib.fields s).map fun l => Value.string ⟨l.toArray⟩).toArray 9)) := Grow.alloc W _
  refine ⟨_, g, rfl, hg.step, hG.grow hg, ?_⟩
  have hno : ¬ Own g H W.heap.size := fun ⟨l, i, o, h, he⟩ => by have := hG.lt l i o h; omega
  have hcell : ∀ (j : Nat) (l : List UInt8), (Lib.fields s)[j]? = some l → (W.alloc (.cells ((Lib.fields s).map fun l => Value.string ⟨l.toArray⟩).toArray 9)).cell? ⟨W.heap.size, j, none⟩ = some (.string ⟨l.toArray⟩) := fun j l hj => by
   rw [Lib.cell_of_heap (heap_alloc_new W _)]
   simp [hj]
  have key : ∀ (j : Nat) (y : V), ((Lib.fields s).map V.str)[j]? = some y → ∃ l, (Lib.fields s)[j]? = some l ∧ y = .str l := fun j y hj => by
   rw [List.getElem?_map, Option.map_eq_some_iff] at hj
   obtain ⟨l, h1, rfl⟩ := hj
   exact ⟨l, h1, rfl⟩
  have := Rel.sl (W := W.alloc (.cells ((Lib.fields s).map fun l => Value.string ⟨l.toArray⟩).toArray 9)) (g := g) (H := H) 1 ((Lib.fields s).map V.str) false W.heap.size 0 (Lib.fields s).length (fun j _ => .string ⟨((Lib.fields s)[j]?.getD []).toArray⟩) hno (by decide) (by simp) (by simp)
   (fun j y hj => by obtain ⟨l, _, rfl⟩ := key j y hj; rfl)
   (fun j y t v hj ht => by
    obtain ⟨l, hl', rfl⟩ := key j y hj
    cases t with
    | succ t => simp [V.cells] at ht
    | zero =>
      rw [hl']
      have := hcell j l hl'
      simpa using this)
   (fun j y t v hj ht => rfl)
   (fun j y t v hj ht => by
    obtain ⟨l, hl', rfl⟩ := key j y hj
    cases t with
    | succ t => simp [V.cells] at ht
    | zero =>
      simp only [V.cells, List.getElem?_cons_zero, Option.some.injEq] at ht
      subst ht
      rw [hl']
      exact .str l)
  simpa using this
theorem zc6 : FOk Tryz.prog z3m := fun n R x k kp r h => by
 obtain ⟨y, hy, h⟩ := Option.bind_eq_some_iff.1 (show (kzd n x.1).bind (fun r => k (r, ())) = some r from h)
 unfold kzd at hy
 split at hy
 ·rename_i hc
  injection hy with hy
  subst hy
  refine ⟨(_, ()), h, rfl, rfl, rfl, fun lv vargs ha => ⟨[.sl 1 ((Lib.fields x.1).map V.str) false], fun ρ lv' => ?_, ?_⟩⟩
  ·show VRL dat ρ lv' [TV.sl .str (Lib.fields x.1) 0] _
   simp only [VRL, VR]
   exact ⟨_, _, rfl, ⟨DR.elsl .str _ fun z => .str z, by omega, by omega⟩, rfl⟩
  ·have ha : VRL dat [] lv [TV.str x.1] vargs := ha
   simp only [VRL, VR] at ha
   obtain ⟨v, r1, rfl, rfl, rfl⟩ := ha
   exact y0h _ hc.1 hc.2
 ·cases hy
def kzj : Nat → Int → Int → Option (List UInt8) := fun _ n b => if b = 10 ∧ -9223372036854775808 ≤ n ∧ n ≤ 9223372036854775807 then some (Lib.itoa n) else none
def zdy : LSh := ⟨[(4, (.d .str))], [], 0, 8⟩
noncomputable def z88 : FI dat := FI.of dat 157 8 0 [(.d (.int .i64)), (.d (.int .i64))] [] [(.d .str)] [] true zdy (R := List UInt8) (fun x => x.1) (fun r => (r, ())) (fun n x => kzj n x.1 x.2.1)
 (fun n => []) .skip
theorem ylh (n : Int) (h0 : -9223372036854775808 ≤ n) (h1 : n ≤ 9223372036854775807) : zj2 Tryz.prog 157 [.int .i64 n, .int .i64 10] (.str (Lib.itoa n)) := fun H W g cargs hG hA => by
 obtain ⟨x, y, rfl, e0, e1⟩ := y1o hA
 cases e0; cases e1
 have htab : Lib.TabIs Tryz.prog W "internal/strconv.uint64pow10" .u64 Lib.pow10Tab := by
  obtain ⟨_, ty, q, hq⟩ := hG.zk2 3 gl3 rfl
  unfold Lib.TabIs World.var?
  rw [show Tryz.prog.globalNamed "internal/strconv.uint64pow10" = some 3 by kernel_rfl]
  simp only [Option.bind_some, hq]
  rfl
 have c := Any.strconv_FormatInt_10 { Tryz.yhq with } n h0 h1 W htab
 refine .inl ⟨Tryz.call157 _ _, c.mono fun e W' ⟨h1, k, os, h2⟩ => ?_⟩
 subst h1; subst h2
 have hg : Grow W (Sort.grow (W.drewN k) os) := ⟨rfl, rfl, rfl, by simp [Sort.grow, World.drewN], fun b hb => by
  show (W.heap ++ os)[b]? = _
  rw [Array.getElem?_append_left hb]⟩
 exact ⟨_, g, rfl, hg.step, hG.grow hg, .str _⟩
theorem zj5 : FOk Tryz.prog z88 := fun n R x k kp r h => by
 obtain ⟨y, hy, h⟩ := Option.bind_eq_some_iff.1 (show (kzj n x.1 x.2.1).bind (fun r => k (r, ())) = some r from h)
 unfold kzj at hy
 split at hy
 ·rename_i hc
  injection hy with hy
  subst hy
  refine ⟨(_, ()), h, rfl, rfl, rfl, fun lv vargs ha => ⟨[.str (Lib.itoa x.1)], fun ρ lv' => ?_, ?_⟩⟩
  ·show VRL dat ρ lv' [TV.str (Lib.itoa x.1)] _
   simp only [VRL, VR]
   exact ⟨_, _, rfl, rfl, rfl⟩
  ·have ha : VRL dat [] lv [TV.int .i64 x.1, TV.int .i64 x.2.1] vargs := ha
   simp only [VRL, VR] at ha
   obtain ⟨v, r1, rfl, rfl, v2, r2, rfl, rfl, rfl⟩ := ha
   rw [hc.1]
   exact ylh _ hc.2.1 hc.2.2
 ·cases hy
def yzo : Nat → List UInt8 → Int → Option Int := fun _ s c => some (Lib.indexByte s c.toNat.toUInt8)
def z5u : LSh := ⟨[(4, (.d (.int .i64)))], [], 0, 8⟩
noncomputable def z0l : FI dat := FI.of dat 163 8 0 [(.d .str), (.d (.int .u8))] [] [(.d (.int .i64))] [] true z5u (R := Int) (fun x => x.1) (fun r => (r, ())) (fun n x => yzo n x.1 x.2.1)
 (fun n => []) .skip
theorem yl0 (s : List UInt8) (c : Int) : zj2 Tryz.prog 163 [.str s, .int .u8 c] (.int .i64 (Lib.indexByte s c.toNat.toUInt8)) := fun H W g cargs hG hA => by
 obtain ⟨x, y, rfl, h0, h1⟩ := y1o hA
 cases h0; cases h1
 have c := Tryz.stringslite_IndexByte ⟨s.toArray⟩ c W
 refine .inl ⟨Tryz.call163 _ _, c.mono fun e W' ⟨h1, h2⟩ => ?_⟩
 subst h1; subst h2
 exact ⟨_, g, rfl, .refl _ _ _, hG, .int _ _⟩
theorem z9b : FOk Tryz.prog z0l := fun n R x k kp r h => by
 refine ⟨(Lib.indexByte x.1 x.2.1.toNat.toUInt8, ()), h, rfl, rfl, rfl, fun lv vargs ha => ⟨[.int .i64 (Lib.indexByte x.1 x.2.1.toNat.toUInt8)], fun ρ lv' => ?_, ?_⟩⟩
 ·show VRL dat ρ lv' [TV.int .i64 (Lib.indexByte x.1 x.2.1.toNat.toUInt8)] _
  simp only [VRL, VR]
  exact ⟨_, _, rfl, rfl, rfl⟩
 ·have ha : VRL dat [] lv [TV.str x.1, TV.int .u8 x.2.1] vargs := ha
  simp only [VRL, VR] at ha
  obtain ⟨v, r1, rfl, rfl, v2, r2, rfl, rfl, rfl⟩ := ha
  exact yl0 _ _
def yzp : Nat → List UInt8 → List UInt8 → Option Int := fun _ s t => match t with
 | [c] => some (Lib.indexByte s c)
 | _ => none
def z7y : LSh := ⟨[(4, (.d (.int .i64)))], [], 0, 143⟩
noncomputable def z1o : FI dat := FI.of dat 205 143 0 [(.d .str), (.d .str)] [] [(.d (.int .i64))] [] true z7y (R := Int) (fun x => x.1) (fun r => (r, ())) (fun n x => yzp n x.1 x.2.1)
 (fun n => []) .skip
theorem yne (s : List UInt8) (c : UInt8) : zj2 Tryz.prog 205 [.str s, .str [c]] (.int .i64 (Lib.indexByte s c)) := fun H W g cargs hG hA => by
 obtain ⟨x, y, rfl, h0, h1⟩ := y1o hA
 cases h0; cases h1
 have c := Tryz.stringslite_Index_one ⟨s.toArray⟩ c W
 refine .inl ⟨Tryz.call205 _ _, c.mono fun e W' ⟨h1, h2⟩ => ?_⟩
 subst h1; subst h2
 exact ⟨_, g, rfl, .refl _ _ _, hG, .int _ _⟩
theorem zay : FOk Tryz.prog z1o := fun n R x k kp r h => by
 obtain ⟨s, t, u⟩ := x
 obtain ⟨y, hy, h⟩ := Option.bind_eq_some_iff.1 (show (yzp n s t).bind (fun r => k (r, ())) = some r from h)
 match t, hy with
 | [c], hy =>
   have hy : some (Lib.indexByte s c) = some y := hy
   injection hy with hy
   subst hy
   refine ⟨(_, ()), h, rfl, rfl, rfl, fun lv vargs ha => ⟨[.int .i64 (Lib.indexByte s c)], fun ρ lv' => ?_, ?_⟩⟩
   · show VRL dat ρ lv' [TV.int .i64 (Lib.indexByte s c)] _
     simp only [VRL, VR]
     exact ⟨_, _, rfl, rfl, rfl⟩
   · have ha : VRL dat [] lv [TV.str s, TV.str [c]] vargs := ha
     simp only [VRL, VR] at ha
     obtain ⟨v, r1, rfl, rfl, v2, r2, rfl, rfl, rfl⟩ := ha
     exact yne _ _
theorem yco {P : Program} {f lv : Nat} {b : Bool} (h : ∀ H : Heap, H.lv = lv → ziw P f [] H (.bool b) H) : zj2 P f [] (.bool b) := fun H W g cargs hG hA => by
 have hget : ∀ l i, (⟨lv, [], fun _ _ => none⟩ : Heap).get l i = none := fun l i => by unfold Heap.get; split <;> simp
 have hno : ∀ g b, ¬ Own g ⟨lv, [], fun _ _ => none⟩ b := fun g b ⟨l, i, o, h, _⟩ => by rw [hget] at h; cases h
 have bad : ∀ {l i : Nat} {o : yz4} {p : Prop}, (⟨lv, [], fun _ _ => none⟩ : Heap).get l i = some o → p := fun {l i o p} h => by rw [hget] at h; cases h
 have good : Go.Ab.Good W g0 ⟨lv, [], fun _ _ => none⟩ := ⟨fun _ _ _ h => bad h, fun _ _ _ h => bad h, fun _ _ _ _ _ _ h => bad h, fun _ _ h => h.elim, fun _ _ _ h => bad h, fun k cs hk => ⟨hno _ _, (hG.zk2 k cs hk).2⟩⟩
 have key : ∀ {W' : World} {g' : Gh}, Step W g0 ⟨lv, [], fun _ _ => none⟩ W' g' ⟨lv, [], fun _ _ => none⟩ → Grow W W' := fun s => ⟨s.os, s.tape, s.output, s.size, fun b hb => s.block b hb (hno _ _)⟩
 rcases h ⟨lv, [], fun _ _ => none⟩ rfl W g0 cargs good ⟨hA.1, fun j v hj => by simp at hj⟩ with ⟨h1, h2⟩ | ⟨c, W', g', h1, h2, h3, h4⟩
 ·refine .inl ⟨h1, h2.mono fun e W' ⟨c, g', he, hs, hg, hr⟩ => ?_⟩
  cases hr
  exact ⟨_, g, he, (key hs).step, hG.grow (key hs), .bool b⟩
 ·cases h4
  exact .inr ⟨_, W', g, h1, (key h2).step, hG.grow (key h2), .bool b⟩
def z4e : Nat → Option Bool := fun _ => some true
def zre : LSh := ⟨[(0, (.d .bool))], [], 0, 76⟩
noncomputable def zca : FI dat := FI.of dat 26 76 0 [] [] [(.d .bool)] [] true zre (R := Bool) (fun x => x.1) (fun r => (r, ())) (fun n _ => z4e n)
 (fun n => []) .skip
theorem zr3 : FOk Tryz.prog zca := fun n R x k kp r h => by
 refine ⟨(true, ()), h, rfl, rfl, rfl, fun lv vargs ha => ⟨[.bool true], fun ρ lv' => ?_, ?_⟩⟩
 ·show VRL dat ρ lv' [TV.bool true] _
  simp only [VRL, VR]
  exact ⟨_, _, rfl, rfl, rfl⟩
 ·have ha : VRL dat [] lv [] vargs := ha
  simp only [VRL] at ha
  subst ha
  exact yco ok73
end Go.Proofs.YtfhpamcehnfhoaaGreatDoor


namespace Go.Proofs.YtfhpamcehnfhoaaGreatDoor
open Go Go.Ab
set_option linter.unusedVariables false
set_option maxRecDepth 100000
mutual
def z5w : Nat → yz0 → Int → Option Bool
 | 0, _, _ => none
 | n + 1, a0, a1 =>
   pIf (a1 == 0)
     (z18 n a1 true a0.re)
     (pIf (decide ((a0.str.length : Int) > 200))
       (z18 n a1 true a0.re)
       (z18 n a1 (decide ((a0.list.length : Int) > 150)) a0.re))
def z18 : Nat → Int → Bool → yz0 → Option Bool
 | 0, _, _, _ => none
 | n + 1, a0, a1, a2 =>
   pIf a1
     (some true)
     (z2g n 0 a0 a2.re)
def z2g : Nat → Int → Int → yz0 → Option Bool
 | 0, _, _, _ => none
 | n + 1, a0, a1, a2 =>
   pIf (decide (a0 < (a2.list.length : Int)))
     ((ix a2.list a0).bind fun x0 =>
     (z5w n x0.re (IntKind.i64.wrap (a1 - 1))).bind fun y1 =>
     pIf y1
       (some true)
       (z2g n (IntKind.i64.wrap (a0 + 1)) a1 a2.re))
     (some false)
end
def yb9 : LSh := ⟨[(4, (.d .bool))], [], 0, 35⟩
noncomputable def zbr : FI dat := FI.of dat 58 35 0 [(.d (.st 3)), (.d (.int .i64))] [] [(.d .bool)] [] true yb9 (R := Bool) (fun x => x.1) (fun r => (r, ())) (fun n x => z5w n x.1 x.2.1)
 (fun n => [(0, ⟨⟨[(1, (.d (.int .i64))), (2, (.ptr 0 0)), (19, (.d .bool))], [(.st 3)], 0, 35⟩, fun x => z18 n x.1 x.2.1 x.2.2.1⟩), (1, ⟨⟨[(5, (.d (.int .i64))), (1, (.d (.int .i64))), (2, (.ptr 0 0))], [(.st 3)], 0, 35⟩, fun x => z2g n x.1 x.2.1 x.2.2.1⟩)]) (ann [(5, 0), (14, 1)] (Tryz.f58.body.getD .skip) 0).1
noncomputable def yaa : List (FI dat) := [zbr] ++ []
theorem ybb : (zbr).Good Tryz.prog dat (tb yaa) := FI.yz5 (hD := zz3 _) Tryz.func58 Tryz.ntmps58 Tryz.call58 (by kernel_rfl) (of_decide_eq_true (by kernel_rfl)) (by kernel_rfl) (fun n => by kernel_rfl) (fun x => by kernel_rfl) (fun _ => rfl) ⟨fun _ => rfl, fun _ => rfl, trivial⟩
 (fun n => fun x => (z5w.eq_2 x.1 x.2.1 n).trans (by kernel_rfl))
 (fun n => ⟨fun x => (z18.eq_2 x.1 x.2.1 x.2.2.1 n).trans (by kernel_rfl),
  fun x => (z2g.eq_2 x.1 x.2.1 x.2.2.1 n).trans (by kernel_rfl),
  trivial⟩)
 (fun x => .inl rfl)
theorem y91 : OkL Tryz.prog [zbr] := z4p (zz3 _) (bs := []) trivial ⟨ybb, trivial⟩
theorem y6r : FOk Tryz.prog zbr := y91.1
mutual
def z4l : Nat → yz0 → Option Int
 | 0, _ => none
 | n + 1, a0 =>
   z2c n 0 1 a0.re
def z2c : Nat → Int → Int → yz0 → Option Int
 | 0, _, _, _ => none
 | n + 1, a0, a1, a2 =>
   pIf (decide (a0 < (a2.list.length : Int)))
     (z2d n a0 a1 (a2.kind == 4) a2.re)
     (z2d n a0 a1 false a2.re)
def z2d : Nat → Int → Int → Bool → yz0 → Option Int
 | 0, _, _, _, _ => none
 | n + 1, a0, a1, a2, a3 =>
   pIf a2
     ((ix a3.list a0).bind fun x0 =>
     (z4l n x0.re).bind fun y1 =>
     z2c n (IntKind.i64.wrap (a0 + 1)) (IntKind.i64.wrap (a1 + y1)) a3.re)
     (some a1)
end
def y9q : LSh := ⟨[(2, (.d (.int .i64)))], [], 0, 26⟩
noncomputable def z8h : FI dat := FI.of dat 59 26 0 [(.d (.st 3))] [] [(.d (.int .i64))] [] true y9q (R := Int) (fun x => x.1) (fun r => (r, ())) (fun n x => z4l n x.1)
 (fun n => [(0, ⟨⟨[(4, (.d (.int .i64))), (1, (.ptr 0 0)), (3, (.d (.int .i64)))], [(.st 3)], 0, 26⟩, fun x => z2c n x.1 x.2.1 x.2.2.1⟩), (1, ⟨⟨[(1, (.ptr 0 0)), (4, (.d (.int .i64))), (3, (.d (.int .i64))), (14, (.d .bool))], [(.st 3)], 0, 26⟩, fun x => z2d n x.1 x.2.1 x.2.2.1 x.2.2.2.1⟩)]) (ann [(8, 0), (12, 1)] (Tryz.f59.body.getD .skip) 0).1
noncomputable def y9y : List (FI dat) := [z8h] ++ []
theorem y89 : (z8h).Good Tryz.prog dat (tb y9y) := FI.yz5 (hD := zz3 _) Tryz.func59 Tryz.ntmps59 Tryz.call59 (by kernel_rfl) (of_decide_eq_true (by kernel_rfl)) (by kernel_rfl) (fun n => by kernel_rfl) (fun x => by kernel_rfl) (fun _ => rfl) ⟨fun _ => rfl, fun _ => rfl, trivial⟩
 (fun n => fun x => (z4l.eq_2 x.1 n).trans (by kernel_rfl))
 (fun n => ⟨fun x => (z2c.eq_2 x.1 x.2.1 x.2.2.1 n).trans (by kernel_rfl),
  fun x => (z2d.eq_2 x.1 x.2.1 x.2.2.1 x.2.2.2.1 n).trans (by kernel_rfl),
  trivial⟩)
 (fun x => .inl rfl)
theorem ya3 : OkL Tryz.prog [z8h] := z4p (zz3 _) (bs := []) trivial ⟨y89, trivial⟩
theorem zsl : FOk Tryz.prog z8h := ya3.1
def z7f : Nat → yz0 → Option Bool
 | 0, _ => none
 | n + 1, a0 =>
   (z5w n a0.re 10).bind fun y0 =>
   pIf y0
     (some true)
     ((z4l n a0.re).bind fun y1 =>
     some (decide (y1 > 150)))
def ya0 : LSh := ⟨[(2, (.d .bool))], [], 0, 10⟩
noncomputable def zef : FI dat := FI.of dat 31 10 0 [(.d (.st 3))] [] [(.d .bool)] [] true ya0 (R := Bool) (fun x => x.1) (fun r => (r, ())) (fun n x => z7f n x.1)
 (fun n => []) (ann [] (Tryz.f31.body.getD .skip) 0).1
noncomputable def yb2 : List (FI dat) := [zbr, z8h]
theorem yb5 : (zef).Good Tryz.prog dat (tb yb2) := FI.yz5 (hD := zz3 _) Tryz.func31 Tryz.ntmps31 Tryz.call31 (by kernel_rfl) (of_decide_eq_true (by kernel_rfl)) (by kernel_rfl) (fun n => by kernel_rfl) (fun x => by kernel_rfl) (fun _ => rfl) trivial
 (fun n => fun x => (z7f.eq_2 x.1 n).trans (by kernel_rfl))
 (fun n => trivial)
 (fun x => .inl rfl)
theorem y8r : OkL Tryz.prog [zef] := yze (zz3 _) (bs := [zbr, z8h]) ⟨y6r, zsl, trivial⟩ yb5
theorem y7o : FOk Tryz.prog zef := y8r.1
mutual
def z61 : Nat → kz0 → Int → Option Bool
 | 0, _, _ => none
 | n + 1, a0, a1 =>
   pIf (a1 == 0)
     (z0j n a1 true a0.re)
     (pIf (decide ((a0.args.length : Int) > 150))
       (z0j n a1 true a0.re)
       (pIf (decide ((a0.name.length : Int) > 200))
         (z0j n a1 true a0.re)
         ((z7f n a0.value.re).bind fun y0 =>
         z0j n a1 y0 a0.re)))
def z0j : Nat → Int → Bool → kz0 → Option Bool
 | 0, _, _, _ => none
 | n + 1, a0, a1, a2 =>
   pIf a1
     (some true)
     (z2l n 0 a0 a2.re)
def z2l : Nat → Int → Int → kz0 → Option Bool
 | 0, _, _, _ => none
 | n + 1, a0, a1, a2 =>
   pIf (decide (a0 < (a2.args.length : Int)))
     ((ix a2.args a0).bind fun x1 =>
     (z61 n x1.re (IntKind.i64.wrap (a1 - 1))).bind fun y2 =>
     pIf y2
       (some true)
       (z2l n (IntKind.i64.wrap (a0 + 1)) a1 a2.re))
     (some false)
end
def y8s : LSh := ⟨[(4, (.d .bool))], [], 0, 40⟩
noncomputable def zbs : FI dat := FI.of dat 35 40 0 [(.d (.st 4)), (.d (.int .i64))] [] [(.d .bool)] [] true y8s (R := Bool) (fun x => x.1) (fun r => (r, ())) (fun n x => z61 n x.1 x.2.1)
 (fun n => [(0, ⟨⟨[(1, (.d (.int .i64))), (2, (.ptr 0 0)), (24, (.d .bool))], [(.st 4)], 0, 40⟩, fun x => z0j n x.1 x.2.1 x.2.2.1⟩), (1, ⟨⟨[(5, (.d (.int .i64))), (1, (.d (.int .i64))), (2, (.ptr 0 0))], [(.st 4)], 0, 40⟩, fun x => z2l n x.1 x.2.1 x.2.2.1⟩)]) (ann [(5, 0), (14, 1)] (Tryz.f35.body.getD .skip) 0).1
noncomputable def y8v : List (FI dat) := [zbs] ++ [zef]
theorem y9c : (zbs).Good Tryz.prog dat (tb y8v) := FI.yz5 (hD := zz3 _) Tryz.func35 Tryz.ntmps35 Tryz.call35 (by kernel_rfl) (of_decide_eq_true (by kernel_rfl)) (by kernel_rfl) (fun n => by kernel_rfl) (fun x => by kernel_rfl) (fun _ => rfl) ⟨fun _ => rfl, fun _ => rfl, trivial⟩
 (fun n => fun x => (z61.eq_2 x.1 x.2.1 n).trans (by kernel_rfl))
 (fun n => ⟨fun x => (z0j.eq_2 x.1 x.2.1 x.2.2.1 n).trans (by kernel_rfl),
  fun x => (z2l.eq_2 x.1 x.2.1 x.2.2.1 n).trans (by kernel_rfl),
  trivial⟩)
 (fun x => .inl rfl)
theorem y8z : OkL Tryz.prog [zbs] := z4p (zz3 _) (bs := [zef]) ⟨y7o, trivial⟩ ⟨y9c, trivial⟩
theorem y83 : FOk Tryz.prog zbs := y8z.1
mutual
def z4h : Nat → kz0 → Option Int
 | 0, _ => none
 | n + 1, a0 =>
   z2b n 0 1 a0.re
def z2b : Nat → Int → Int → kz0 → Option Int
 | 0, _, _, _ => none
 | n + 1, a0, a1, a2 =>
   pIf (decide (a0 < (a2.args.length : Int)))
     ((ix a2.args a0).bind fun x0 =>
     (z4h n x0.re).bind fun y1 =>
     z2b n (IntKind.i64.wrap (a0 + 1)) (IntKind.i64.wrap (a1 + y1)) a2.re)
     (some a1)
end
def ya7 : LSh := ⟨[(2, (.d (.int .i64)))], [], 0, 21⟩
noncomputable def z8n : FI dat := FI.of dat 36 21 0 [(.d (.st 4))] [] [(.d (.int .i64))] [] true ya7 (R := Int) (fun x => x.1) (fun r => (r, ())) (fun n x => z4h n x.1)
 (fun n => [(0, ⟨⟨[(4, (.d (.int .i64))), (1, (.ptr 0 0)), (3, (.d (.int .i64)))], [(.st 4)], 0, 21⟩, fun x => z2b n x.1 x.2.1 x.2.2.1⟩)]) (ann [(8, 0)] (Tryz.f36.body.getD .skip) 0).1
noncomputable def yat : List (FI dat) := [z8n] ++ []
theorem y9m : (z8n).Good Tryz.prog dat (tb yat) := FI.yz5 (hD := zz3 _) Tryz.func36 Tryz.ntmps36 Tryz.call36 (by kernel_rfl) (of_decide_eq_true (by kernel_rfl)) (by kernel_rfl) (fun n => by kernel_rfl) (fun x => by kernel_rfl) (fun _ => rfl) ⟨fun _ => rfl, trivial⟩
 (fun n => fun x => (z4h.eq_2 x.1 n).trans (by kernel_rfl))
 (fun n => ⟨fun x => (z2b.eq_2 x.1 x.2.1 x.2.2.1 n).trans (by kernel_rfl),
  trivial⟩)
 (fun x => .inl rfl)
theorem y8p : OkL Tryz.prog [z8n] := z4p (zz3 _) (bs := []) trivial ⟨y9m, trivial⟩
theorem zsy : FOk Tryz.prog z8n := y8p.1
def z5t : Nat → kz0 → Option Bool
 | 0, _ => none
 | n + 1, a0 =>
   (z61 n a0.re 16).bind fun y0 =>
   pIf y0
     (some true)
     ((z4h n a0.re).bind fun y1 =>
     some (decide (y1 > 150)))
def ybf : LSh := ⟨[(2, (.d .bool))], [], 0, 10⟩
noncomputable def z9v : FI dat := FI.of dat 10 10 0 [(.d (.st 4))] [] [(.d .bool)] [] true ybf (R := Bool) (fun x => x.1) (fun r => (r, ())) (fun n x => z5t n x.1)
 (fun n => []) (ann [] (Tryz.f10.body.getD .skip) 0).1
noncomputable def y92 : List (FI dat) := [zbs, z8n]
theorem yad : (z9v).Good Tryz.prog dat (tb y92) := FI.yz5 (hD := zz3 _) Tryz.func10 Tryz.ntmps10 Tryz.call10 (by kernel_rfl) (of_decide_eq_true (by kernel_rfl)) (by kernel_rfl) (fun n => by kernel_rfl) (fun x => by kernel_rfl) (fun _ => rfl) trivial
 (fun n => fun x => (z5t.eq_2 x.1 n).trans (by kernel_rfl))
 (fun n => trivial)
 (fun x => .inl rfl)
theorem y9l : OkL Tryz.prog [z9v] := yze (zz3 _) (bs := [zbs, z8n]) ⟨y83, zsy, trivial⟩ yad
theorem zrt : FOk Tryz.prog z9v := y9l.1
mutual
def z4r : Nat → kz0 → Option (Int × Int)
 | 0, _ => none
 | n + 1, a0 =>
   z1h n 0 1 1 a0.args (a0.args.length : Int)
def z1h : Nat → Int → Int → Int → (List kz0) → Int → Option (Int × Int)
 | 0, _, _, _, _, _ => none
 | n + 1, a0, a1, a2, a3, a4 =>
   pIf (decide (a0 < a4))
     ((ix a3 a0).bind fun x0 =>
     (z4r n x0.re).bind fun y1 =>
     z1h n (IntKind.i64.wrap (a0 + 1)) (mxI a1 (IntKind.i64.wrap (y1.2 + 1))) (IntKind.i64.wrap (a2 + y1.1)) a3 a4)
     (some (a2, a1))
end
def y6o : LSh := ⟨[(2, (.d (.int .i64))), (3, (.d (.int .i64)))], [], 0, 30⟩
noncomputable def zap : FI dat := FI.of dat 52 30 0 [(.d (.st 4))] [] [(.d (.int .i64)), (.d (.int .i64))] [] true y6o (R := Int × Int) (fun x => (x.1, x.2.1)) (fun r => (r.1, r.2, ())) (fun n x => z4r n x.1)
 (fun n => [(0, ⟨⟨[(11, (.d (.int .i64))), (3, (.d (.int .i64))), (2, (.d (.int .i64))), (9, (.d (.sl (.st 4)))), (10, (.d (.int .i64)))], [], 0, 30⟩, fun x => z1h n x.1 x.2.1 x.2.2.1 x.2.2.2.1 x.2.2.2.2.1⟩)]) (ann [(8, 0)] (Tryz.f52.body.getD .skip) 0).1
noncomputable def y7z : List (FI dat) := [zap] ++ []
theorem y7l : (zap).Good Tryz.prog dat (tb y7z) := FI.yz5 (hD := zz3 _) Tryz.func52 Tryz.ntmps52 Tryz.call52 (by kernel_rfl) (of_decide_eq_true (by kernel_rfl)) (by kernel_rfl) (fun n => by kernel_rfl) (fun x => by kernel_rfl) (fun _ => rfl) ⟨fun _ => rfl, trivial⟩
 (fun n => fun x => (z4r.eq_2 x.1 n).trans (by kernel_rfl))
 (fun n => ⟨fun x => (z1h.eq_2 x.1 x.2.1 x.2.2.1 x.2.2.2.1 x.2.2.2.2.1 n).trans (by kernel_rfl),
  trivial⟩)
 (fun x => .inl rfl)
theorem y57 : OkL Tryz.prog [zap] := z4p (zz3 _) (bs := []) trivial ⟨y7l, trivial⟩
theorem y2s : FOk Tryz.prog zap := y57.1
mutual
def z8m : Nat → Int → Option Int
 | 0, _ => none
 | n + 1, a0 =>
   pIf (a0 == 12)
     (z0c n 3)
     (pIf (a0 == 3)
       (yzq n (-2) a0 true)
       (pIf (a0 == 4)
         (yzq n (-2) a0 true)
         (pIf (a0 == 5)
           (yzq n (-2) a0 true)
           (pIf (a0 == 6)
             (yzq n (-2) a0 true)
             (pIf (a0 == 7)
               (yzq n (-2) a0 true)
               (pIf (a0 == 8)
                 (yzq n (-2) a0 true)
                 (pIf (a0 == 9)
                   (yzq n (-2) a0 true)
                   (yzq n (-2) a0 (a0 == 10)))))))))
def yzq : Nat → Int → Int → Bool → Option Int
 | 0, _, _, _ => none
 | n + 1, a0, a1, a2 =>
   pIf a2
     (z5b n )
     (pIf (a1 == 13)
       (z3f n a0 a1 true)
       (pIf (a1 == 14)
         (z3f n a0 a1 true)
         (z3f n a0 a1 (a1 == 17))))
def z3f : Nat → Int → Int → Bool → Option Int
 | 0, _, _, _ => none
 | n + 1, a0, a1, a2 =>
   pIf a2
     (z5b n )
     (pIf (a1 == 11)
       (z3a n a0 a1 true)
       (pIf (a1 == 15)
         (z3a n a0 a1 true)
         (z3a n a0 a1 (a1 == 16))))
def z3a : Nat → Int → Int → Bool → Option Int
 | 0, _, _, _ => none
 | n + 1, a0, a1, a2 =>
   pIf a2
     (z0c n 1)
     (pIf (a1 == 1)
       (z56 n a0 a1 true)
       (z56 n a0 a1 (a1 == 2)))
def z56 : Nat → Int → Int → Bool → Option Int
 | 0, _, _, _ => none
 | n + 1, a0, a1, a2 =>
   pIf a2
     (z0c n 0)
     (pIf (a1 == 18)
       (z0c n (-1))
       (z0c n a0))
def z5b : Nat → Option Int
 | 0 => none
 | n + 1 =>
   z0c n 2
def z0c : Nat → Int → Option Int
 | 0, _ => none
 | n + 1, a0 =>
   some a0
end
def ygv : LSh := ⟨[(2, (.d (.int .i64)))], [], 0, 30⟩
noncomputable def zgh : FI dat := FI.of dat 83 30 0 [(.d (.int .u8))] [] [(.d (.int .i64))] [] true ygv (R := Int) (fun x => x.1) (fun r => (r, ())) (fun n x => z8m n x.1)
 (fun n => [(0, ⟨⟨[(3, (.d (.int .i64))), (4, (.d (.int .u8))), (7, (.d .bool))], [], 0, 30⟩, fun x => yzq n x.1 x.2.1 x.2.2.1⟩), (1, ⟨⟨[(3, (.d (.int .i64))), (4, (.d (.int .u8))), (16, (.d .bool))], [], 0, 30⟩, fun x => z3f n x.1 x.2.1 x.2.2.1⟩), (2, ⟨⟨[(3, (.d (.int .i64))), (4, (.d (.int .u8))), (20, (.d .bool))], [], 0, 30⟩, fun x => z3a n x.1 x.2.1 x.2.2.1⟩), (3, ⟨⟨[(3, (.d (.int .i64))), (4, (.d (.int .u8))), (24, (.d .bool))], [], 0, 30⟩, fun x => z56 n x.1 x.2.1 x.2.2.1⟩), (4, ⟨⟨[], [], 0, 30⟩, fun x => z5b n ⟩), (5, ⟨⟨[(3, (.d (.int .i64)))], [], 0, 30⟩, fun x => z0c n x.1⟩)]) (ann [(57, 0), (71, 1), (85, 2), (95, 3), (107, 4), (119, 5)] (Tryz.f83.body.getD .skip) 0).1
noncomputable def ye4 : List (FI dat) := []
theorem yed : (zgh).Good Tryz.prog dat (tb ye4) := FI.yz5 (hD := zz3 _) Tryz.func83 Tryz.ntmps83 Tryz.call83 (by kernel_rfl) (of_decide_eq_true (by kernel_rfl)) (by kernel_rfl) (fun n => by kernel_rfl) (fun x => by kernel_rfl) (fun _ => rfl) ⟨fun _ => rfl, fun _ => rfl, fun _ => rfl, fun _ => rfl, fun _ => rfl, fun _ => rfl, trivial⟩
 (fun n => fun x => (z8m.eq_2 x.1 n).trans (by kernel_rfl))
 (fun n => ⟨fun x => (yzq.eq_2 x.1 x.2.1 x.2.2.1 n).trans (by kernel_rfl),
  fun x => (z3f.eq_2 x.1 x.2.1 x.2.2.1 n).trans (by kernel_rfl),
  fun x => (z3a.eq_2 x.1 x.2.1 x.2.2.1 n).trans (by kernel_rfl),
  fun x => (z56.eq_2 x.1 x.2.1 x.2.2.1 n).trans (by kernel_rfl),
  fun x => (z5b.eq_2  n).trans (by kernel_rfl),
  fun x => (z0c.eq_2 x.1 n).trans (by kernel_rfl),
  trivial⟩)
 (fun x => .inl rfl)
theorem ygr : OkL Tryz.prog [zgh] := yze (zz3 _) (bs := []) trivial yed
theorem y9s : FOk Tryz.prog zgh := ygr.1
mutual
def z36 : Nat → yz0 → Option (Int × Int)
 | 0, _ => none
 | n + 1, a0 =>
   pIf (a0.kind == 4)
     (z0v n 0 1 1 a0.list (a0.list.length : Int))
     (z0u n 1 1)
def z0v : Nat → Int → Int → Int → (List yz0) → Int → Option (Int × Int)
 | 0, _, _, _, _, _ => none
 | n + 1, a0, a1, a2, a3, a4 =>
   pIf (decide (a0 < a4))
     ((ix a3 a0).bind fun x0 =>
     (z36 n x0.re).bind fun y1 =>
     z0v n (IntKind.i64.wrap (a0 + 1)) (mxI a1 (IntKind.i64.wrap (y1.2 + 1))) (IntKind.i64.wrap (a2 + y1.1)) a3 a4)
     (z0u n a1 a2)
def z0u : Nat → Int → Int → Option (Int × Int)
 | 0, _, _ => none
 | n + 1, a0, a1 =>
   some (a1, a0)
end
def y3s : LSh := ⟨[(2, (.d (.int .i64))), (3, (.d (.int .i64)))], [], 0, 33⟩
noncomputable def z9h : FI dat := FI.of dat 79 33 0 [(.d (.st 3))] [] [(.d (.int .i64)), (.d (.int .i64))] [] true y3s (R := Int × Int) (fun x => (x.1, x.2.1)) (fun r => (r.1, r.2, ())) (fun n x => z36 n x.1)
 (fun n => [(0, ⟨⟨[(14, (.d (.int .i64))), (3, (.d (.int .i64))), (2, (.d (.int .i64))), (12, (.d (.sl (.st 3)))), (13, (.d (.int .i64)))], [], 0, 33⟩, fun x => z0v n x.1 x.2.1 x.2.2.1 x.2.2.2.1 x.2.2.2.2.1⟩), (1, ⟨⟨[(3, (.d (.int .i64))), (2, (.d (.int .i64)))], [], 0, 33⟩, fun x => z0u n x.1 x.2.1⟩)]) (ann [(11, 0), (29, 1)] (Tryz.f79.body.getD .skip) 0).1
noncomputable def y3q : List (FI dat) := [z9h] ++ []
theorem y3f : (z9h).Good Tryz.prog dat (tb y3q) := FI.yz5 (hD := zz3 _) Tryz.func79 Tryz.ntmps79 Tryz.call79 (by kernel_rfl) (of_decide_eq_true (by kernel_rfl)) (by kernel_rfl) (fun n => by kernel_rfl) (fun x => by kernel_rfl) (fun _ => rfl) ⟨fun _ => rfl, fun _ => rfl, trivial⟩
 (fun n => fun x => (z36.eq_2 x.1 n).trans (by kernel_rfl))
 (fun n => ⟨fun x => (z0v.eq_2 x.1 x.2.1 x.2.2.1 x.2.2.2.1 x.2.2.2.2.1 n).trans (by kernel_rfl),
  fun x => (z0u.eq_2 x.1 x.2.1 n).trans (by kernel_rfl),
  trivial⟩)
 (fun x => .inl rfl)
theorem y2v : OkL Tryz.prog [z9h] := z4p (zz3 _) (bs := []) trivial ⟨y3f, trivial⟩
theorem y1d : FOk Tryz.prog z9h := y2v.1
end Go.Proofs.YtfhpamcehnfhoaaGreatDoor


namespace Go.Proofs.YtfhpamcehnfhoaaGreatDoor
open Go Go.Ab
set_option linter.unusedVariables false
set_option maxRecDepth 100000
def z5j : Nat → Int → Option Int
 | 0, _ => none
 | n + 1, a0 =>
   pIf (decide (a0 < 0))
     (some (IntKind.u64.wrap (0 - (IntKind.u64.wrap a0))))
     (some (IntKind.u64.wrap a0))
def yd6 : LSh := ⟨[(2, (.d (.int .u64)))], [], 0, 10⟩
noncomputable def zfs : FI dat := FI.of dat 138 10 0 [(.d (.int .i64))] [] [(.d (.int .u64))] [] true yd6 (R := Int) (fun x => x.1) (fun r => (r, ())) (fun n x => z5j n x.1)
 (fun n => []) (ann [] (Tryz.f138.body.getD .skip) 0).1
noncomputable def yf4 : List (FI dat) := []
theorem ygh : (zfs).Good Tryz.prog dat (tb yf4) := FI.yz5 (hD := zz3 _) Tryz.func138 Tryz.ntmps138 Tryz.call138 (by kernel_rfl) (of_decide_eq_true (by kernel_rfl)) (by kernel_rfl) (fun n => by kernel_rfl) (fun x => by kernel_rfl) (fun _ => rfl) trivial
 (fun n => fun x => (z5j.eq_2 x.1 n).trans (by kernel_rfl))
 (fun n => trivial)
 (fun x => .inl rfl)
theorem ygd : OkL Tryz.prog [zfs] := yze (zz3 _) (bs := []) trivial ygh
theorem y8f : FOk Tryz.prog zfs := ygd.1
mutual
def z89 : Nat → Int → Int → Option Int
 | 0, _, _ => none
 | n + 1, a0, a1 =>
   z2z n a1 a0
def z2z : Nat → Int → Int → Option Int
 | 0, _, _ => none
 | n + 1, a0, a1 =>
   pIf (a0 != 0)
     ((rem .u64 a1 a0).bind fun x0 =>
     z2z n x0 a0)
     (some a1)
end
def yj5 : LSh := ⟨[(4, (.d (.int .u64)))], [], 0, 12⟩
noncomputable def ziq : FI dat := FI.of dat 139 12 0 [(.d (.int .u64)), (.d (.int .u64))] [] [(.d (.int .u64))] [] true yj5 (R := Int) (fun x => x.1) (fun r => (r, ())) (fun n x => z89 n x.1 x.2.1)
 (fun n => [(0, ⟨⟨[(1, (.d (.int .u64))), (0, (.d (.int .u64)))], [], 0, 12⟩, fun x => z2z n x.1 x.2.1⟩)]) (ann [(4, 0)] (Tryz.f139.body.getD .skip) 0).1
noncomputable def yj9 : List (FI dat) := []
theorem yk6 : (ziq).Good Tryz.prog dat (tb yj9) := FI.yz5 (hD := zz3 _) Tryz.func139 Tryz.ntmps139 Tryz.call139 (by kernel_rfl) (of_decide_eq_true (by kernel_rfl)) (by kernel_rfl) (fun n => by kernel_rfl) (fun x => by kernel_rfl) (fun _ => rfl) ⟨fun _ => rfl, trivial⟩
 (fun n => fun x => (z89.eq_2 x.1 x.2.1 n).trans (by kernel_rfl))
 (fun n => ⟨fun x => (z2z.eq_2 x.1 x.2.1 n).trans (by kernel_rfl),
  trivial⟩)
 (fun x => .inl rfl)
theorem yhe : OkL Tryz.prog [ziq] := yze (zz3 _) (bs := []) trivial yk6
theorem ydt : FOk Tryz.prog ziq := yhe.1
mutual
def z1r : Nat → zz2 → Option Int
 | 0, _ => none
 | n + 1, a0 =>
   pIf (decide (a0.den < 1))
     (z04 n true)
     (pIf (decide (a0.den > 1000000000))
       (z04 n true)
       ((z5j n a0.num).bind fun y0 =>
       pIf (decide (y0 > 1000000000))
         (z04 n true)
         ((z5j n a0.num).bind fun y1 =>
         (z89 n y1 (IntKind.u64.wrap a0.den)).bind fun y2 =>
         z04 n (y2 != 1))))
def z04 : Nat → Bool → Option Int
 | 0, _ => none
 | n + 1, a0 =>
   pIf a0
     (some 8)
     (some 0)
end
def y8m : LSh := ⟨[(2, (.d (.int .i64)))], [], 0, 27⟩
noncomputable def z74 : FI dat := FI.of dat 108 27 0 [(.d (.st 2))] [] [(.d (.int .i64))] [] true y8m (R := Int) (fun x => x.1) (fun r => (r, ())) (fun n x => z1r n x.1)
 (fun n => [(0, ⟨⟨[(26, (.d .bool))], [], 0, 27⟩, fun x => z04 n x.1⟩)]) (ann [(5, 0)] (Tryz.f108.body.getD .skip) 0).1
noncomputable def yaw : List (FI dat) := [zfs, ziq]
theorem y8q : (z74).Good Tryz.prog dat (tb yaw) := FI.yz5 (hD := zz3 _) Tryz.func108 Tryz.ntmps108 Tryz.call108 (by kernel_rfl) (of_decide_eq_true (by kernel_rfl)) (by kernel_rfl) (fun n => by kernel_rfl) (fun x => by kernel_rfl) (fun _ => rfl) ⟨fun _ => rfl, trivial⟩
 (fun n => fun x => (z1r.eq_2 x.1 n).trans (by kernel_rfl))
 (fun n => ⟨fun x => (z04.eq_2 x.1 n).trans (by kernel_rfl),
  trivial⟩)
 (fun x => .inl rfl)
theorem ya2 : OkL Tryz.prog [z74] := yze (zz3 _) (bs := [zfs, ziq]) ⟨y8f, ydt, trivial⟩ y8q
theorem zm7 : FOk Tryz.prog z74 := ya2.1
mutual
def z77 : Nat → yz0 → Option Bool
 | 0, _ => none
 | n + 1, a0 =>
   pIf (a0.kind == 1)
     ((z1r n a0.num).bind fun y0 =>
     pIf (y0 != 0)
       (some false)
       (z0z n (yz0.mk a0.kind (zz2.mk 0 0) a0.truth a0.str a0.list)))
     (pIf (a0.kind == 2)
       (z0z n (yz0.mk a0.kind a0.num false a0.str a0.list))
       (pIf (a0.kind == 3)
         (pIf (decide ((a0.str.length : Int) > 60))
           (some false)
           (z3c n 0 a0.re (yz0.mk a0.kind a0.num a0.truth [] a0.list)))
         (pIf (a0.kind == 4)
           (z3p n 0 a0.list (a0.list.length : Int) (yz0.mk a0.kind a0.num a0.truth a0.str []))
           (some false))))
def z3c : Nat → Int → yz0 → yz0 → Option Bool
 | 0, _, _, _ => none
 | n + 1, a0, a1, a2 =>
   pIf (decide (a0 < (a1.str.length : Int)))
     ((ix a1.str a0).bind fun x1 =>
     pIf (decide ((x1.toNat : Int) < 32))
       (z3h n a0 true a1.re a2.re)
       ((ix a1.str a0).bind fun x2 =>
       z3h n a0 (decide ((x2.toNat : Int) > 126)) a1.re a2.re))
     (z0z n a2.re)
def z3h : Nat → Int → Bool → yz0 → yz0 → Option Bool
 | 0, _, _, _, _ => none
 | n + 1, a0, a1, a2, a3 =>
   pIf a1
     (some false)
     (z3c n (IntKind.i64.wrap (a0 + 1)) a2.re a3.re)
def z3p : Nat → Int → (List yz0) → Int → yz0 → Option Bool
 | 0, _, _, _, _ => none
 | n + 1, a0, a1, a2, a3 =>
   pIf (decide (a0 < a2))
     ((ix a1 a0).bind fun x3 =>
     (z77 n x3.re).bind fun y4 =>
     pIf (!y4)
       (some false)
       (z3p n (IntKind.i64.wrap (a0 + 1)) a1 a2 a3.re))
     (z0z n a3.re)
def z0z : Nat → yz0 → Option Bool
 | 0, _ => none
 | n + 1, a0 =>
   pIf ((a0.num.num == 0) && ((a0.num.den == 0) && true))
     (pIf (!a0.truth)
       (pIf (a0.str == [])
         (some ((a0.list.length : Int) == 0))
         (some false))
       (some false))
     (some false)
end
def yfe : LSh := ⟨[(2, (.d .bool))], [], 0, 81⟩
noncomputable def zdq : FI dat := FI.of dat 80 81 0 [(.d (.st 3))] [] [(.d .bool)] [] true yfe (R := Bool) (fun x => x.1) (fun r => (r, ())) (fun n x => z77 n x.1)
 (fun n => [(0, ⟨⟨[(4, (.d (.int .i64))), (1, (.ptr 0 0)), (3, (.ptr 1 0))], [(.st 3), (.st 3)], 0, 81⟩, fun x => z3c n x.1 x.2.1 x.2.2.1⟩), (1, ⟨⟨[(1, (.ptr 0 0)), (3, (.ptr 1 0)), (4, (.d (.int .i64))), (46, (.d .bool))], [(.st 3), (.st 3)], 0, 81⟩, fun x => z3h n x.1 x.2.1 x.2.2.1 x.2.2.2.1⟩), (2, ⟨⟨[(53, (.d (.int .i64))), (51, (.d (.sl (.st 3)))), (3, (.ptr 0 0)), (52, (.d (.int .i64)))], [(.st 3)], 0, 81⟩, fun x => z3p n x.1 x.2.1 x.2.2.1 x.2.2.2.1⟩), (3, ⟨⟨[(3, (.ptr 0 0))], [(.st 3)], 0, 81⟩, fun x => z0z n x.1⟩)]) (ann [(40, 0), (51, 1), (65, 2), (87, 3)] (Tryz.f80.body.getD .skip) 0).1
noncomputable def ye9 : List (FI dat) := [zdq] ++ [z74]
theorem yeu : (zdq).Good Tryz.prog dat (tb ye9) := FI.yz5 (hD := zz3 _) Tryz.func80 Tryz.ntmps80 Tryz.call80 (by kernel_rfl) (of_decide_eq_true (by kernel_rfl)) (by kernel_rfl) (fun n => by kernel_rfl) (fun x => by kernel_rfl) (fun _ => rfl) ⟨fun _ => rfl, fun _ => rfl, fun _ => rfl, fun _ => rfl, trivial⟩
 (fun n => fun x => (z77.eq_2 x.1 n).trans (by kernel_rfl))
 (fun n => ⟨fun x => (z3c.eq_2 x.1 x.2.1 x.2.2.1 n).trans (by kernel_rfl),
  fun x => (z3h.eq_2 x.1 x.2.1 x.2.2.1 x.2.2.2.1 n).trans (by kernel_rfl),
  fun x => (z3p.eq_2 x.1 x.2.1 x.2.2.1 x.2.2.2.1 n).trans (by kernel_rfl),
  fun x => (z0z.eq_2 x.1 n).trans (by kernel_rfl),
  trivial⟩)
 (fun x => .inl rfl)
theorem yfd : OkL Tryz.prog [zdq] := z4p (zz3 _) (bs := [z74]) ⟨zm7, trivial⟩ ⟨yeu, trivial⟩
theorem ya5 : FOk Tryz.prog zdq := yfd.1
mutual
def z4i : Nat → yz0 → Option Int
 | 0, _ => none
 | n + 1, a0 =>
   (z36 n a0.re).bind fun y0 =>
   pIf (decide (y0.1 > 100))
     (z2n n true a0.re)
     (z2n n (decide (y0.2 > 6)) a0.re)
def z2n : Nat → Bool → yz0 → Option Int
 | 0, _, _ => none
 | n + 1, a0, a1 =>
   pIf a0
     (some 4)
     ((z77 n a1.re).bind fun y1 =>
     pIf (!y1)
       (some 8)
       (some 0))
end
def y9i : LSh := ⟨[(2, (.d (.int .i64)))], [], 0, 19⟩
noncomputable def z6y : FI dat := FI.of dat 46 19 0 [(.d (.st 3))] [] [(.d (.int .i64))] [] true y9i (R := Int) (fun x => x.1) (fun r => (r, ())) (fun n x => z4i n x.1)
 (fun n => [(0, ⟨⟨[(1, (.ptr 0 0)), (15, (.d .bool))], [(.st 3)], 0, 19⟩, fun x => z2n n x.1 x.2.1⟩)]) (ann [(7, 0)] (Tryz.f46.body.getD .skip) 0).1
noncomputable def yah : List (FI dat) := [z9h, zdq]
theorem ya9 : (z6y).Good Tryz.prog dat (tb yah) := FI.yz5 (hD := zz3 _) Tryz.func46 Tryz.ntmps46 Tryz.call46 (by kernel_rfl) (of_decide_eq_true (by kernel_rfl)) (by kernel_rfl) (fun n => by kernel_rfl) (fun x => by kernel_rfl) (fun _ => rfl) ⟨fun _ => rfl, trivial⟩
 (fun n => fun x => (z4i.eq_2 x.1 n).trans (by kernel_rfl))
 (fun n => ⟨fun x => (z2n.eq_2 x.1 x.2.1 n).trans (by kernel_rfl),
  trivial⟩)
 (fun x => .inl rfl)
theorem y9p : OkL Tryz.prog [z6y] := yze (zz3 _) (bs := [z9h, zdq]) ⟨y1d, ya5, trivial⟩ ya9
theorem zls : FOk Tryz.prog z6y := y9p.1
mutual
def z8l : Nat → (List UInt8) → Option Bool
 | 0, _ => none
 | n + 1, a0 =>
   pIf ((a0.length : Int) == 0)
     (z57 n a0 true)
     (z57 n a0 (decide ((a0.length : Int) > 40)))
def z57 : Nat → (List UInt8) → Bool → Option Bool
 | 0, _, _ => none
 | n + 1, a0, a1 =>
   pIf a1
     (some false)
     (z0f n a0 0)
def z0f : Nat → (List UInt8) → Nat → Option Bool
 | 0, _, _ => none
 | n + 1, a0, a1 =>
   pIf (decide (a1 < a0.length))
     (pIf (decide (((zat a0 a1).1 : Int) ≥ 97))
       (z35 n ((zat a0 a1).1 : Int) (a1 : Int) (decide (((zat a0 a1).1 : Int) ≤ 122)) a0 (a1 + (zat a0 a1).2))
       (z35 n ((zat a0 a1).1 : Int) (a1 : Int) false a0 (a1 + (zat a0 a1).2)))
     (some true)
def z35 : Nat → Int → Int → Bool → (List UInt8) → Nat → Option Bool
 | 0, _, _, _, _, _ => none
 | n + 1, a0, a1, a2, a3, a4 =>
   pIf (!a2)
     (pIf (a1 == 0)
       (z00 n true a3 a4)
       (pIf (a0 != 45)
         (pIf (decide (a0 < 48))
           (z00 n true a3 a4)
           (z00 n (decide (a0 > 57)) a3 a4))
         (z00 n false a3 a4)))
     (z00 n false a3 a4)
def z00 : Nat → Bool → (List UInt8) → Nat → Option Bool
 | 0, _, _, _ => none
 | n + 1, a0, a1, a2 =>
   pIf a0
     (some false)
     (z0f n a1 a2)
end
def ydr : LSh := ⟨[(2, (.d .bool))], [], 0, 44⟩
noncomputable def zgm : FI dat := FI.of dat 45 44 0 [(.d .str)] [] [(.d .bool)] [] true ydr (R := Bool) (fun x => x.1) (fun r => (r, ())) (fun n x => z8l n x.1)
 (fun n => [(0, ⟨⟨[(0, (.d .str)), (13, (.d .bool))], [], 0, 44⟩, fun x => z57 n x.1 x.2.1⟩), (1, ⟨⟨[(15, (.ptr 0 0))], [.siter], 0, 44⟩, fun x => z0f n x.1 x.2.1⟩), (2, ⟨⟨[(15, (.ptr 0 0)), (4, (.d (.int .i32))), (3, (.d (.int .i64))), (5, (.d .bool))], [.siter], 0, 44⟩, fun x => z35 n x.1 x.2.1 x.2.2.1 x.2.2.2.1 x.2.2.2.2.1⟩), (3, ⟨⟨[(15, (.ptr 0 0)), (43, (.d .bool))], [.siter], 0, 44⟩, fun x => z00 n x.1 x.2.1 x.2.2.1⟩)]) (ann [(5, 0), (14, 1), (26, 2), (28, 3)] (Tryz.f45.body.getD .skip) 0).1
noncomputable def ygc : List (FI dat) := []
theorem ydh : (zgm).Good Tryz.prog dat (tb ygc) := FI.yz5 (hD := zz3 _) Tryz.func45 Tryz.ntmps45 Tryz.call45 (by kernel_rfl) (of_decide_eq_true (by kernel_rfl)) (by kernel_rfl) (fun n => by kernel_rfl) (fun x => by kernel_rfl) (fun _ => rfl) ⟨fun _ => rfl, fun _ => rfl, fun _ => rfl, fun _ => rfl, trivial⟩
 (fun n => fun x => (z8l.eq_2 x.1 n).trans (by kernel_rfl))
 (fun n => ⟨fun x => (z57.eq_2 x.1 x.2.1 n).trans (by kernel_rfl),
  fun x => (z0f.eq_2 x.1 x.2.1 n).trans (by kernel_rfl),
  fun x => (z35.eq_2 x.1 x.2.1 x.2.2.1 x.2.2.2.1 x.2.2.2.2.1 n).trans (by kernel_rfl),
  fun x => (z00.eq_2 x.1 x.2.1 x.2.2.1 n).trans (by kernel_rfl),
  trivial⟩)
 (fun x => .inl rfl)
theorem yfj : OkL Tryz.prog [zgm] := yze (zz3 _) (bs := []) trivial ydh
theorem y94 : FOk Tryz.prog zgm := yfj.1
def z8g : Nat → (List UInt8) → Option Bool
 | 0, _ => none
 | n + 1, a0 =>
   (z8l n a0).bind fun y0 =>
   pIf y0
     (pIf (!(a0 == [116, 114, 117, 101]))
       (some (!(a0 == [102, 97, 108, 115, 101])))
       (some false))
     (some false)
def yds : LSh := ⟨[(2, (.d .bool))], [], 0, 13⟩
noncomputable def zg4 : FI dat := FI.of dat 48 13 0 [(.d .str)] [] [(.d .bool)] [] true yds (R := Bool) (fun x => x.1) (fun r => (r, ())) (fun n x => z8g n x.1)
 (fun n => []) (ann [] (Tryz.f48.body.getD .skip) 0).1
noncomputable def yg7 : List (FI dat) := [zgm]
theorem yec : (zg4).Good Tryz.prog dat (tb yg7) := FI.yz5 (hD := zz3 _) Tryz.func48 Tryz.ntmps48 Tryz.call48 (by kernel_rfl) (of_decide_eq_true (by kernel_rfl)) (by kernel_rfl) (fun n => by kernel_rfl) (fun x => by kernel_rfl) (fun _ => rfl) trivial
 (fun n => fun x => (z8g.eq_2 x.1 n).trans (by kernel_rfl))
 (fun n => trivial)
 (fun x => .inl rfl)
theorem yd1 : OkL Tryz.prog [zg4] := yze (zz3 _) (bs := [zgm]) ⟨y94, trivial⟩ yec
theorem ya8 : FOk Tryz.prog zg4 := yd1.1
mutual
def z1v : Nat → yz0 → yz0 → Option Bool
 | 0, _, _ => none
 | n + 1, a0, a1 =>
   pIf (a0.kind != a1.kind)
     (z0b n true a1.re a0.re)
     (pIf (!((a0.num.num == a1.num.num) && ((a0.num.den == a1.num.den) && true)))
       (z0b n true a1.re a0.re)
       (pIf (!(a0.truth == a1.truth))
         (z0b n true a1.re a0.re)
         (pIf (!(a0.str == a1.str))
           (z0b n true a1.re a0.re)
           (z0b n ((a0.list.length : Int) != (a1.list.length : Int)) a1.re a0.re))))
def z0b : Nat → Bool → yz0 → yz0 → Option Bool
 | 0, _, _, _ => none
 | n + 1, a0, a1, a2 =>
   pIf a0
     (some false)
     (z3q n 0 (a2.list.length : Int) a1.re a2.re)
def z3q : Nat → Int → Int → yz0 → yz0 → Option Bool
 | 0, _, _, _, _ => none
 | n + 1, a0, a1, a2, a3 =>
   pIf (decide (a0 < a1))
     ((ix a3.list a0).bind fun x0 =>
     (ix a2.list a0).bind fun x1 =>
     (z1v n x0.re x1.re).bind fun y2 =>
     pIf (!y2)
       (some false)
       (z3q n (IntKind.i64.wrap (a0 + 1)) a1 a2.re a3.re))
     (some true)
end
def ydl : LSh := ⟨[(4, (.d .bool))], [], 0, 60⟩
noncomputable def z9t : FI dat := FI.of dat 56 60 0 [(.d (.st 3)), (.d (.st 3))] [] [(.d .bool)] [] true ydl (R := Bool) (fun x => x.1) (fun r => (r, ())) (fun n x => z1v n x.1 x.2.1)
 (fun n => [(0, ⟨⟨[(3, (.ptr 0 0)), (2, (.ptr 1 0)), (40, (.d .bool))], [(.st 3), (.st 3)], 0, 60⟩, fun x => z0b n x.1 x.2.1 x.2.2.1⟩), (1, ⟨⟨[(44, (.d (.int .i64))), (3, (.ptr 0 0)), (2, (.ptr 1 0)), (43, (.d (.int .i64)))], [(.st 3), (.st 3)], 0, 60⟩, fun x => z3q n x.1 x.2.1 x.2.2.1 x.2.2.2.1⟩)]) (ann [(5, 0), (14, 1)] (Tryz.f56.body.getD .skip) 0).1
noncomputable def ygg : List (FI dat) := [z9t] ++ []
theorem ydz : (z9t).Good Tryz.prog dat (tb ygg) := FI.yz5 (hD := zz3 _) Tryz.func56 Tryz.ntmps56 Tryz.call56 (by kernel_rfl) (of_decide_eq_true (by kernel_rfl)) (by kernel_rfl) (fun n => by kernel_rfl) (fun x => by kernel_rfl) (fun _ => rfl) ⟨fun _ => rfl, fun _ => rfl, trivial⟩
 (fun n => fun x => (z1v.eq_2 x.1 x.2.1 n).trans (by kernel_rfl))
 (fun n => ⟨fun x => (z0b.eq_2 x.1 x.2.1 x.2.2.1 n).trans (by kernel_rfl),
  fun x => (z3q.eq_2 x.1 x.2.1 x.2.2.1 x.2.2.2.1 n).trans (by kernel_rfl),
  trivial⟩)
 (fun x => .inl rfl)
theorem ye5 : OkL Tryz.prog [z9t] := z4p (zz3 _) (bs := []) trivial ⟨ydz, trivial⟩
theorem zv6 : FOk Tryz.prog z9t := ye5.1
mutual
def z8a : Nat → kz0 → Option Bool
 | 0, _ => none
 | n + 1, a0 =>
   (z8m n a0.op).bind fun y0 =>
   pIf (y0 == (-2))
     (z2v n true a0.re)
     (pIf (decide (y0 ≥ 0))
       (z2v n ((a0.args.length : Int) != y0) a0.re)
       (z2v n false a0.re))
def z2v : Nat → Bool → kz0 → Option Bool
 | 0, _, _ => none
 | n + 1, a0, a1 =>
   pIf a0
     (some false)
     (pIf (a1.op == 1)
       ((z4i n a1.value.re).bind fun y1 =>
       pIf (y1 != 0)
         (z2u n true a1.re)
         (pIf (a1.value.kind == 4)
           (z2u n true a1.re)
           (z2u n (!(a1.name == [])) a1.re)))
       (pIf (a1.op == 2)
         ((z8g n a1.name).bind fun y2 =>
         pIf (!y2)
           (z4w n true a1.re)
           ((z1v n a1.value.re (yz0.mk 0 (zz2.mk 0 0) false [] [])).bind fun y3 =>
           z4w n (!y3) a1.re))
         (pIf (!(a1.name == []))
           (z4x n true a1.re)
           ((z1v n a1.value.re (yz0.mk 0 (zz2.mk 0 0) false [] [])).bind fun y4 =>
           z4x n (!y4) a1.re))))
def z2u : Nat → Bool → kz0 → Option Bool
 | 0, _, _ => none
 | n + 1, a0, a1 =>
   pIf a0
     (some false)
     (z2x n a1.re)
def z4w : Nat → Bool → kz0 → Option Bool
 | 0, _, _ => none
 | n + 1, a0, a1 =>
   pIf a0
     (some false)
     (z2x n a1.re)
def z4x : Nat → Bool → kz0 → Option Bool
 | 0, _, _ => none
 | n + 1, a0, a1 =>
   pIf a0
     (some false)
     (z2x n a1.re)
def z2x : Nat → kz0 → Option Bool
 | 0, _ => none
 | n + 1, a0 =>
   (zzb n a0.args).bind fun y5 =>
   some (!y5)
def zzb : Nat → (List kz0) → Option Bool
 | 0, _ => none
 | n + 1, a0 =>
   (kzb n a0).bind fun y0 =>
   some (decide (y0 ≥ 0))
def kzb : Nat → (List kz0) → Option Int
 | 0, _ => none
 | n + 1, a0 =>
   yz8 n 0 a0 (a0.length : Int)
def yz8 : Nat → Int → (List kz0) → Int → Option Int
 | 0, _, _, _ => none
 | n + 1, a0, a1, a2 =>
   pIf (decide (a0 < a2))
     ((ix a1 a0).bind fun x0 =>
     (z7c n x0.re).bind fun y1 =>
     pIf y1
       (some a0)
       (yz8 n (IntKind.i64.wrap (a0 + 1)) a1 a2))
     (some (-1))
def z7c : Nat → kz0 → Option Bool
 | 0, _ => none
 | n + 1, a0 =>
   (z8a n a0.re).bind fun y0 =>
   some (!y0)
end
def yho : LSh := ⟨[(2, (.d .bool))], [], 0, 66⟩
noncomputable def zf7 : FI dat := FI.of dat 53 66 0 [(.d (.st 4))] [] [(.d .bool)] [] true yho (R := Bool) (fun x => x.1) (fun r => (r, ())) (fun n x => z8a n x.1)
 (fun n => [(0, ⟨⟨[(1, (.ptr 0 0)), (19, (.d .bool))], [(.st 4)], 0, 66⟩, fun x => z2v n x.1 x.2.1⟩), (1, ⟨⟨[(1, (.ptr 0 0)), (48, (.d .bool))], [(.st 4)], 0, 66⟩, fun x => z2u n x.1 x.2.1⟩), (2, ⟨⟨[(1, (.ptr 0 0)), (61, (.d .bool))], [(.st 4)], 0, 66⟩, fun x => z4w n x.1 x.2.1⟩), (3, ⟨⟨[(1, (.ptr 0 0)), (31, (.d .bool))], [(.st 4)], 0, 66⟩, fun x => z4x n x.1 x.2.1⟩), (4, ⟨⟨[(1, (.ptr 0 0))], [(.st 4)], 0, 66⟩, fun x => z2x n x.1⟩)]) (ann [(7, 0), (21, 1), (31, 2), (38, 3), (43, 4)] (Tryz.f53.body.getD .skip) 0).1
def zc8 : LSh := ⟨[(4, (.d .bool))], [], 0, 9⟩
noncomputable def z2o : FI dat := FI.of dat 84 9 0 [(.d (.sl (.st 4))), (.fn 85 [] [])] [] [(.d .bool)] [] true zc8 (R := Bool) (fun x => x.1) (fun r => (r, ())) (fun n x => zzb n x.1)
 (fun n => []) (ann [] (Tryz.f84.body.getD .skip) 0).1
def zdz : LSh := ⟨[(4, (.d (.int .i64)))], [], 0, 19⟩
noncomputable def z44 : FI dat := FI.of dat 114 19 0 [(.d (.sl (.st 4))), (.fn 85 [] [])] [] [(.d (.int .i64))] [] true zdz (R := Int) (fun x => x.1) (fun r => (r, ())) (fun n x => kzb n x.1)
 (fun n => [(0, ⟨⟨[(8, (.d (.int .i64))), (0, (.d (.sl (.st 4)))), (1, (.fn 85 [] [])), (7, (.d (.int .i64)))], [], 0, 19⟩, fun x => yz8 n x.1 x.2.1 x.2.2.1⟩)]) (ann [(6, 0)] (Tryz.f114.body.getD .skip) 0).1
def yau : LSh := ⟨[(2, (.d .bool))], [], 0, 6⟩
noncomputable def znm : FI dat := FI.of dat 85 6 0 [(.d (.st 4))] [] [(.d .bool)] [] true yau (R := Bool) (fun x => x.1) (fun r => (r, ())) (fun n x => z7c n x.1)
 (fun n => []) (ann [] (Tryz.f85.body.getD .skip) 0).1
noncomputable def zn7 : List (FI dat) := [zf7, z2o, z44, znm] ++ [zgh, z6y, zg4, z9t]
theorem yh9 : (zf7).Good Tryz.prog dat (tb zn7) := FI.yz5 (hD := zz3 _) Tryz.func53 Tryz.ntmps53 Tryz.call53 (by kernel_rfl) (of_decide_eq_true (by kernel_rfl)) (by kernel_rfl) (fun n => by kernel_rfl) (fun x => by kernel_rfl) (fun _ => rfl) ⟨fun _ => rfl, fun _ => rfl, fun _ => rfl, fun _ => rfl, fun _ => rfl, trivial⟩
 (fun n => fun x => (z8a.eq_2 x.1 n).trans (by kernel_rfl))
 (fun n => ⟨fun x => (z2v.eq_2 x.1 x.2.1 n).trans (by kernel_rfl),
  fun x => (z2u.eq_2 x.1 x.2.1 n).trans (by kernel_rfl),
  fun x => (z4w.eq_2 x.1 x.2.1 n).trans (by kernel_rfl),
  fun x => (z4x.eq_2 x.1 x.2.1 n).trans (by kernel_rfl),
  fun x => (z2x.eq_2 x.1 n).trans (by kernel_rfl),
  trivial⟩)
 (fun x => .inl rfl)
theorem zc9 : (z2o).Good Tryz.prog dat (tb zn7) := FI.yz5 (hD := zz3 _) Tryz.func84 Tryz.ntmps84 Tryz.call84 (by kernel_rfl) (of_decide_eq_true (by kernel_rfl)) (by kernel_rfl) (fun n => by kernel_rfl) (fun x => by kernel_rfl) (fun _ => rfl) trivial
 (fun n => fun x => (zzb.eq_2 x.1 n).trans (by kernel_rfl))
 (fun n => trivial)
 (fun x => .inl rfl)
theorem ze3 : (z44).Good Tryz.prog dat (tb zn7) := FI.yz5 (hD := zz3 _) Tryz.func114 Tryz.ntmps114 Tryz.call114 (by kernel_rfl) (of_decide_eq_true (by kernel_rfl)) (by kernel_rfl) (fun n => by kernel_rfl) (fun x => by kernel_rfl) (fun _ => rfl) ⟨fun _ => rfl, trivial⟩
 (fun n => fun x => (kzb.eq_2 x.1 n).trans (by kernel_rfl))
 (fun n => ⟨fun x => (yz8.eq_2 x.1 x.2.1 x.2.2.1 n).trans (by kernel_rfl),
  trivial⟩)
 (fun x => .inl rfl)
theorem ybd : (znm).Good Tryz.prog dat (tb zn7) := FI.yz5 (hD := zz3 _) Tryz.func85 Tryz.ntmps85 Tryz.call85 (by kernel_rfl) (of_decide_eq_true (by kernel_rfl)) (by kernel_rfl) (fun n => by kernel_rfl) (fun x => by kernel_rfl) (fun _ => rfl) trivial
 (fun n => fun x => (z7c.eq_2 x.1 n).trans (by kernel_rfl))
 (fun n => trivial)
 (fun x => .inl rfl)
theorem yjg : OkL Tryz.prog [zf7, z2o, z44, znm] := z4p (zz3 _) (bs := [zgh, z6y, zg4, z9t]) ⟨y9s, zls, ya8, zv6, trivial⟩ ⟨yh9, zc9, ze3, ybd, trivial⟩
theorem yd7 : FOk Tryz.prog zf7 := yjg.1
end Go.Proofs.YtfhpamcehnfhoaaGreatDoor


namespace Go.Proofs.YtfhpamcehnfhoaaGreatDoor
open Go Go.Ab
set_option linter.unusedVariables false
set_option maxRecDepth 100000
mutual
def z2y : Nat → kz0 → Option Int
 | 0, _ => none
 | n + 1, a0 =>
   (z4r n a0.re).bind fun y0 =>
   pIf (decide (y0.1 > 100))
     (z3d n true a0.re)
     (z3d n (decide (y0.2 > 12)) a0.re)
def z3d : Nat → Bool → kz0 → Option Int
 | 0, _, _ => none
 | n + 1, a0, a1 =>
   pIf a0
     (some 4)
     ((z8a n a1.re).bind fun y1 =>
     pIf (!y1)
       (some 8)
       (some 0))
end
def yf7 : LSh := ⟨[(2, (.d (.int .i64)))], [], 0, 19⟩
noncomputable def z8b : FI dat := FI.of dat 24 19 0 [(.d (.st 4))] [] [(.d (.int .i64))] [] true yf7 (R := Int) (fun x => x.1) (fun r => (r, ())) (fun n x => z2y n x.1)
 (fun n => [(0, ⟨⟨[(1, (.ptr 0 0)), (15, (.d .bool))], [(.st 4)], 0, 19⟩, fun x => z3d n x.1 x.2.1⟩)]) (ann [(7, 0)] (Tryz.f24.body.getD .skip) 0).1
noncomputable def yd0 : List (FI dat) := [zap, zf7]
theorem yex : (z8b).Good Tryz.prog dat (tb yd0) := FI.yz5 (hD := zz3 _) Tryz.func24 Tryz.ntmps24 Tryz.call24 (by kernel_rfl) (of_decide_eq_true (by kernel_rfl)) (by kernel_rfl) (fun n => by kernel_rfl) (fun x => by kernel_rfl) (fun _ => rfl) ⟨fun _ => rfl, trivial⟩
 (fun n => fun x => (z2y.eq_2 x.1 n).trans (by kernel_rfl))
 (fun n => ⟨fun x => (z3d.eq_2 x.1 x.2.1 n).trans (by kernel_rfl),
  trivial⟩)
 (fun x => .inl rfl)
theorem ycq : OkL Tryz.prog [z8b] := yze (zz3 _) (bs := [zap, zf7]) ⟨y2s, yd7, trivial⟩ yex
theorem zo2 : FOk Tryz.prog z8b := ycq.1
mutual
def z4k : Nat → zz2 → Option ((List UInt8) × Int)
 | 0, _ => none
 | n + 1, a0 =>
   (z1r n a0).bind fun y0 =>
   pIf (y0 != 0)
     (some ([], y0))
     ((kzj n a0.num 10).bind fun y1 =>
     pIf (a0.den != 1)
       ((kzj n a0.den 10).bind fun y2 =>
       (cat [47] y2).bind fun x3 =>
       (cat y1 x3).bind fun x4 =>
       z5a n x4)
       (z5a n y1))
def z5a : Nat → (List UInt8) → Option ((List UInt8) × Int)
 | 0, _ => none
 | n + 1, a0 =>
   some (a0, 0)
end
def yfu : LSh := ⟨[(2, (.d .str)), (3, (.d (.int .i64)))], [], 0, 24⟩
noncomputable def zbd : FI dat := FI.of dat 127 24 0 [(.d (.st 2))] [] [(.d .str), (.d (.int .i64))] [] true yfu (R := (List UInt8) × Int) (fun x => (x.1, x.2.1)) (fun r => (r.1, r.2, ())) (fun n x => z4k n x.1)
 (fun n => [(0, ⟨⟨[(5, (.d .str))], [], 0, 24⟩, fun x => z5a n x.1⟩)]) (ann [(20, 0)] (Tryz.f127.body.getD .skip) 0).1
noncomputable def yem : List (FI dat) := [z74, z88]
theorem ycw : (zbd).Good Tryz.prog dat (tb yem) := FI.yz5 (hD := zz3 _) Tryz.func127 Tryz.ntmps127 Tryz.call127 (by kernel_rfl) (of_decide_eq_true (by kernel_rfl)) (by kernel_rfl) (fun n => by kernel_rfl) (fun x => by kernel_rfl) (fun _ => rfl) ⟨fun _ => rfl, trivial⟩
 (fun n => fun x => (z4k.eq_2 x.1 n).trans (by kernel_rfl))
 (fun n => ⟨fun x => (z5a.eq_2 x.1 n).trans (by kernel_rfl),
  trivial⟩)
 (fun x => .inl rfl)
theorem yfq : OkL Tryz.prog [zbd] := yze (zz3 _) (bs := [z74, z88]) ⟨zm7, zj5, trivial⟩ ycw
theorem zv0 : FOk Tryz.prog zbd := yfq.1
def kz4 : Nat → (List UInt8) → (List Int) → Option (Int × (List Int))
 | 0, _, _ => none
 | n + 1, a0, a1 =>
   (kzl n a1).bind fun y0 =>
   (ext y0 (yza a0)).bind fun x1 =>
   some ((a0.length : Int), x1)
def zin : LSh := ⟨[(4, (.d (.int .i64))), (5, .nili)], [(.bld 74 1), (.acc 5 (.int .u8) true)], 1, 19⟩
noncomputable def kzo : FI dat := FI.of dat 64 19 1 [(.bp 0), (.d .str)] [(.bld 74 1), (.acc 5 (.int .u8) true)] [(.d (.int .i64)), .nili] [(.bld 74 1), (.acc 5 (.int .u8) true)] false zin (R := Int × (List Int)) (fun x => (x.1, x.2.1)) (fun r => (r.1, r.2, ())) (fun n x => kz4 n x.1 x.2.1)
 (fun n => []) (ann [] (Tryz.f64.body.getD .skip) 0).1
noncomputable def zj4 : List (FI dat) := [kzc]
theorem zis : (kzo).Good Tryz.prog dat (tb zj4) := FI.yz5 (hD := zz3 _) Tryz.func64 Tryz.ntmps64 Tryz.call64 (by kernel_rfl) (of_decide_eq_true (by kernel_rfl)) (by kernel_rfl) (fun n => by kernel_rfl) (fun x => by kernel_rfl) (fun _ => rfl) trivial
 (fun n => fun x => (kz4.eq_2 x.1 x.2.1 n).trans (by kernel_rfl))
 (fun n => trivial)
 (fun x => .inr (by kernel_rfl))
theorem zix : OkL Tryz.prog [kzo] := yze (zz3 _) (bs := [kzc]) ⟨z4u, trivial⟩ zis
theorem zad : FOk Tryz.prog kzo := zix.1
def zz8 : Nat → Int → (List Int) → Option (List Int)
 | 0, _, _ => none
 | n + 1, a0, a1 =>
   (kzl n a1).bind fun y0 =>
   (ext y0 [a0]).bind fun x1 =>
   some x1
def zk0 : LSh := ⟨[(4, .nili)], [(.bld 74 1), (.acc 5 (.int .u8) true)], 1, 17⟩
noncomputable def yzx : FI dat := FI.of dat 128 17 1 [(.bp 0), (.d (.int .u8))] [(.bld 74 1), (.acc 5 (.int .u8) true)] [.nili] [(.bld 74 1), (.acc 5 (.int .u8) true)] false zk0 (R := List Int) (fun x => x.1) (fun r => (r, ())) (fun n x => zz8 n x.1 x.2.1)
 (fun n => []) (ann [] (Tryz.f128.body.getD .skip) 0).1
noncomputable def zke : List (FI dat) := [kzc]
theorem zkj : (yzx).Good Tryz.prog dat (tb zke) := FI.yz5 (hD := zz3 _) Tryz.func128 Tryz.ntmps128 Tryz.call128 (by kernel_rfl) (of_decide_eq_true (by kernel_rfl)) (by kernel_rfl) (fun n => by kernel_rfl) (fun x => by kernel_rfl) (fun _ => rfl) trivial
 (fun n => fun x => (zz8.eq_2 x.1 x.2.1 n).trans (by kernel_rfl))
 (fun n => trivial)
 (fun x => .inr (by kernel_rfl))
theorem zk9 : OkL Tryz.prog [yzx] := yze (zz3 _) (bs := [kzc]) ⟨z4u, trivial⟩ zkj
theorem zbl : FOk Tryz.prog yzx := zk9.1
mutual
def z55 : Nat → Int → (List Int) → Option (List Int)
 | 0, _, _ => none
 | n + 1, a0, a1 =>
   pIf (decide ((IntKind.u32.wrap a0) ≤ 2047))
     ((shr .i32 a0 6).bind fun x0 =>
     (ext a1 [(bits BinOp.or .u8 192 (IntKind.u8.wrap x0)), (bits BinOp.or .u8 128 (bits BinOp.and .u8 (IntKind.u8.wrap a0) 63))]).bind fun x1 =>
     some x1)
     (pIf (decide ((IntKind.u32.wrap a0) < 55296))
       (yzr n a0 (IntKind.u32.wrap a0) true a1)
       (pIf (decide (57343 < (IntKind.u32.wrap a0)))
         (yzr n a0 (IntKind.u32.wrap a0) (decide ((IntKind.u32.wrap a0) ≤ 65535)) a1)
         (yzr n a0 (IntKind.u32.wrap a0) false a1)))
def yzr : Nat → Int → Int → Bool → (List Int) → Option (List Int)
 | 0, _, _, _, _ => none
 | n + 1, a0, a1, a2, a3 =>
   pIf a2
     ((shr .i32 a0 12).bind fun x2 =>
     (shr .i32 a0 6).bind fun x3 =>
     (ext a3 [(bits BinOp.or .u8 224 (IntKind.u8.wrap x2)), (bits BinOp.or .u8 128 (bits BinOp.and .u8 (IntKind.u8.wrap x3) 63)), (bits BinOp.or .u8 128 (bits BinOp.and .u8 (IntKind.u8.wrap a0) 63))]).bind fun x4 =>
     some x4)
     (pIf (decide (a1 > 65535))
       (z0t n a0 (decide (a1 ≤ 1114111)) a3)
       (z0t n a0 false a3))
def z0t : Nat → Int → Bool → (List Int) → Option (List Int)
 | 0, _, _, _ => none
 | n + 1, a0, a1, a2 =>
   pIf a1
     ((shr .i32 a0 18).bind fun x5 =>
     (shr .i32 a0 12).bind fun x6 =>
     (shr .i32 a0 6).bind fun x7 =>
     (ext a2 [(bits BinOp.or .u8 240 (IntKind.u8.wrap x5)), (bits BinOp.or .u8 128 (bits BinOp.and .u8 (IntKind.u8.wrap x6) 63)), (bits BinOp.or .u8 128 (bits BinOp.and .u8 (IntKind.u8.wrap x7) 63)), (bits BinOp.or .u8 128 (bits BinOp.and .u8 (IntKind.u8.wrap a0) 63))]).bind fun x8 =>
     some x8)
     ((ext a2 [239, 191, 189]).bind fun x9 =>
     some x9)
end
def zfd : LSh := ⟨[(4, (.own 0))], [(.acc 5 (.int .u8) true)], 0, 78⟩
noncomputable def z09 : FI dat := FI.of dat 176 78 0 [(.own 0), (.d (.int .i32))] [(.acc 5 (.int .u8) true)] [(.own 0)] [(.acc 5 (.int .u8) true)] false zfd (R := List Int) (fun x => x.1) (fun r => (r, ())) (fun n x => z55 n x.1 x.2.1)
 (fun n => [(0, ⟨⟨[(1, (.d (.int .i32))), (0, (.own 0)), (5, (.d (.int .u32))), (25, (.d .bool))], [(.acc 5 (.int .u8) true)], 0, 78⟩, fun x => yzr n x.1 x.2.1 x.2.2.1 x.2.2.2.1⟩), (1, ⟨⟨[(1, (.d (.int .i32))), (0, (.own 0)), (50, (.d .bool))], [(.acc 5 (.int .u8) true)], 0, 78⟩, fun x => z0t n x.1 x.2.1 x.2.2.1⟩)]) (ann [(17, 0), (23, 1)] (Tryz.f176.body.getD .skip) 0).1
noncomputable def zff : List (FI dat) := []
theorem zfi : (z09).Good Tryz.prog dat (tb zff) := FI.yz5 (hD := zz3 _) Tryz.func176 Tryz.ntmps176 Tryz.call176 (by kernel_rfl) (of_decide_eq_true (by kernel_rfl)) (by kernel_rfl) (fun n => by kernel_rfl) (fun x => by kernel_rfl) (fun _ => rfl) ⟨fun _ => rfl, fun _ => rfl, trivial⟩
 (fun n => fun x => (z55.eq_2 x.1 x.2.1 n).trans (by kernel_rfl))
 (fun n => ⟨fun x => (yzr.eq_2 x.1 x.2.1 x.2.2.1 x.2.2.2.1 n).trans (by kernel_rfl),
  fun x => (z0t.eq_2 x.1 x.2.1 x.2.2.1 n).trans (by kernel_rfl),
  trivial⟩)
 (fun x => .inr (by kernel_rfl))
theorem zfe : OkL Tryz.prog [z09] := yze (zz3 _) (bs := []) trivial zfi
theorem zeu : FOk Tryz.prog z09 := zfe.1
def kzk : Nat → Int → (List Int) → Option (List Int)
 | 0, _, _ => none
 | n + 1, a0, a1 =>
   pIf (decide ((IntKind.u32.wrap a0) ≤ 127))
     ((ext a1 [(IntKind.u8.wrap a0)]).bind fun x0 =>
     some x0)
     ((z55 n a0 a1).bind fun y1 =>
     some y1)
def zmg : LSh := ⟨[(4, (.own 0))], [(.acc 5 (.int .u8) true)], 0, 16⟩
noncomputable def z3v : FI dat := FI.of dat 158 16 0 [(.own 0), (.d (.int .i32))] [(.acc 5 (.int .u8) true)] [(.own 0)] [(.acc 5 (.int .u8) true)] false zmg (R := List Int) (fun x => x.1) (fun r => (r, ())) (fun n x => kzk n x.1 x.2.1)
 (fun n => []) (ann [] (Tryz.f158.body.getD .skip) 0).1
noncomputable def zme : List (FI dat) := [z09]
theorem zmi : (z3v).Good Tryz.prog dat (tb zme) := FI.yz5 (hD := zz3 _) Tryz.func158 Tryz.ntmps158 Tryz.call158 (by kernel_rfl) (of_decide_eq_true (by kernel_rfl)) (by kernel_rfl) (fun n => by kernel_rfl) (fun x => by kernel_rfl) (fun _ => rfl) trivial
 (fun n => fun x => (kzk.eq_2 x.1 x.2.1 n).trans (by kernel_rfl))
 (fun n => trivial)
 (fun x => .inr (by kernel_rfl))
theorem zmf : OkL Tryz.prog [z3v] := yze (zz3 _) (bs := [z09]) ⟨zeu, trivial⟩ zmi
theorem zlt : FOk Tryz.prog z3v := zmf.1
def yzg : Nat → Int → (List Int) → Option (Int × (List Int))
 | 0, _, _ => none
 | n + 1, a0, a1 =>
   (kzl n a1).bind fun y0 =>
   (kzk n a0 y0).bind fun y1 =>
   some ((IntKind.i64.wrap ((y1.length : Int) - (y0.length : Int))), y1)
def zk5 : LSh := ⟨[(4, (.d (.int .i64))), (5, .nili)], [(.bld 74 1), (.acc 5 (.int .u8) true)], 1, 30⟩
noncomputable def z2k : FI dat := FI.of dat 129 30 1 [(.bp 0), (.d (.int .i32))] [(.bld 74 1), (.acc 5 (.int .u8) true)] [(.d (.int .i64)), .nili] [(.bld 74 1), (.acc 5 (.int .u8) true)] false zk5 (R := Int × (List Int)) (fun x => (x.1, x.2.1)) (fun r => (r.1, r.2, ())) (fun n x => yzg n x.1 x.2.1)
 (fun n => []) (ann [] (Tryz.f129.body.getD .skip) 0).1
noncomputable def zkk : List (FI dat) := [kzc, z3v]
theorem zkd : (z2k).Good Tryz.prog dat (tb zkk) := FI.yz5 (hD := zz3 _) Tryz.func129 Tryz.ntmps129 Tryz.call129 (by kernel_rfl) (of_decide_eq_true (by kernel_rfl)) (by kernel_rfl) (fun n => by kernel_rfl) (fun x => by kernel_rfl) (fun _ => rfl) trivial
 (fun n => fun x => (yzg.eq_2 x.1 x.2.1 n).trans (by kernel_rfl))
 (fun n => trivial)
 (fun x => .inr (by kernel_rfl))
theorem zk4 : OkL Tryz.prog [z2k] := yze (zz3 _) (bs := [kzc, z3v]) ⟨z4u, zlt, trivial⟩ zkd
theorem zjg : FOk Tryz.prog z2k := zk4.1
mutual
def z4m : Nat → yz0 → (List Int) → Option (List Int)
 | 0, _, _ => none
 | n + 1, a0, a1 =>
   pIf (a0.kind == 1)
     ((z4k n a0.num).bind fun y0 =>
     (kz4 n y0.1 a1).bind fun y1 =>
     some y1.2)
     (pIf (a0.kind == 2)
       (pIf a0.truth
         ((kz4 n [116, 114, 117, 101] a1).bind fun y2 =>
         some y2.2)
         ((kz4 n [102, 97, 108, 115, 101] a1).bind fun y3 =>
         some y3.2))
       (pIf (a0.kind == 3)
         ((zz8 n 34 a1).bind fun y4 =>
         z1c n y4 a0.str 0)
         (pIf (a0.kind == 4)
           ((zz8 n 91 a1).bind fun y5 =>
           zc1 n 0 a0.list (a0.list.length : Int) y5)
           (some a1))))
def z1c : Nat → (List Int) → (List UInt8) → Nat → Option (List Int)
 | 0, _, _, _ => none
 | n + 1, a0, a1, a2 =>
   pIf (decide (a2 < a1.length))
     (pIf (((zat a1 a2).1 : Int) == 34)
       (z1b n ((zat a1 a2).1 : Int) a0 a1 (a2 + (zat a1 a2).2))
       (pIf (((zat a1 a2).1 : Int) == 92)
         (z1b n ((zat a1 a2).1 : Int) a0 a1 (a2 + (zat a1 a2).2))
         (z1d n ((zat a1 a2).1 : Int) a0 a1 (a2 + (zat a1 a2).2))))
     ((zz8 n 34 a0).bind fun y6 =>
     some y6)
def z1b : Nat → Int → (List Int) → (List UInt8) → Nat → Option (List Int)
 | 0, _, _, _, _ => none
 | n + 1, a0, a1, a2, a3 =>
   (zz8 n 92 a1).bind fun y10 =>
   z1d n a0 y10 a2 a3
def z1d : Nat → Int → (List Int) → (List UInt8) → Nat → Option (List Int)
 | 0, _, _, _, _ => none
 | n + 1, a0, a1, a2, a3 =>
   (yzg n a0 a1).bind fun y11 =>
   z1c n y11.2 a2 a3
def zc1 : Nat → Int → (List yz0) → Int → (List Int) → Option (List Int)
 | 0, _, _, _, _ => none
 | n + 1, a0, a1, a2, a3 =>
   pIf (decide (a0 < a2))
     ((ix a1 a0).bind fun x7 =>
     pIf (decide (a0 > 0))
       ((kz4 n [44, 32] a3).bind fun y8 =>
       zc0 n a1 a2 a0 y8.2 x7.re)
       (zc0 n a1 a2 a0 a3 x7.re))
     ((zz8 n 93 a3).bind fun y9 =>
     some y9)
def zc0 : Nat → (List yz0) → Int → Int → (List Int) → yz0 → Option (List Int)
 | 0, _, _, _, _, _ => none
 | n + 1, a0, a1, a2, a3, a4 =>
   (z4m n a4.re a3).bind fun y12 =>
   zc1 n (IntKind.i64.wrap (a2 + 1)) a0 a1 y12
end
def y8j : LSh := ⟨[], [(.bld 74 1), (.acc 5 (.int .u8) true)], 1, 75⟩
noncomputable def zbu : FI dat := FI.of dat 93 75 1 [(.bp 0), (.d (.st 3))] [(.bld 74 1), (.acc 5 (.int .u8) true)] [] [(.bld 74 1), (.acc 5 (.int .u8) true)] false y8j (R := List Int) (fun x => x.1) (fun r => (r, ())) (fun n x => z4m n x.1 x.2.1)
 (fun n => [(0, ⟨⟨[(0, (.bp 0)), (37, (.ptr 2 0))], [(.bld 74 1), (.acc 5 (.int .u8) true), .siter], 1, 75⟩, fun x => z1c n x.1 x.2.1 x.2.2.1⟩), (1, ⟨⟨[(0, (.bp 0)), (37, (.ptr 2 0)), (7, (.d (.int .i32)))], [(.bld 74 1), (.acc 5 (.int .u8) true), .siter], 1, 75⟩, fun x => z1b n x.1 x.2.1 x.2.2.1 x.2.2.2.1⟩), (2, ⟨⟨[(0, (.bp 0)), (37, (.ptr 2 0)), (7, (.d (.int .i32)))], [(.bld 74 1), (.acc 5 (.int .u8) true), .siter], 1, 75⟩, fun x => z1d n x.1 x.2.1 x.2.2.1 x.2.2.2.1⟩), (3, ⟨⟨[(60, (.d (.int .i64))), (0, (.bp 0)), (58, (.d (.sl (.st 3)))), (59, (.d (.int .i64)))], [(.bld 74 1), (.acc 5 (.int .u8) true)], 1, 75⟩, fun x => zc1 n x.1 x.2.1 x.2.2.1 x.2.2.2.1⟩), (4, ⟨⟨[(0, (.bp 0)), (58, (.d (.sl (.st 3)))), (59, (.d (.int .i64))), (60, (.d (.int .i64))), (9, (.ptr 2 0))], [(.bld 74 1), (.acc 5 (.int .u8) true), (.st 3)], 1, 75⟩, fun x => zc0 n x.1 x.2.1 x.2.2.1 x.2.2.2.1 x.2.2.2.2.1⟩)]) (ann [(28, 0), (59, 1), (60, 2), (73, 3), (90, 4)] (Tryz.f93.body.getD .skip) 0).1
noncomputable def y9d : List (FI dat) := [zbu] ++ [zbd, kzo, yzx, z2k]
theorem yay : (zbu).Good Tryz.prog dat (tb y9d) := FI.yz5 (hD := zz3 _) Tryz.func93 Tryz.ntmps93 Tryz.call93 (by kernel_rfl) (of_decide_eq_true (by kernel_rfl)) (by kernel_rfl) (fun n => by kernel_rfl) (fun x => by kernel_rfl) (fun _ => rfl) ⟨fun _ => rfl, fun _ => rfl, fun _ => rfl, fun _ => rfl, fun _ => rfl, trivial⟩
 (fun n => fun x => (z4m.eq_2 x.1 x.2.1 n).trans (by kernel_rfl))
 (fun n => ⟨fun x => (z1c.eq_2 x.1 x.2.1 x.2.2.1 n).trans (by kernel_rfl),
  fun x => (z1b.eq_2 x.1 x.2.1 x.2.2.1 x.2.2.2.1 n).trans (by kernel_rfl),
  fun x => (z1d.eq_2 x.1 x.2.1 x.2.2.1 x.2.2.2.1 n).trans (by kernel_rfl),
  fun x => (zc1.eq_2 x.1 x.2.1 x.2.2.1 x.2.2.2.1 n).trans (by kernel_rfl),
  fun x => (zc0.eq_2 x.1 x.2.1 x.2.2.1 x.2.2.2.1 x.2.2.2.2.1 n).trans (by kernel_rfl),
  trivial⟩)
 (fun x => .inr (by kernel_rfl))
theorem y90 : OkL Tryz.prog [zbu] := z4p (zz3 _) (bs := [zbd, kzo, yzx, z2k]) ⟨zv0, zad, zbl, zjg, trivial⟩ ⟨yay, trivial⟩
theorem y6m : FOk Tryz.prog zbu := y90.1
end Go.Proofs.YtfhpamcehnfhoaaGreatDoor


namespace Go.Proofs.YtfhpamcehnfhoaaGreatDoor
open Go Go.Ab
set_option linter.unusedVariables false
set_option maxRecDepth 100000
def zzo : Nat → (List Int) → Option (Int × (List Int))
 | 0, _ => none
 | n + 1, a0 =>
   some ((a0.length : Int), a0)
def zr1 : LSh := ⟨[(2, (.d (.int .i64)))], [(.bld 74 1), (.acc 5 (.int .u8) true)], 1, 8⟩
noncomputable def z29 : FI dat := FI.of dat 38 8 1 [(.bp 0)] [(.bld 74 1), (.acc 5 (.int .u8) true)] [(.d (.int .i64))] [(.bld 74 1), (.acc 5 (.int .u8) true)] false zr1 (R := Int × (List Int)) (fun x => (x.1, x.2.1)) (fun r => (r.1, r.2, ())) (fun n x => zzo n x.1)
 (fun n => []) (ann [] (Tryz.f38.body.getD .skip) 0).1
noncomputable def zr8 : List (FI dat) := []
theorem zr7 : (z29).Good Tryz.prog dat (tb zr8) := FI.yz5 (hD := zz3 _) Tryz.func38 Tryz.ntmps38 Tryz.call38 (by kernel_rfl) (of_decide_eq_true (by kernel_rfl)) (by kernel_rfl) (fun n => by kernel_rfl) (fun x => by kernel_rfl) (fun _ => rfl) trivial
 (fun n => fun x => (zzo.eq_2 x.1 n).trans (by kernel_rfl))
 (fun n => trivial)
 (fun x => .inr (by kernel_rfl))
theorem zr4 : OkL Tryz.prog [z29] := yze (zz3 _) (bs := []) trivial zr7
theorem zg9 : FOk Tryz.prog z29 := zr4.1
def z79 : Nat → yz0 → Option ((List UInt8) × Int)
 | 0, _ => none
 | n + 1, a0 =>
   (z4i n a0.re).bind fun y0 =>
   pIf (y0 != 0)
     (some ([], y0))
     ((z4m n a0.re []).bind fun y1 =>
     (zzo n y1).bind fun y2 =>
     pIf (decide (y2.1 > 4000))
       (some ([], 4))
       ((zzu n y2.2).bind fun y3 =>
       some (y3, 0)))
def yel : LSh := ⟨[(2, (.d .str)), (3, (.d (.int .i64)))], [], 0, 16⟩
noncomputable def zgd : FI dat := FI.of dat 63 16 0 [(.d (.st 3))] [] [(.d .str), (.d (.int .i64))] [] true yel (R := (List UInt8) × Int) (fun x => (x.1, x.2.1)) (fun r => (r.1, r.2, ())) (fun n x => z79 n x.1)
 (fun n => []) (ann [] (Tryz.f63.body.getD .skip) 0).1
noncomputable def yfm : List (FI dat) := [z6y, zbu, z29, yzf]
theorem ye3 : (zgd).Good Tryz.prog dat (tb yfm) := FI.yz5 (hD := zz3 _) Tryz.func63 Tryz.ntmps63 Tryz.call63 (by kernel_rfl) (of_decide_eq_true (by kernel_rfl)) (by kernel_rfl) (fun n => by kernel_rfl) (fun x => by kernel_rfl) (fun _ => rfl) trivial
 (fun n => fun x => (z79.eq_2 x.1 n).trans (by kernel_rfl))
 (fun n => trivial)
 (fun x => .inl rfl)
theorem yef : OkL Tryz.prog [zgd] := yze (zz3 _) (bs := [z6y, zbu, z29, yzf]) ⟨zls, y6m, zg9, z66, trivial⟩ ye3
theorem y8a : FOk Tryz.prog zgd := yef.1
mutual
def z5s : Nat → Int → Option (List UInt8)
 | 0, _ => none
 | n + 1, a0 =>
   pIf (decide (a0 < 3))
     (z2w n a0 true)
     (z2w n a0 (decide (a0 > 10)))
def z2w : Nat → Int → Bool → Option (List UInt8)
 | 0, _, _ => none
 | n + 1, a0, a1 =>
   pIf a1
     (some [])
     ((kzd n [43, 32, 45, 32, 42, 32, 47, 32, 60, 32, 61, 32, 97, 110, 100, 32, 111, 114]).bind fun y0 =>
     (ix y0 (IntKind.u8.wrap (a0 - 3))).bind fun x1 =>
     some x1)
end
def yhc : LSh := ⟨[(2, (.d .str))], [], 0, 14⟩
noncomputable def zcf : FI dat := FI.of dat 65 14 0 [(.d (.int .u8))] [] [(.d .str)] [] true yhc (R := List UInt8) (fun x => x.1) (fun r => (r, ())) (fun n x => z5s n x.1)
 (fun n => [(0, ⟨⟨[(0, (.d (.int .u8))), (8, (.d .bool))], [], 0, 14⟩, fun x => z2w n x.1 x.2.1⟩)]) (ann [(5, 0)] (Tryz.f65.body.getD .skip) 0).1
noncomputable def yi8 : List (FI dat) := [z3m]
theorem yj7 : (zcf).Good Tryz.prog dat (tb yi8) := FI.yz5 (hD := zz3 _) Tryz.func65 Tryz.ntmps65 Tryz.call65 (by kernel_rfl) (of_decide_eq_true (by kernel_rfl)) (by kernel_rfl) (fun n => by kernel_rfl) (fun x => by kernel_rfl) (fun _ => rfl) ⟨fun _ => rfl, trivial⟩
 (fun n => fun x => (z5s.eq_2 x.1 n).trans (by kernel_rfl))
 (fun n => ⟨fun x => (z2w.eq_2 x.1 x.2.1 n).trans (by kernel_rfl),
  trivial⟩)
 (fun x => .inl rfl)
theorem yhi : OkL Tryz.prog [zcf] := yze (zz3 _) (bs := [z3m]) ⟨zc6, trivial⟩ yj7
theorem zy4 : FOk Tryz.prog zcf := yhi.1
mutual
def z5i : Nat → kz0 → (List Int) → Option (List Int)
 | 0, _, _ => none
 | n + 1, a0, a1 =>
   pIf (a0.op == 1)
     ((z79 n a0.value.re).bind fun y0 =>
     pIf (y0.2 == 0)
       ((kz4 n y0.1 a1).bind fun y1 =>
       some y1.2)
       (some a1))
     (pIf (a0.op == 2)
       ((kz4 n a0.name a1).bind fun y2 =>
       some y2.2)
       ((z5s n a0.op).bind fun y3 =>
       pIf (!(y3 == []))
         ((z5s n a0.op).bind fun y4 =>
         (cat [32] y4).bind fun x5 =>
         (cat x5 [32]).bind fun x6 =>
         z11 n x6 [41] [40] a1 a0.re)
         (pIf (a0.op != 18)
           ((kzd n [110, 111, 116, 32, 105, 102, 32, 109, 105, 110, 32, 109, 97, 120, 32, 102, 108, 111, 111, 114, 32, 108, 101, 110, 32, 97, 116]).bind fun y7 =>
           (ix y7 (IntKind.u8.wrap (a0.op - 11))).bind fun x8 =>
           (cat x8 [40]).bind fun x9 =>
           z11 n [44, 32] [41] x9 a1 a0.re)
           (z11 n [44, 32] [93] [91] a1 a0.re))))
def z11 : Nat → (List UInt8) → (List UInt8) → (List UInt8) → (List Int) → kz0 → Option (List Int)
 | 0, _, _, _, _, _ => none
 | n + 1, a0, a1, a2, a3, a4 =>
   (kz4 n a2 a3).bind fun y10 =>
   z22 n 0 a0 a4.args a1 (a4.args.length : Int) y10.2
def z22 : Nat → Int → (List UInt8) → (List kz0) → (List UInt8) → Int → (List Int) → Option (List Int)
 | 0, _, _, _, _, _, _ => none
 | n + 1, a0, a1, a2, a3, a4, a5 =>
   pIf (decide (a0 < a4))
     ((ix a2 a0).bind fun x11 =>
     pIf (decide (a0 > 0))
       ((kz4 n a1 a5).bind fun y12 =>
       z1w n a1 a2 a3 a4 a0 y12.2 x11.re)
       (z1w n a1 a2 a3 a4 a0 a5 x11.re))
     ((kz4 n a3 a5).bind fun y13 =>
     some y13.2)
def z1w : Nat → (List UInt8) → (List kz0) → (List UInt8) → Int → Int → (List Int) → kz0 → Option (List Int)
 | 0, _, _, _, _, _, _, _ => none
 | n + 1, a0, a1, a2, a3, a4, a5, a6 =>
   (z5i n a6.re a5).bind fun y14 =>
   z22 n (IntKind.i64.wrap (a4 + 1)) a0 a1 a2 a3 y14
end
def yf6 : LSh := ⟨[], [(.bld 74 1), (.acc 5 (.int .u8) true)], 1, 78⟩
noncomputable def zdl : FI dat := FI.of dat 37 78 1 [(.bp 0), (.d (.st 4))] [(.bld 74 1), (.acc 5 (.int .u8) true)] [] [(.bld 74 1), (.acc 5 (.int .u8) true)] false yf6 (R := List Int) (fun x => x.1) (fun r => (r, ())) (fun n x => z5i n x.1 x.2.1)
 (fun n => [(0, ⟨⟨[(0, (.bp 0)), (5, (.d .str)), (6, (.d .str)), (3, (.ptr 2 0)), (4, (.d .str))], [(.bld 74 1), (.acc 5 (.int .u8) true), (.st 4)], 1, 78⟩, fun x => z11 n x.1 x.2.1 x.2.2.1 x.2.2.2.1 x.2.2.2.2.1⟩), (1, ⟨⟨[(61, (.d (.int .i64))), (0, (.bp 0)), (5, (.d .str)), (59, (.d (.sl (.st 4)))), (6, (.d .str)), (60, (.d (.int .i64)))], [(.bld 74 1), (.acc 5 (.int .u8) true)], 1, 78⟩, fun x => z22 n x.1 x.2.1 x.2.2.1 x.2.2.2.1 x.2.2.2.2.1 x.2.2.2.2.2.1⟩), (2, ⟨⟨[(0, (.bp 0)), (5, (.d .str)), (59, (.d (.sl (.st 4)))), (6, (.d .str)), (60, (.d (.int .i64))), (61, (.d (.int .i64))), (10, (.ptr 2 0))], [(.bld 74 1), (.acc 5 (.int .u8) true), (.st 4)], 1, 78⟩, fun x => z1w n x.1 x.2.1 x.2.2.1 x.2.2.2.1 x.2.2.2.2.1 x.2.2.2.2.2.1 x.2.2.2.2.2.2.1⟩)]) (ann [(33, 0), (39, 1), (56, 2)] (Tryz.f37.body.getD .skip) 0).1
noncomputable def ydy : List (FI dat) := [zdl] ++ [zgd, kzo, zcf, z3m]
theorem ygm : (zdl).Good Tryz.prog dat (tb ydy) := FI.yz5 (hD := zz3 _) Tryz.func37 Tryz.ntmps37 Tryz.call37 (by kernel_rfl) (of_decide_eq_true (by kernel_rfl)) (by kernel_rfl) (fun n => by kernel_rfl) (fun x => by kernel_rfl) (fun _ => rfl) ⟨fun _ => rfl, fun _ => rfl, fun _ => rfl, trivial⟩
 (fun n => fun x => (z5i.eq_2 x.1 x.2.1 n).trans (by kernel_rfl))
 (fun n => ⟨fun x => (z11.eq_2 x.1 x.2.1 x.2.2.1 x.2.2.2.1 x.2.2.2.2.1 n).trans (by kernel_rfl),
  fun x => (z22.eq_2 x.1 x.2.1 x.2.2.1 x.2.2.2.1 x.2.2.2.2.1 x.2.2.2.2.2.1 n).trans (by kernel_rfl),
  fun x => (z1w.eq_2 x.1 x.2.1 x.2.2.1 x.2.2.2.1 x.2.2.2.2.1 x.2.2.2.2.2.1 x.2.2.2.2.2.2.1 n).trans (by kernel_rfl),
  trivial⟩)
 (fun x => .inr (by kernel_rfl))
theorem yfn : OkL Tryz.prog [zdl] := z4p (zz3 _) (bs := [zgd, kzo, zcf, z3m]) ⟨y8a, zad, zy4, zc6, trivial⟩ ⟨ygm, trivial⟩
theorem yax : FOk Tryz.prog zdl := yfn.1
def z6u : Nat → kz0 → Option ((List UInt8) × Int)
 | 0, _ => none
 | n + 1, a0 =>
   (z2y n a0.re).bind fun y0 =>
   pIf (y0 != 0)
     (some ([], y0))
     ((z5i n a0.re []).bind fun y1 =>
     (zzo n y1).bind fun y2 =>
     pIf (decide (y2.1 > 4000))
       (some ([], 4))
       ((zzu n y2.2).bind fun y3 =>
       some (y3, 0)))
def yjt : LSh := ⟨[(2, (.d .str)), (3, (.d (.int .i64)))], [], 0, 16⟩
noncomputable def zcq : FI dat := FI.of dat 11 16 0 [(.d (.st 4))] [] [(.d .str), (.d (.int .i64))] [] true yjt (R := (List UInt8) × Int) (fun x => (x.1, x.2.1)) (fun r => (r.1, r.2, ())) (fun n x => z6u n x.1)
 (fun n => []) (ann [] (Tryz.f11.body.getD .skip) 0).1
noncomputable def yir : List (FI dat) := [z8b, zdl, z29, yzf]
theorem yjj : (zcq).Good Tryz.prog dat (tb yir) := FI.yz5 (hD := zz3 _) Tryz.func11 Tryz.ntmps11 Tryz.call11 (by kernel_rfl) (of_decide_eq_true (by kernel_rfl)) (by kernel_rfl) (fun n => by kernel_rfl) (fun x => by kernel_rfl) (fun _ => rfl) trivial
 (fun n => fun x => (z6u.eq_2 x.1 n).trans (by kernel_rfl))
 (fun n => trivial)
 (fun x => .inl rfl)
theorem yha : OkL Tryz.prog [zcq] := yze (zz3 _) (bs := [z8b, zdl, z29, yzf]) ⟨zo2, yax, zg9, z66, trivial⟩ yjj
theorem zxb : FOk Tryz.prog zcq := yha.1
mutual
def z6q : Nat → kz0 → Option Int
 | 0, _ => none
 | n + 1, a0 =>
   z3g n 0 1 a0.re
def z3g : Nat → Int → Int → kz0 → Option Int
 | 0, _, _, _ => none
 | n + 1, a0, a1, a2 =>
   pIf (decide (a0 < (a2.args.length : Int)))
     ((ix a2.args a0).bind fun x0 =>
     (z6q n x0.re).bind fun y1 =>
     z3g n (IntKind.i64.wrap (a0 + 1)) (mxI a1 (IntKind.i64.wrap (1 + y1))) a2.re)
     (some a1)
end
def yf3 : LSh := ⟨[(2, (.d (.int .i64)))], [], 0, 22⟩
noncomputable def zds : FI dat := FI.of dat 67 22 0 [(.d (.st 4))] [] [(.d (.int .i64))] [] true yf3 (R := Int) (fun x => x.1) (fun r => (r, ())) (fun n x => z6q n x.1)
 (fun n => [(0, ⟨⟨[(4, (.d (.int .i64))), (1, (.ptr 0 0)), (3, (.d (.int .i64)))], [(.st 4)], 0, 22⟩, fun x => z3g n x.1 x.2.1 x.2.2.1⟩)]) (ann [(8, 0)] (Tryz.f67.body.getD .skip) 0).1
noncomputable def yfz : List (FI dat) := [zds] ++ []
theorem ye0 : (zds).Good Tryz.prog dat (tb yfz) := FI.yz5 (hD := zz3 _) Tryz.func67 Tryz.ntmps67 Tryz.call67 (by kernel_rfl) (of_decide_eq_true (by kernel_rfl)) (by kernel_rfl) (fun n => by kernel_rfl) (fun x => by kernel_rfl) (fun _ => rfl) ⟨fun _ => rfl, trivial⟩
 (fun n => fun x => (z6q.eq_2 x.1 n).trans (by kernel_rfl))
 (fun n => ⟨fun x => (z3g.eq_2 x.1 x.2.1 x.2.2.1 n).trans (by kernel_rfl),
  trivial⟩)
 (fun x => .inl rfl)
theorem yeo : OkL Tryz.prog [zds] := z4p (zz3 _) (bs := []) trivial ⟨ye0, trivial⟩
theorem ybh : FOk Tryz.prog zds := yeo.1
mutual
def z8e : Nat → Int → Option Int
 | 0, _ => none
 | n + 1, a0 =>
   pIf (a0 == 1)
     (z5d n a0 true)
     (z5d n a0 (a0 == 2))
def z5d : Nat → Int → Bool → Option Int
 | 0, _, _ => none
 | n + 1, a0, a1 =>
   pIf a1
     (some 0)
     (pIf (decide (a0 ≥ 3))
       (pIf (decide (a0 ≤ 10))
         (zzr n a0 true)
         (pIf (a0 == 13)
           (zzr n a0 true)
           (pIf (a0 == 14)
             (zzr n a0 true)
             (zzr n a0 (a0 == 17)))))
       (pIf (a0 == 13)
         (zzr n a0 true)
         (pIf (a0 == 14)
           (zzr n a0 true)
           (zzr n a0 (a0 == 17)))))
def zzr : Nat → Int → Bool → Option Int
 | 0, _, _ => none
 | n + 1, a0, a1 =>
   pIf a1
     (some 2)
     (pIf (a0 == 11)
       (z33 n a0 true)
       (pIf (a0 == 15)
         (z33 n a0 true)
         (z33 n a0 (a0 == 16))))
def z33 : Nat → Int → Bool → Option Int
 | 0, _, _ => none
 | n + 1, a0, a1 =>
   pIf a1
     (some 1)
     (pIf (a0 == 12)
       (some 3)
       (pIf (a0 == 18)
         (some (-1))
         (some (-2))))
end
def ycl : LSh := ⟨[(2, (.d (.int .i64)))], [], 0, 46⟩
noncomputable def zg5 : FI dat := FI.of dat 97 46 0 [(.d (.int .u8))] [] [(.d (.int .i64))] [] true ycl (R := Int) (fun x => x.1) (fun r => (r, ())) (fun n x => z8e n x.1)
 (fun n => [(0, ⟨⟨[(0, (.d (.int .u8))), (3, (.d .bool))], [], 0, 46⟩, fun x => z5d n x.1 x.2.1⟩), (1, ⟨⟨[(0, (.d (.int .u8))), (10, (.d .bool))], [], 0, 46⟩, fun x => zzr n x.1 x.2.1⟩), (2, ⟨⟨[(0, (.d (.int .u8))), (29, (.d .bool))], [], 0, 46⟩, fun x => z33 n x.1 x.2.1⟩)]) (ann [(6, 0), (12, 1), (18, 2)] (Tryz.f97.body.getD .skip) 0).1
noncomputable def ye2 : List (FI dat) := []
theorem yev : (zg5).Good Tryz.prog dat (tb ye2) := FI.yz5 (hD := zz3 _) Tryz.func97 Tryz.ntmps97 Tryz.call97 (by kernel_rfl) (of_decide_eq_true (by kernel_rfl)) (by kernel_rfl) (fun n => by kernel_rfl) (fun x => by kernel_rfl) (fun _ => rfl) ⟨fun _ => rfl, fun _ => rfl, fun _ => rfl, trivial⟩
 (fun n => fun x => (z8e.eq_2 x.1 n).trans (by kernel_rfl))
 (fun n => ⟨fun x => (z5d.eq_2 x.1 x.2.1 n).trans (by kernel_rfl),
  fun x => (zzr.eq_2 x.1 x.2.1 n).trans (by kernel_rfl),
  fun x => (z33.eq_2 x.1 x.2.1 n).trans (by kernel_rfl),
  trivial⟩)
 (fun x => .inl rfl)
theorem yg1 : OkL Tryz.prog [zg5] := yze (zz3 _) (bs := []) trivial yev
theorem yab : FOk Tryz.prog zg5 := yg1.1
mutual
def z71 : Nat → yz0 → Option Int
 | 0, _ => none
 | n + 1, a0 =>
   z3k n 0 1 a0.re
def z3k : Nat → Int → Int → yz0 → Option Int
 | 0, _, _, _ => none
 | n + 1, a0, a1, a2 =>
   pIf (decide (a0 < (a2.list.length : Int)))
     (z3e n a0 a1 (a2.kind == 4) a2.re)
     (z3e n a0 a1 false a2.re)
def z3e : Nat → Int → Int → Bool → yz0 → Option Int
 | 0, _, _, _, _ => none
 | n + 1, a0, a1, a2, a3 =>
   pIf a2
     ((ix a3.list a0).bind fun x0 =>
     (z71 n x0.re).bind fun y1 =>
     z3k n (IntKind.i64.wrap (a0 + 1)) (mxI a1 (IntKind.i64.wrap (1 + y1))) a3.re)
     (some a1)
end
def ygw : LSh := ⟨[(2, (.d (.int .i64)))], [], 0, 27⟩
noncomputable def zdo : FI dat := FI.of dat 88 27 0 [(.d (.st 3))] [] [(.d (.int .i64))] [] true ygw (R := Int) (fun x => x.1) (fun r => (r, ())) (fun n x => z71 n x.1)
 (fun n => [(0, ⟨⟨[(4, (.d (.int .i64))), (1, (.ptr 0 0)), (3, (.d (.int .i64)))], [(.st 3)], 0, 27⟩, fun x => z3k n x.1 x.2.1 x.2.2.1⟩), (1, ⟨⟨[(1, (.ptr 0 0)), (4, (.d (.int .i64))), (3, (.d (.int .i64))), (14, (.d .bool))], [(.st 3)], 0, 27⟩, fun x => z3e n x.1 x.2.1 x.2.2.1 x.2.2.2.1⟩)]) (ann [(8, 0), (12, 1)] (Tryz.f88.body.getD .skip) 0).1
noncomputable def ycj : List (FI dat) := [zdo] ++ []
theorem yct : (zdo).Good Tryz.prog dat (tb ycj) := FI.yz5 (hD := zz3 _) Tryz.func88 Tryz.ntmps88 Tryz.call88 (by kernel_rfl) (of_decide_eq_true (by kernel_rfl)) (by kernel_rfl) (fun n => by kernel_rfl) (fun x => by kernel_rfl) (fun _ => rfl) ⟨fun _ => rfl, fun _ => rfl, trivial⟩
 (fun n => fun x => (z71.eq_2 x.1 n).trans (by kernel_rfl))
 (fun n => ⟨fun x => (z3k.eq_2 x.1 x.2.1 x.2.2.1 n).trans (by kernel_rfl),
  fun x => (z3e.eq_2 x.1 x.2.1 x.2.2.1 x.2.2.2.1 n).trans (by kernel_rfl),
  trivial⟩)
 (fun x => .inl rfl)
theorem ydm : OkL Tryz.prog [zdo] := z4p (zz3 _) (bs := []) trivial ⟨yct, trivial⟩
theorem yaz : FOk Tryz.prog zdo := ydm.1
mutual
def z4v : Nat → Int → Int → Option Int
 | 0, _, _ => none
 | n + 1, a0, a1 =>
   z0q n a1 a0
def z0q : Nat → Int → Int → Option Int
 | 0, _, _ => none
 | n + 1, a0, a1 =>
   pIf (a0 != 0)
     ((rem .i64 a1 a0).bind fun x0 =>
     z0q n x0 a0)
     (pIf (decide (a1 < 0))
       (some (IntKind.i64.wrap (0 - a1)))
       (some a1))
end
def y7m : LSh := ⟨[(4, (.d (.int .i64)))], [], 0, 16⟩
noncomputable def zcs : FI dat := FI.of dat 150 16 0 [(.d (.int .i64)), (.d (.int .i64))] [] [(.d (.int .i64))] [] true y7m (R := Int) (fun x => x.1) (fun r => (r, ())) (fun n x => z4v n x.1 x.2.1)
 (fun n => [(0, ⟨⟨[(1, (.d (.int .i64))), (0, (.d (.int .i64)))], [], 0, 16⟩, fun x => z0q n x.1 x.2.1⟩)]) (ann [(4, 0)] (Tryz.f150.body.getD .skip) 0).1
noncomputable def y6x : List (FI dat) := []
theorem y7e : (zcs).Good Tryz.prog dat (tb y6x) := FI.yz5 (hD := zz3 _) Tryz.func150 Tryz.ntmps150 Tryz.call150 (by kernel_rfl) (of_decide_eq_true (by kernel_rfl)) (by kernel_rfl) (fun n => by kernel_rfl) (fun x => by kernel_rfl) (fun _ => rfl) ⟨fun _ => rfl, trivial⟩
 (fun n => fun x => (z4v.eq_2 x.1 x.2.1 n).trans (by kernel_rfl))
 (fun n => ⟨fun x => (z0q.eq_2 x.1 x.2.1 n).trans (by kernel_rfl),
  trivial⟩)
 (fun x => .inl rfl)
theorem y75 : OkL Tryz.prog [zcs] := yze (zz3 _) (bs := []) trivial y7e
theorem y3l : FOk Tryz.prog zcs := y75.1
mutual
def z1t : Nat → zz2 → Option Int
 | 0, _ => none
 | n + 1, a0 =>
   pIf (decide (a0.den < 1))
     (kzr n true)
     (pIf (decide (a0.den > 1000000000))
       (kzr n true)
       (pIf (decide (a0.num < (-1000000000)))
         (kzr n true)
         (pIf (decide (a0.num > 1000000000))
           (kzr n true)
           ((z4v n a0.num a0.den).bind fun y0 =>
           kzr n (y0 != 1)))))
def kzr : Nat → Bool → Option Int
 | 0, _ => none
 | n + 1, a0 =>
   pIf a0
     (some 8)
     (some 0)
end
def y8e : LSh := ⟨[(2, (.d (.int .i64)))], [], 0, 29⟩
noncomputable def z6x : FI dat := FI.of dat 115 29 0 [(.d (.st 2))] [] [(.d (.int .i64))] [] true y8e (R := Int) (fun x => x.1) (fun r => (r, ())) (fun n x => z1t n x.1)
 (fun n => [(0, ⟨⟨[(28, (.d .bool))], [], 0, 29⟩, fun x => kzr n x.1⟩)]) (ann [(5, 0)] (Tryz.f115.body.getD .skip) 0).1
noncomputable def yav : List (FI dat) := [zcs]
theorem y9x : (z6x).Good Tryz.prog dat (tb yav) := FI.yz5 (hD := zz3 _) Tryz.func115 Tryz.ntmps115 Tryz.call115 (by kernel_rfl) (of_decide_eq_true (by kernel_rfl)) (by kernel_rfl) (fun n => by kernel_rfl) (fun x => by kernel_rfl) (fun _ => rfl) ⟨fun _ => rfl, trivial⟩
 (fun n => fun x => (z1t.eq_2 x.1 n).trans (by kernel_rfl))
 (fun n => ⟨fun x => (kzr.eq_2 x.1 n).trans (by kernel_rfl),
  trivial⟩)
 (fun x => .inl rfl)
theorem yb1 : OkL Tryz.prog [z6x] := yze (zz3 _) (bs := [zcs]) ⟨y3l, trivial⟩ y9x
theorem zkz : FOk Tryz.prog z6x := yb1.1
end Go.Proofs.YtfhpamcehnfhoaaGreatDoor

