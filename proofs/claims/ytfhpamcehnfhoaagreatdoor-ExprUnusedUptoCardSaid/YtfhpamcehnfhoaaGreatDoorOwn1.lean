/-
  THE GO STRUCTS AS LEAN STRUCTURES, by a program of this repo (types.py).
-/
import Derived.Test.YtfhpamcehnfhoaaGreatDoorLib2
import Derived.Test.YtfhpamcehnfhoaaGreatDoorLib3
import Derived.Test.YtfhpamcehnfhoaaGreatDoorLib5
import Derived.Shelf.Small.Strs
import Derived.Shelf.Sort.Plain
import Derived.Ground.NamesProg
import Derived.Test.YtfhpamcehnfhoaaGreatDoorProg
import Derived.Test.YtfhpamcehnfhoaaGreatDoorLib6
import Derived.Test.YtfhpamcehnfhoaaGreatDoorLib8
import Derived.Shelf.Slices.In.SortNone
import Derived.Test.YtfhpamcehnfhoaaGreatDoorRun8
import Derived.KernelRfl
namespace Go.Ab
open Go
set_option linter.unusedVariables false
set_option linter.unusedSimpArgs false
structure yz1 where
 num : Int
 den : Int
def yz1.el (x : yz1) : V := .agg [.int .i64 x.num, .int .i64 x.den]
def yz1.size (x : yz1) : Nat := 1 + 1 + 1
def yz1.wf (x : yz1) : Prop := (IntKind.i64.min ≤ x.num ∧ x.num ≤ IntKind.i64.max) ∧ (IntKind.i64.min ≤ x.den ∧ x.den ≤ IntKind.i64.max)
theorem yz1.yzo (x : yz1) : x.el = .agg [.int .i64 x.num, .int .i64 x.den] := by rw [yz1.el]
theorem yz1.size_eq (x : yz1) : x.size = 1 + 1 + 1 := by rw [yz1.size]
theorem yz1.z6o (x : yz1) : x.wf = ((IntKind.i64.min ≤ x.num ∧ x.num ≤ IntKind.i64.max) ∧ (IntKind.i64.min ≤ x.den ∧ x.den ≤ IntKind.i64.max)) := by rw [yz1.wf]
theorem yz1.z7t (x : yz1) : x.el.cells.length = 2 := by rw [yz1.yzo]; rfl
theorem yz1.zqt (x : yz1) : x.el = .agg x.el.cells := by rw [yz1.yzo]; rfl
theorem yz1.kin {D : Nat → Nat → Prop} (x : yz1) : V.kin D x.el := by rw [yz1.yzo]; simp only [V.kin, V.zav, and_true, true_and]
def yz1.ty : Ty yz1 := ⟨yz1.el, 2, yz1.size, yz1.wf, yz1.z7t⟩
structure zz0 where
 kind : Int
 num : yz1
 truth : Bool
 str : List UInt8
 list : List zz0
theorem zz0.zvh {x y : zz0} (h : y ∈ x.list) : SizeOf.sizeOf y < SizeOf.sizeOf x := by cases x; have := List.sizeOf_lt_of_mem h; simp at this ⊢; omega
def zz0.el (x : zz0) : V := .agg [.int .u8 x.kind, .int .i64 x.num.num, .int .i64 x.num.den, .bool x.truth, .str x.str, .sl 6 (x.list.map zz0.el) false]
 termination_by x
 decreasing_by all_goals first | exact zz0.zvh ‹_›
def zz0.size (x : zz0) : Nat := 1 + x.num.size + 1 + (x.str.length + 1) + ((x.list.map zz0.size).sum + 1) + 1
 termination_by x
 decreasing_by all_goals first | exact zz0.zvh ‹_›
def zz0.wf (x : zz0) : Prop := (IntKind.u8.min ≤ x.kind ∧ x.kind ≤ IntKind.u8.max) ∧ x.num.wf ∧ True ∧ True ∧ (∀ y ∈ x.list, y.wf)
 termination_by x
 decreasing_by all_goals first | exact zz0.zvh ‹_›
theorem zz0.yzo (x : zz0) : x.el = .agg [.int .u8 x.kind, .int .i64 x.num.num, .int .i64 x.num.den, .bool x.truth, .str x.str, .sl 6 (x.list.map zz0.el) false] := by rw [zz0.el]
theorem zz0.size_eq (x : zz0) : x.size = 1 + x.num.size + 1 + (x.str.length + 1) + ((x.list.map zz0.size).sum + 1) + 1 := by rw [zz0.size]
theorem zz0.z6o (x : zz0) : x.wf = ((IntKind.u8.min ≤ x.kind ∧ x.kind ≤ IntKind.u8.max) ∧ x.num.wf ∧ True ∧ True ∧ (∀ y ∈ x.list, y.wf)) := by rw [zz0.wf]
theorem zz0.z7t (x : zz0) : x.el.cells.length = 6 := by rw [zz0.yzo]; rfl
theorem zz0.zqt (x : zz0) : x.el = .agg x.el.cells := by rw [zz0.yzo]; rfl
theorem zz0.kin {D : Nat → Nat → Prop} (x : zz0) : V.kin D x.el := by rw [zz0.yzo]; simp only [V.kin, V.zav, and_true, true_and]; exact zuk fun y hy => zz0.kin y
 termination_by x
 decreasing_by all_goals first | exact zz0.zvh ‹_›
def zz0.ty : Ty zz0 := ⟨zz0.el, 6, zz0.size, zz0.wf, zz0.z7t⟩
structure zz1 where
 op : Int
 value : zz0
 name : List UInt8
 args : List zz1
theorem zz1.zum {x y : zz1} (h : y ∈ x.args) : SizeOf.sizeOf y < SizeOf.sizeOf x := by cases x; have := List.sizeOf_lt_of_mem h; simp at this ⊢; omega
def zz1.el (x : zz1) : V := .agg [.int .u8 x.op, .int .u8 x.value.kind, .int .i64 x.value.num.num, .int .i64 x.value.num.den, .bool x.value.truth, .str x.value.str, .sl 6 (x.value.list.map zz0.el) false, .str x.name, .sl 9 (x.args.map zz1.el) false]
 termination_by x
 decreasing_by all_goals first | exact zz1.zum ‹_›
def zz1.size (x : zz1) : Nat := 1 + x.value.size + (x.name.length + 1) + ((x.args.map zz1.size).sum + 1) + 1
 termination_by x
 decreasing_by all_goals first | exact zz1.zum ‹_›
def zz1.wf (x : zz1) : Prop := (IntKind.u8.min ≤ x.op ∧ x.op ≤ IntKind.u8.max) ∧ x.value.wf ∧ True ∧ (∀ y ∈ x.args, y.wf)
 termination_by x
 decreasing_by all_goals first | exact zz1.zum ‹_›
theorem zz1.yzo (x : zz1) : x.el = .agg [.int .u8 x.op, .int .u8 x.value.kind, .int .i64 x.value.num.num, .int .i64 x.value.num.den, .bool x.value.truth, .str x.value.str, .sl 6 (x.value.list.map zz0.el) false, .str x.name, .sl 9 (x.args.map zz1.el) false] := by rw [zz1.el]
theorem zz1.size_eq (x : zz1) : x.size = 1 + x.value.size + (x.name.length + 1) + ((x.args.map zz1.size).sum + 1) + 1 := by rw [zz1.size]
theorem zz1.z6o (x : zz1) : x.wf = ((IntKind.u8.min ≤ x.op ∧ x.op ≤ IntKind.u8.max) ∧ x.value.wf ∧ True ∧ (∀ y ∈ x.args, y.wf)) := by rw [zz1.wf]
theorem zz1.z7t (x : zz1) : x.el.cells.length = 9 := by rw [zz1.yzo]; rfl
theorem zz1.zqt (x : zz1) : x.el = .agg x.el.cells := by rw [zz1.yzo]; rfl
theorem zz1.kin {D : Nat → Nat → Prop} (x : zz1) : V.kin D x.el := by rw [zz1.yzo]; simp only [V.kin, V.zav, and_true, true_and]; exact ⟨zuk fun y hy => zz0.kin y, zuk fun y hy => zz1.kin y⟩
 termination_by x
 decreasing_by all_goals first | exact zz1.zum ‹_›
def zz1.ty : Ty zz1 := ⟨zz1.el, 9, zz1.size, zz1.wf, zz1.z7t⟩
structure yz3 where
 name : List UInt8
 value : zz0
def yz3.el (x : yz3) : V := .agg [.str x.name, .int .u8 x.value.kind, .int .i64 x.value.num.num, .int .i64 x.value.num.den, .bool x.value.truth, .str x.value.str, .sl 6 (x.value.list.map zz0.el) false]
def yz3.size (x : yz3) : Nat := (x.name.length + 1) + x.value.size + 1
def yz3.wf (x : yz3) : Prop := True ∧ x.value.wf
theorem yz3.yzo (x : yz3) : x.el = .agg [.str x.name, .int .u8 x.value.kind, .int .i64 x.value.num.num, .int .i64 x.value.num.den, .bool x.value.truth, .str x.value.str, .sl 6 (x.value.list.map zz0.el) false] := by rw [yz3.el]
theorem yz3.size_eq (x : yz3) : x.size = (x.name.length + 1) + x.value.size + 1 := by rw [yz3.size]
theorem yz3.z6o (x : yz3) : x.wf = (True ∧ x.value.wf) := by rw [yz3.wf]
theorem yz3.z7t (x : yz3) : x.el.cells.length = 7 := by rw [yz3.yzo]; rfl
theorem yz3.zqt (x : yz3) : x.el = .agg x.el.cells := by rw [yz3.yzo]; rfl
theorem yz3.kin {D : Nat → Nat → Prop} (x : yz3) : V.kin D x.el := by rw [yz3.yzo]; simp only [V.kin, V.zav, and_true, true_and]; exact zuk fun y hy => zz0.kin y
def yz3.ty : Ty yz3 := ⟨yz3.el, 7, yz3.size, yz3.wf, yz3.z7t⟩
structure kze where
 s : List UInt8
def kze.el (x : kze) : V := .agg [.str x.s]
def kze.size (x : kze) : Nat := (x.s.length + 1) + 1
def kze.wf (x : kze) : Prop := True
theorem kze.yzo (x : kze) : x.el = .agg [.str x.s] := by rw [kze.el]
theorem kze.size_eq (x : kze) : x.size = (x.s.length + 1) + 1 := by rw [kze.size]
theorem kze.z6o (x : kze) : x.wf = (True) := by rw [kze.wf]
theorem kze.z7t (x : kze) : x.el.cells.length = 1 := by rw [kze.yzo]; rfl
theorem kze.zqt (x : kze) : x.el = .agg x.el.cells := by rw [kze.yzo]; rfl
theorem kze.kin {D : Nat → Nat → Prop} (x : kze) : V.kin D x.el := by rw [kze.yzo]; simp only [V.kin, V.zav, and_true, true_and]
def kze.ty : Ty kze := ⟨kze.el, 1, kze.size, kze.wf, kze.z7t⟩
structure zzf where
 s : List UInt8
 at_ : Int
 ok : Bool
def zzf.el (x : zzf) : V := .agg [.str x.s, .int .i64 x.at_, .bool x.ok]
def zzf.size (x : zzf) : Nat := (x.s.length + 1) + 1 + 1 + 1
def zzf.wf (x : zzf) : Prop := True ∧ (IntKind.i64.min ≤ x.at_ ∧ x.at_ ≤ IntKind.i64.max) ∧ True
theorem zzf.yzo (x : zzf) : x.el = .agg [.str x.s, .int .i64 x.at_, .bool x.ok] := by rw [zzf.el]
theorem zzf.size_eq (x : zzf) : x.size = (x.s.length + 1) + 1 + 1 + 1 := by rw [zzf.size]
theorem zzf.z6o (x : zzf) : x.wf = (True ∧ (IntKind.i64.min ≤ x.at_ ∧ x.at_ ≤ IntKind.i64.max) ∧ True) := by rw [zzf.wf]
theorem zzf.z7t (x : zzf) : x.el.cells.length = 3 := by rw [zzf.yzo]; rfl
theorem zzf.zqt (x : zzf) : x.el = .agg x.el.cells := by rw [zzf.yzo]; rfl
theorem zzf.kin {D : Nat → Nat → Prop} (x : zzf) : V.kin D x.el := by rw [zzf.yzo]; simp only [V.kin, V.zav, and_true, true_and]
def zzf.ty : Ty zzf := ⟨zzf.el, 3, zzf.size, zzf.wf, zzf.z7t⟩
structure z4f where
 a : yz1
 b : yz1
 out : yz1
 e : Int
def z4f.el (x : z4f) : V := .agg [.int .i64 x.a.num, .int .i64 x.a.den, .int .i64 x.b.num, .int .i64 x.b.den, .int .i64 x.out.num, .int .i64 x.out.den, .int .i64 x.e]
def z4f.size (x : z4f) : Nat := x.a.size + x.b.size + x.out.size + 1 + 1
def z4f.wf (x : z4f) : Prop := x.a.wf ∧ x.b.wf ∧ x.out.wf ∧ (IntKind.i64.min ≤ x.e ∧ x.e ≤ IntKind.i64.max)
theorem z4f.yzo (x : z4f) : x.el = .agg [.int .i64 x.a.num, .int .i64 x.a.den, .int .i64 x.b.num, .int .i64 x.b.den, .int .i64 x.out.num, .int .i64 x.out.den, .int .i64 x.e] := by rw [z4f.el]
theorem z4f.size_eq (x : z4f) : x.size = x.a.size + x.b.size + x.out.size + 1 + 1 := by rw [z4f.size]
theorem z4f.z6o (x : z4f) : x.wf = (x.a.wf ∧ x.b.wf ∧ x.out.wf ∧ (IntKind.i64.min ≤ x.e ∧ x.e ≤ IntKind.i64.max)) := by rw [z4f.wf]
theorem z4f.z7t (x : z4f) : x.el.cells.length = 7 := by rw [z4f.yzo]; rfl
theorem z4f.zqt (x : z4f) : x.el = .agg x.el.cells := by rw [z4f.yzo]; rfl
theorem z4f.kin {D : Nat → Nat → Prop} (x : z4f) : V.kin D x.el := by rw [z4f.yzo]; simp only [V.kin, V.zav, and_true, true_and]
def z4f.ty : Ty z4f := ⟨z4f.el, 7, z4f.size, z4f.wf, z4f.z7t⟩
end Go.Ab


namespace Go.Ab
open Go
set_option linter.unusedVariables false
structure zbo where
 e0 : List UInt8
 e1 : List UInt8
 e2 : List UInt8
 e3 : List UInt8
 e4 : List UInt8
 e5 : List UInt8
 e6 : List UInt8
 e7 : List UInt8
def zbo.el (x : zbo) : V := .agg [.str x.e0, .str x.e1, .str x.e2, .str x.e3, .str x.e4, .str x.e5, .str x.e6, .str x.e7]
theorem zbo.yzo (x : zbo) : x.el = .agg [.str x.e0, .str x.e1, .str x.e2, .str x.e3, .str x.e4, .str x.e5, .str x.e6, .str x.e7] := rfl
theorem zbo.kin {Dm : Nat → Nat → Prop} (x : zbo) : V.kin Dm x.el := by simp [zbo.el, V.kin, V.zav]
structure zc5 where
 e0 : List UInt8
 e1 : List UInt8
 e2 : List UInt8
 e3 : List UInt8
 e4 : List UInt8
 e5 : List UInt8
 e6 : List UInt8
def zc5.el (x : zc5) : V := .agg [.str x.e0, .str x.e1, .str x.e2, .str x.e3, .str x.e4, .str x.e5, .str x.e6]
theorem zc5.yzo (x : zc5) : x.el = .agg [.str x.e0, .str x.e1, .str x.e2, .str x.e3, .str x.e4, .str x.e5, .str x.e6] := rfl
theorem zc5.kin {Dm : Nat → Nat → Prop} (x : zc5) : V.kin Dm x.el := by simp [zc5.el, V.kin, V.zav]
def zz0.re (x : zz0) : zz0 := ⟨x.kind, x.num, x.truth, x.str, x.list⟩
@[simp] theorem zz0.zz3 (x : zz0) : x.re = x := by cases x; simp [zz0.re]
def zz1.re (x : zz1) : zz1 := ⟨x.op, x.value.re, x.name, x.args⟩
@[simp] theorem zz1.zz3 (x : zz1) : x.re = x := by cases x; simp [zz1.re]
def yz3.re (x : yz3) : yz3 := ⟨x.name, x.value.re⟩
@[simp] theorem yz3.zz3 (x : yz3) : x.re = x := by cases x; simp [yz3.re]
def datT : Nat → Type
 | 0 => zbo
 | 1 => zc5
 | 2 => yz1
 | 3 => zz0
 | 4 => zz1
 | 5 => yz3
 | 6 => kze
 | 7 => zzf
 | 8 => z4f
 | _ => Unit
def zt7 : Nat → List DTy
 | 0 => [.str, .str, .str, .str, .str, .str, .str, .str]
 | 1 => [.str, .str, .str, .str, .str, .str, .str]
 | 2 => [.int .i64, .int .i64]
 | 3 => [.int .u8, .int .i64, .int .i64, .bool, .str, .sl (.st 3)]
 | 4 => [.int .u8, .int .u8, .int .i64, .int .i64, .bool, .str, .sl (.st 3), .str, .sl (.st 4)]
 | 5 => [.str, .int .u8, .int .i64, .int .i64, .bool, .str, .sl (.st 3)]
 | 6 => [.str]
 | 7 => [.str, .int .i64, .bool]
 | 8 => [.int .i64, .int .i64, .int .i64, .int .i64, .int .i64, .int .i64, .int .i64]
 | _ => []
def yns : List (Nat × DTy) := [(2, .int .i64), (3, .int .i64), (4, .bool), (5, .int .u8), (6, .int .u8), (9, .str), (10, .str), (11, .str), (12, .int .u64), (21, .int .i32), (23, .st 2), (24, .sl (.st 3)), (26, .st 3), (27, .sl (.st 4)), (29, .st 4), (31, .int .i64), (49, .sl (.st 5)), (51, .st 5), (61, .sl .str), (72, .sl (.int .u8)), (106, .st 6), (123, .int .u64), (129, .st 0), (130, .st 1), (144, .int .i64), (152, .int .u32), (154, .int .u64), (186, .int .u64), (198, .int .u16), (207, .st 7), (220, .st 8), (241, .sl (.int .i64)), (252, .int .u8), (253, .int .u8), (255, .int .i32), (256, .int .i32)]
def dat : Dat where
 T := datT
 fl := zt7
 get := fun i => match i with
  | 0 => fun (x : zbo) => (x.e0, x.e1, x.e2, x.e3, x.e4, x.e5, x.e6, x.e7, ())
  | 1 => fun (x : zc5) => (x.e0, x.e1, x.e2, x.e3, x.e4, x.e5, x.e6, ())
  | 2 => fun (x : yz1) => (x.num, x.den, ())
  | 3 => fun (x : zz0) => (x.kind, x.num.num, x.num.den, x.truth, x.str, x.list, ())
  | 4 => fun (x : zz1) => (x.op, x.value.kind, x.value.num.num, x.value.num.den, x.value.truth, x.value.str, x.value.list, x.name, x.args, ())
  | 5 => fun (x : yz3) => (x.name, x.value.kind, x.value.num.num, x.value.num.den, x.value.truth, x.value.str, x.value.list, ())
  | 6 => fun (x : kze) => (x.s, ())
  | 7 => fun (x : zzf) => (x.s, x.at_, x.ok, ())
  | 8 => fun (x : z4f) => (x.a.num, x.a.den, x.b.num, x.b.den, x.out.num, x.out.den, x.e, ())
  | _ + 9 => fun _ => ()
 make := fun i => match i with
  | 0 => fun x => zbo.mk x.1 x.2.1 x.2.2.1 x.2.2.2.1 x.2.2.2.2.1 x.2.2.2.2.2.1 x.2.2.2.2.2.2.1 x.2.2.2.2.2.2.2.1
  | 1 => fun x => zc5.mk x.1 x.2.1 x.2.2.1 x.2.2.2.1 x.2.2.2.2.1 x.2.2.2.2.2.1 x.2.2.2.2.2.2.1
  | 2 => fun x => yz1.mk x.1 x.2.1
  | 3 => fun x => zz0.mk x.1 (yz1.mk x.2.1 x.2.2.1) x.2.2.2.1 x.2.2.2.2.1 x.2.2.2.2.2.1
  | 4 => fun x => zz1.mk x.1 (zz0.mk x.2.1 (yz1.mk x.2.2.1 x.2.2.2.1) x.2.2.2.2.1 x.2.2.2.2.2.1 x.2.2.2.2.2.2.1) x.2.2.2.2.2.2.2.1 x.2.2.2.2.2.2.2.2.1
  | 5 => fun x => yz3.mk x.1 (zz0.mk x.2.1 (yz1.mk x.2.2.1 x.2.2.2.1) x.2.2.2.2.1 x.2.2.2.2.2.1 x.2.2.2.2.2.2.1)
  | 6 => fun x => kze.mk x.1
  | 7 => fun x => zzf.mk x.1 x.2.1 x.2.2.1
  | 8 => fun x => z4f.mk (yz1.mk x.1 x.2.1) (yz1.mk x.2.2.1 x.2.2.2.1) (yz1.mk x.2.2.2.2.1 x.2.2.2.2.2.1) x.2.2.2.2.2.2.1
  | _ + 9 => fun _ => ()
 enc := fun i => match i with
  | 0 => zbo.el
  | 1 => zc5.el
  | 2 => yz1.el
  | 3 => zz0.el
  | 4 => zz1.el
  | 5 => yz3.el
  | 6 => kze.el
  | 7 => zzf.el
  | 8 => z4f.el
  | _ + 9 => fun _ => .agg []
 ty := fnd yns
end Go.Ab


namespace Go.Ab
open Go
set_option linter.unusedVariables false
theorem zz2 (P : Program) : dat.Ok P where
 enc := fun i => match i with
  | 0 => fun x => zbo.yzo x
  | 1 => fun x => zc5.yzo x
  | 2 => fun x => yz1.yzo x
  | 3 => fun x => zz0.yzo x
  | 4 => fun x => zz1.yzo x
  | 5 => fun x => yz3.yzo x
  | 6 => fun x => kze.yzo x
  | 7 => fun x => zzf.yzo x
  | 8 => fun x => z4f.yzo x
  | _ + 9 => fun _ => rfl
 getMake := fun i => match i with
  | 0 => fun x => rfl
  | 1 => fun x => rfl
  | 2 => fun x => rfl
  | 3 => fun x => rfl
  | 4 => fun x => rfl
  | 5 => fun x => rfl
  | 6 => fun x => rfl
  | 7 => fun x => rfl
  | 8 => fun x => rfl
  | _ + 9 => fun _ => rfl
 flat := fun i => match i with
  | 0 => fun t h => by simp only [dat, zt7, List.mem_cons, List.not_mem_nil, or_false] at h; rcases h with rfl | rfl | rfl | rfl | rfl | rfl | rfl | rfl <;> trivial
  | 1 => fun t h => by simp only [dat, zt7, List.mem_cons, List.not_mem_nil, or_false] at h; rcases h with rfl | rfl | rfl | rfl | rfl | rfl | rfl <;> trivial
  | 2 => fun t h => by simp only [dat, zt7, List.mem_cons, List.not_mem_nil, or_false] at h; rcases h with rfl | rfl <;> trivial
  | 3 => fun t h => by simp only [dat, zt7, List.mem_cons, List.not_mem_nil, or_false] at h; rcases h with rfl | rfl | rfl | rfl | rfl | rfl <;> trivial
  | 4 => fun t h => by simp only [dat, zt7, List.mem_cons, List.not_mem_nil, or_false] at h; rcases h with rfl | rfl | rfl | rfl | rfl | rfl | rfl | rfl | rfl <;> trivial
  | 5 => fun t h => by simp only [dat, zt7, List.mem_cons, List.not_mem_nil, or_false] at h; rcases h with rfl | rfl | rfl | rfl | rfl | rfl | rfl <;> trivial
  | 6 => fun t h => by simp only [dat, zt7, List.mem_cons, List.not_mem_nil, or_false] at h; rcases h with rfl <;> trivial
  | 7 => fun t h => by simp only [dat, zt7, List.mem_cons, List.not_mem_nil, or_false] at h; rcases h with rfl | rfl | rfl <;> trivial
  | 8 => fun t h => by simp only [dat, zt7, List.mem_cons, List.not_mem_nil, or_false] at h; rcases h with rfl | rfl | rfl | rfl | rfl | rfl | rfl <;> trivial
  | _ + 9 => fun t h => by cases h
 ty := fun e t h => by
  have := z67 h
  simp only [yns, List.mem_cons, Prod.mk.injEq, List.not_mem_nil, or_false] at this
  rcases this with ⟨_, rfl⟩ | ⟨_, rfl⟩ | ⟨_, rfl⟩ | ⟨_, rfl⟩ | ⟨_, rfl⟩ | ⟨_, rfl⟩ | ⟨_, rfl⟩ | ⟨_, rfl⟩ | ⟨_, rfl⟩ | ⟨_, rfl⟩ | ⟨_, rfl⟩ | ⟨_, rfl⟩ | ⟨_, rfl⟩ | ⟨_, rfl⟩ | ⟨_, rfl⟩ | ⟨_, rfl⟩ | ⟨_, rfl⟩ | ⟨_, rfl⟩ | ⟨_, rfl⟩ | ⟨_, rfl⟩ | ⟨_, rfl⟩ | ⟨_, rfl⟩ | ⟨_, rfl⟩ | ⟨_, rfl⟩ | ⟨_, rfl⟩ | ⟨_, rfl⟩ | ⟨_, rfl⟩ | ⟨_, rfl⟩ | ⟨_, rfl⟩ | ⟨_, rfl⟩ | ⟨_, rfl⟩ | ⟨_, rfl⟩ | ⟨_, rfl⟩ | ⟨_, rfl⟩ | ⟨_, rfl⟩ | ⟨_, rfl⟩ <;> simp
 kin := fun i => match i with
  | 0 => fun x _ => zbo.kin x
  | 1 => fun x _ => zc5.kin x
  | 2 => fun x _ => yz1.kin x
  | 3 => fun x _ => zz0.kin x
  | 4 => fun x _ => zz1.kin x
  | 5 => fun x _ => yz3.kin x
  | 6 => fun x _ => kze.kin x
  | 7 => fun x _ => zzf.kin x
  | 8 => fun x _ => z4f.kin x
  | _ + 9 => fun _ _ => by simp only [dat, V.kin, V.zav]
end Go.Ab


namespace Go.Proofs
open Go.Shelf
def Tryz.zr9 : Go.Shelf.Ren := ⟨fun | 213 => 195 | 265 => 202 | n => n, fun | 9 => 9 | 3 => 3 | n => n, fun | n => n⟩
theorem Tryz.yap : Go.Proofs.Lays.n213 Tryz.prog Tryz.zr9 := {
 mixed := by kernel_rfl
 f213 := Tryz.func195.trans (congrArg some (by kernel_rfl))
 f265 := Tryz.func202.trans (congrArg some (by kernel_rfl))
 t3 := Tryz.underlying3
 a3 := Tryz.isAgg3
 z3 := Tryz.sizeOf3
 v3 := Tryz.zeroValue3
 t9 := Tryz.underlying9
 a9 := Tryz.isAgg9
 z9 := Tryz.sizeOf9
 v9 := Tryz.zeroValue9 }
def Tryz.yez : Go.Shelf.Ren := ⟨fun | 190 => 61 | 125 => 92 | 258 => 91 | 128 => 125 | 129 => 126 | 302 => 116 | 303 => 117 | 304 => 118 | 305 => 119 | 306 => 120 | 307 => 121 | 308 => 122 | 309 => 123 | 310 => 124 | 333 => 151 | 329 => 152 | 330 => 153 | 334 => 154 | 335 => 155 | 336 => 156 | 344 => 174 | n => n, fun | 31 => 61 | 9 => 9 | 3 => 3 | 46 => 123 | 0 => 0 | 51 => 152 | 53 => 154 | 4 => 4 | 183 => 145 | 182 => 144 | 131 => 149 | 5 => 5 | 218 => 186 | 222 => 190 | 228 => 214 | 229 => 85 | n => n, fun | n => n⟩
theorem Tryz.yjw : Go.Proofs.Lays.n190 Tryz.prog Tryz.yez := {
 mixed := by kernel_rfl
 f125 := Tryz.func92.trans (congrArg some (by kernel_rfl))
 f128 := Tryz.func125.trans (congrArg some (by kernel_rfl))
 f129 := Tryz.func126.trans (congrArg some (by kernel_rfl))
 f190 := Tryz.func61.trans (congrArg some (by kernel_rfl))
 f258 := Tryz.func91.trans (congrArg some (by kernel_rfl))
 f302 := Tryz.func116.trans (congrArg some (by kernel_rfl))
 f303 := Tryz.func117.trans (congrArg some (by kernel_rfl))
 f304 := Tryz.func118.trans (congrArg some (by kernel_rfl))
 f305 := Tryz.func119.trans (congrArg some (by kernel_rfl))
 f306 := Tryz.func120.trans (congrArg some (by kernel_rfl))
 f307 := Tryz.func121.trans (congrArg some (by kernel_rfl))
 f308 := Tryz.func122.trans (congrArg some (by kernel_rfl))
 f309 := Tryz.func123.trans (congrArg some (by kernel_rfl))
 f310 := Tryz.func124.trans (congrArg some (by kernel_rfl))
 f329 := Tryz.func152.trans (congrArg some (by kernel_rfl))
 f330 := Tryz.func153.trans (congrArg some (by kernel_rfl))
 f333 := Tryz.func151.trans (congrArg some (by kernel_rfl))
 f334 := Tryz.func154.trans (congrArg some (by kernel_rfl))
 f335 := Tryz.func155.trans (congrArg some (by kernel_rfl))
 f336 := Tryz.func156.trans (congrArg some (by kernel_rfl))
 f344 := Tryz.func174.trans (congrArg some (by kernel_rfl))
 t0 := Tryz.underlying0
 a0 := Tryz.isAgg0
 z0 := Tryz.sizeOf0
 v0 := Tryz.zeroValue0
 t3 := Tryz.underlying3
 a3 := Tryz.isAgg3
 z3 := Tryz.sizeOf3
 v3 := Tryz.zeroValue3
 t4 := Tryz.underlying4
 a4 := Tryz.isAgg4
 z4 := Tryz.sizeOf4
 v4 := Tryz.zeroValue4
 t5 := Tryz.underlying5
 a5 := Tryz.isAgg5
 z5 := Tryz.sizeOf5
 v5 := Tryz.zeroValue5
 t9 := Tryz.underlying9
 a9 := Tryz.isAgg9
 z9 := Tryz.sizeOf9
 v9 := Tryz.zeroValue9
 t31 := Tryz.underlying61
 a31 := Tryz.isAgg61
 z31 := Tryz.sizeOf61
 v31 := Tryz.zeroValue61
 t46 := Tryz.underlying123
 a46 := Tryz.isAgg123
 z46 := Tryz.sizeOf123
 v46 := Tryz.zeroValue123
 t51 := Tryz.underlying152
 a51 := Tryz.isAgg152
 z51 := Tryz.sizeOf152
 v51 := Tryz.zeroValue152
 t53 := Tryz.underlying154
 a53 := Tryz.isAgg154
 z53 := Tryz.sizeOf154
 v53 := Tryz.zeroValue154
 t131 := Tryz.underlying149
 a131 := Tryz.isAgg149
 z131 := Tryz.sizeOf149
 v131 := Tryz.zeroValue149
 t182 := Tryz.underlying144
 a182 := Tryz.isAgg144
 z182 := Tryz.sizeOf144
 v182 := Tryz.zeroValue144
 t183 := Tryz.underlying145
 a183 := Tryz.isAgg145
 z183 := Tryz.sizeOf145
 v183 := Tryz.zeroValue145
 t218 := Tryz.underlying186
 a218 := Tryz.isAgg186
 z218 := Tryz.sizeOf186
 v218 := Tryz.zeroValue186
 t222 := Tryz.underlying190
 a222 := Tryz.isAgg190
 z222 := Tryz.sizeOf190
 v222 := Tryz.zeroValue190
 t228 := Tryz.underlying214
 a228 := Tryz.isAgg214
 z228 := Tryz.sizeOf214
 v228 := Tryz.zeroValue214
 t229 := Tryz.underlying85
 a229 := Tryz.isAgg85
 z229 := Tryz.sizeOf85
 v229 := Tryz.zeroValue85 }
end Go.Proofs


namespace Go.Proofs.YtfhpamcehnfhoaaGreatDoor
open Go Go.Ab
set_option linter.unusedVariables false
def zzm : Nat → List UInt8 → List UInt8 → Option Int := fun _ a b => some (Lib.compareBytes a b)
def z5h : LSh := ⟨[(4, (.d (.int .i64)))], [], 0, 8⟩
noncomputable def z1a : FI dat := FI.of dat 195 8 0 [(.d .str), (.d .str)] [] [(.d (.int .i64))] [] true z5h (R := Int) (fun x => x.1) (fun r => (r, ())) (fun n x => zzm n x.1 x.2.1)
 (fun n => []) .skip
theorem yip (a b : List UInt8) : zqg Tryz.prog 195 [.str a, .str b] (.int .i64 (Lib.compareBytes a b)) := fun H W g cargs hG hA => by
 obtain ⟨x, y, rfl, h0, h1⟩ := yjs hA
 cases h0; cases h1
 have c := Any.bytealg_CompareString Tryz.yap ⟨a.toArray⟩ ⟨b.toArray⟩ W
 refine .inl ⟨Tryz.call195 _ _, c.mono fun e W' ⟨h1, h2⟩ => ?_⟩
 subst h1; subst h2
 exact ⟨_, g, rfl, .refl _ _ _, hG, .int _ _⟩
theorem z8c : FOk Tryz.prog z1a := fun n R x k kp r h => by
 refine ⟨(Lib.compareBytes x.1 x.2.1, ()), h, rfl, rfl, rfl, fun lv vargs ha => ⟨[.int .i64 (Lib.compareBytes x.1 x.2.1)], fun ρ lv' => ?_, ?_⟩⟩
 ·show VRL dat ρ lv' [TV.int .i64 (Lib.compareBytes x.1 x.2.1)] _
  simp only [VRL, VR]
  exact ⟨_, _, rfl, rfl, rfl⟩
 ·have ha : VRL dat [] lv [TV.str x.1, TV.str x.2.1] vargs := ha
  simp only [VRL, VR] at ha
  obtain ⟨v, r1, rfl, rfl, v2, r2, rfl, rfl, rfl⟩ := ha
  exact yip _ _
def z06 : Nat → List (List UInt8) → Option (List (List UInt8)) := fun _ xs => if xs.length < 4611686018427387904 then some (z5v xs) else none
noncomputable def z3e : FI dat := yjg dat 61 9 z06
theorem za9 : FOk Tryz.prog z3e :=
 ypt (fun _ _ => Tryz.call61 _ _) (fun blk cap ss w h1 h2 h3 => Any.slices_Sort_string Tryz.yjw blk 0 cap ss w h1 h2 h3) (fun p cap w => Any.slices_Sort_string_none Tryz.yjw p cap w)
theorem zoa {P : Program} {f lv : Nat} {b : Bool} (h : ∀ H : kz2, H.lv = lv → zlk P f [] H (.bool b) H) : zqg P f [] (.bool b) := fun H W g cargs hG hA => by
 have hget : ∀ l i, (⟨lv, [], fun _ _ => none⟩ : kz2).get l i = none := fun l i => by unfold kz2.get; split <;> simp
 have hno : ∀ g b, ¬ Own g ⟨lv, [], fun _ _ => none⟩ b := fun g b ⟨l, i, o, h, _⟩ => by rw [hget] at h; cases h
 have bad : ∀ {l i : Nat} {o : zz5} {p : Prop}, (⟨lv, [], fun _ _ => none⟩ : kz2).get l i = some o → p := fun {l i o p} h => by rw [hget] at h; cases h
 have good : Go.Ab.Good W g0 ⟨lv, [], fun _ _ => none⟩ := ⟨fun _ _ _ h => bad h, fun _ _ _ h => bad h, fun _ _ _ _ _ _ h => bad h, fun _ _ h => h.elim, fun _ _ _ h => bad h, fun k cs hk => ⟨hno _ _, (hG.zpg k cs hk).2⟩⟩
 have key : ∀ {W' : World} {g' : Gh}, Step W g0 ⟨lv, [], fun _ _ => none⟩ W' g' ⟨lv, [], fun _ _ => none⟩ → Grow W W' := fun s => ⟨s.os, s.tape, s.output, s.size, fun b hb => s.block b hb (hno _ _)⟩
 rcases h ⟨lv, [], fun _ _ => none⟩ rfl W g0 cargs good ⟨hA.1, fun j v hj => by simp at hj⟩ with ⟨h1, h2⟩ | ⟨c, W', g', h1, h2, h3, h4⟩
 ·refine .inl ⟨h1, h2.mono fun e W' ⟨c, g', he, hs, hg, hr⟩ => ?_⟩
  cases hr
  exact ⟨_, g, he, (key hs).step, hG.grow (key hs), .bool b⟩
 ·cases h4
  exact .inr ⟨_, W', g, h1, (key h2).step, hG.grow (key h2), .bool b⟩
def yz7 : Nat → Option Bool := fun _ => some true
def zbe : LSh := ⟨[(0, (.d .bool))], [], 0, 76⟩
noncomputable def z1l : FI dat := FI.of dat 26 76 0 [] [] [(.d .bool)] [] true zbe (R := Bool) (fun x => x.1) (fun r => (r, ())) (fun n _ => yz7 n)
 (fun n => []) .skip
theorem z88 : FOk Tryz.prog z1l := fun n R x k kp r h => by
 refine ⟨(true, ()), h, rfl, rfl, rfl, fun lv vargs ha => ⟨[.bool true], fun ρ lv' => ?_, ?_⟩⟩
 ·show VRL dat ρ lv' [TV.bool true] _
  simp only [VRL, VR]
  exact ⟨_, _, rfl, rfl, rfl⟩
 ·have ha : VRL dat [] lv [] vargs := ha
  simp only [VRL] at ha
  subst ha
  exact zoa ok73
end Go.Proofs.YtfhpamcehnfhoaaGreatDoor


namespace Go.Proofs.YtfhpamcehnfhoaaGreatDoor
open Go Go.Ab
set_option linter.unusedVariables false
set_option maxRecDepth 100000
mutual
def z3k : Nat → zz0 → Int → Option Bool
 | 0, _, _ => none
 | n + 1, a0, a1 =>
   pIf (a1 == 0)
     (z0l n a1 true a0.re)
     (pIf (decide ((a0.str.length : Int) > 200))
       (z0l n a1 true a0.re)
       (z0l n a1 (decide ((a0.list.length : Int) > 150)) a0.re))
def z0l : Nat → Int → Bool → zz0 → Option Bool
 | 0, _, _, _ => none
 | n + 1, a0, a1, a2 =>
   pIf a1
     (some true)
     (z1b n 0 a0 a2.re)
def z1b : Nat → Int → Int → zz0 → Option Bool
 | 0, _, _, _ => none
 | n + 1, a0, a1, a2 =>
   pIf (decide (a0 < (a2.list.length : Int)))
     ((ix a2.list a0).bind fun x0 =>
     (z3k n x0.re (IntKind.i64.wrap (a1 - 1))).bind fun y1 =>
     pIf y1
       (some true)
       (z1b n (IntKind.i64.wrap (a0 + 1)) a1 a2.re))
     (some false)
end
def y5a : LSh := ⟨[(4, (.d .bool))], [], 0, 35⟩
noncomputable def zah : FI dat := FI.of dat 58 35 0 [(.d (.st 3)), (.d (.int .i64))] [] [(.d .bool)] [] true y5a (R := Bool) (fun x => x.1) (fun r => (r, ())) (fun n x => z3k n x.1 x.2.1)
 (fun n => [(0, ⟨⟨[(1, (.d (.int .i64))), (2, (.ptr 0 0)), (19, (.d .bool))], [(.st 3)], 0, 35⟩, fun x => z0l n x.1 x.2.1 x.2.2.1⟩), (1, ⟨⟨[(5, (.d (.int .i64))), (1, (.d (.int .i64))), (2, (.ptr 0 0))], [(.st 3)], 0, 35⟩, fun x => z1b n x.1 x.2.1 x.2.2.1⟩)]) (ann [(5, 0), (14, 1)] (Tryz.f58.body.getD .skip) 0).1
noncomputable def y75 : List (FI dat) := [zah] ++ []
theorem y5d : (zah).Good Tryz.prog dat (tb y75) := FI.yz4 (hD := zz2 _) Tryz.func58 Tryz.ntmps58 Tryz.call58 (by kernel_rfl) (of_decide_eq_true (by kernel_rfl)) (by kernel_rfl) (fun n => by kernel_rfl) (fun x => by kernel_rfl) (fun _ => rfl) ⟨fun _ => rfl, fun _ => rfl, trivial⟩
 (fun n => fun x => (z3k.eq_2 x.1 x.2.1 n).trans (by kernel_rfl))
 (fun n => ⟨fun x => (z0l.eq_2 x.1 x.2.1 x.2.2.1 n).trans (by kernel_rfl),
  fun x => (z1b.eq_2 x.1 x.2.1 x.2.2.1 n).trans (by kernel_rfl),
  trivial⟩)
 (fun x => .inl rfl)
theorem y4n : OkL Tryz.prog [zah] := z3y (zz2 _) (bs := []) trivial ⟨y5d, trivial⟩
theorem y0j : FOk Tryz.prog zah := y4n.1
mutual
def z2v : Nat → zz0 → Option Int
 | 0, _ => none
 | n + 1, a0 =>
   z1k n 0 1 a0.re
def z1k : Nat → Int → Int → zz0 → Option Int
 | 0, _, _, _ => none
 | n + 1, a0, a1, a2 =>
   pIf (decide (a0 < (a2.list.length : Int)))
     (z1c n a0 a1 (a2.kind == 4) a2.re)
     (z1c n a0 a1 false a2.re)
def z1c : Nat → Int → Int → Bool → zz0 → Option Int
 | 0, _, _, _, _ => none
 | n + 1, a0, a1, a2, a3 =>
   pIf a2
     ((ix a3.list a0).bind fun x0 =>
     (z2v n x0.re).bind fun y1 =>
     z1k n (IntKind.i64.wrap (a0 + 1)) (IntKind.i64.wrap (a1 + y1)) a3.re)
     (some a1)
end
def y4s : LSh := ⟨[(2, (.d (.int .i64)))], [], 0, 26⟩
noncomputable def z7m : FI dat := FI.of dat 59 26 0 [(.d (.st 3))] [] [(.d (.int .i64))] [] true y4s (R := Int) (fun x => x.1) (fun r => (r, ())) (fun n x => z2v n x.1)
 (fun n => [(0, ⟨⟨[(4, (.d (.int .i64))), (1, (.ptr 0 0)), (3, (.d (.int .i64)))], [(.st 3)], 0, 26⟩, fun x => z1k n x.1 x.2.1 x.2.2.1⟩), (1, ⟨⟨[(1, (.ptr 0 0)), (4, (.d (.int .i64))), (3, (.d (.int .i64))), (14, (.d .bool))], [(.st 3)], 0, 26⟩, fun x => z1c n x.1 x.2.1 x.2.2.1 x.2.2.2.1⟩)]) (ann [(8, 0), (12, 1)] (Tryz.f59.body.getD .skip) 0).1
noncomputable def y72 : List (FI dat) := [z7m] ++ []
theorem y3w : (z7m).Good Tryz.prog dat (tb y72) := FI.yz4 (hD := zz2 _) Tryz.func59 Tryz.ntmps59 Tryz.call59 (by kernel_rfl) (of_decide_eq_true (by kernel_rfl)) (by kernel_rfl) (fun n => by kernel_rfl) (fun x => by kernel_rfl) (fun _ => rfl) ⟨fun _ => rfl, fun _ => rfl, trivial⟩
 (fun n => fun x => (z2v.eq_2 x.1 n).trans (by kernel_rfl))
 (fun n => ⟨fun x => (z1k.eq_2 x.1 x.2.1 x.2.2.1 n).trans (by kernel_rfl),
  fun x => (z1c.eq_2 x.1 x.2.1 x.2.2.1 x.2.2.2.1 n).trans (by kernel_rfl),
  trivial⟩)
 (fun x => .inl rfl)
theorem y4q : OkL Tryz.prog [z7m] := z3y (zz2 _) (bs := []) trivial ⟨y3w, trivial⟩
theorem zqx : FOk Tryz.prog z7m := y4q.1
def z2t : Nat → zz0 → Option Bool
 | 0, _ => none
 | n + 1, a0 =>
   (z3k n a0.re 10).bind fun y0 =>
   pIf y0
     (some true)
     ((z2v n a0.re).bind fun y1 =>
     some (decide (y1 > 150)))
def y5f : LSh := ⟨[(2, (.d .bool))], [], 0, 10⟩
noncomputable def z66 : FI dat := FI.of dat 31 10 0 [(.d (.st 3))] [] [(.d .bool)] [] true y5f (R := Bool) (fun x => x.1) (fun r => (r, ())) (fun n x => z2t n x.1)
 (fun n => []) (ann [] (Tryz.f31.body.getD .skip) 0).1
noncomputable def y3q : List (FI dat) := [zah, z7m]
theorem y5k : (z66).Good Tryz.prog dat (tb y3q) := FI.yz4 (hD := zz2 _) Tryz.func31 Tryz.ntmps31 Tryz.call31 (by kernel_rfl) (of_decide_eq_true (by kernel_rfl)) (by kernel_rfl) (fun n => by kernel_rfl) (fun x => by kernel_rfl) (fun _ => rfl) trivial
 (fun n => fun x => (z2t.eq_2 x.1 n).trans (by kernel_rfl))
 (fun n => trivial)
 (fun x => .inl rfl)
theorem y6z : OkL Tryz.prog [z66] := zzb (zz2 _) (bs := [zah, z7m]) ⟨y0j, zqx, trivial⟩ y5k
theorem zjj : FOk Tryz.prog z66 := y6z.1
mutual
def z3n : Nat → zz1 → Int → Option Bool
 | 0, _, _ => none
 | n + 1, a0, a1 =>
   pIf (a1 == 0)
     (zzz n a1 true a0.re)
     (pIf (decide ((a0.args.length : Int) > 150))
       (zzz n a1 true a0.re)
       (pIf (decide ((a0.name.length : Int) > 200))
         (zzz n a1 true a0.re)
         ((z2t n a0.value.re).bind fun y0 =>
         zzz n a1 y0 a0.re)))
def zzz : Nat → Int → Bool → zz1 → Option Bool
 | 0, _, _, _ => none
 | n + 1, a0, a1, a2 =>
   pIf a1
     (some true)
     (z1g n 0 a0 a2.re)
def z1g : Nat → Int → Int → zz1 → Option Bool
 | 0, _, _, _ => none
 | n + 1, a0, a1, a2 =>
   pIf (decide (a0 < (a2.args.length : Int)))
     ((ix a2.args a0).bind fun x1 =>
     (z3n n x1.re (IntKind.i64.wrap (a1 - 1))).bind fun y2 =>
     pIf y2
       (some true)
       (z1g n (IntKind.i64.wrap (a0 + 1)) a1 a2.re))
     (some false)
end
def y6a : LSh := ⟨[(4, (.d .bool))], [], 0, 40⟩
noncomputable def zak : FI dat := FI.of dat 35 40 0 [(.d (.st 4)), (.d (.int .i64))] [] [(.d .bool)] [] true y6a (R := Bool) (fun x => x.1) (fun r => (r, ())) (fun n x => z3n n x.1 x.2.1)
 (fun n => [(0, ⟨⟨[(1, (.d (.int .i64))), (2, (.ptr 0 0)), (24, (.d .bool))], [(.st 4)], 0, 40⟩, fun x => zzz n x.1 x.2.1 x.2.2.1⟩), (1, ⟨⟨[(5, (.d (.int .i64))), (1, (.d (.int .i64))), (2, (.ptr 0 0))], [(.st 4)], 0, 40⟩, fun x => z1g n x.1 x.2.1 x.2.2.1⟩)]) (ann [(5, 0), (14, 1)] (Tryz.f35.body.getD .skip) 0).1
noncomputable def y6i : List (FI dat) := [zak] ++ [z66]
theorem y6m : (zak).Good Tryz.prog dat (tb y6i) := FI.yz4 (hD := zz2 _) Tryz.func35 Tryz.ntmps35 Tryz.call35 (by kernel_rfl) (of_decide_eq_true (by kernel_rfl)) (by kernel_rfl) (fun n => by kernel_rfl) (fun x => by kernel_rfl) (fun _ => rfl) ⟨fun _ => rfl, fun _ => rfl, trivial⟩
 (fun n => fun x => (z3n.eq_2 x.1 x.2.1 n).trans (by kernel_rfl))
 (fun n => ⟨fun x => (zzz.eq_2 x.1 x.2.1 x.2.2.1 n).trans (by kernel_rfl),
  fun x => (z1g.eq_2 x.1 x.2.1 x.2.2.1 n).trans (by kernel_rfl),
  trivial⟩)
 (fun x => .inl rfl)
theorem y3o : OkL Tryz.prog [zak] := z3y (zz2 _) (bs := [z66]) ⟨zjj, trivial⟩ ⟨y6m, trivial⟩
theorem y1f : FOk Tryz.prog zak := y3o.1
mutual
def z2a : Nat → zz1 → Option Int
 | 0, _ => none
 | n + 1, a0 =>
   z1j n 0 1 a0.re
def z1j : Nat → Int → Int → zz1 → Option Int
 | 0, _, _, _ => none
 | n + 1, a0, a1, a2 =>
   pIf (decide (a0 < (a2.args.length : Int)))
     ((ix a2.args a0).bind fun x0 =>
     (z2a n x0.re).bind fun y1 =>
     z1j n (IntKind.i64.wrap (a0 + 1)) (IntKind.i64.wrap (a1 + y1)) a2.re)
     (some a1)
end
def y3t : LSh := ⟨[(2, (.d (.int .i64)))], [], 0, 21⟩
noncomputable def z5c : FI dat := FI.of dat 36 21 0 [(.d (.st 4))] [] [(.d (.int .i64))] [] true y3t (R := Int) (fun x => x.1) (fun r => (r, ())) (fun n x => z2a n x.1)
 (fun n => [(0, ⟨⟨[(4, (.d (.int .i64))), (1, (.ptr 0 0)), (3, (.d (.int .i64)))], [(.st 4)], 0, 21⟩, fun x => z1j n x.1 x.2.1 x.2.2.1⟩)]) (ann [(8, 0)] (Tryz.f36.body.getD .skip) 0).1
noncomputable def y5y : List (FI dat) := [z5c] ++ []
theorem y5h : (z5c).Good Tryz.prog dat (tb y5y) := FI.yz4 (hD := zz2 _) Tryz.func36 Tryz.ntmps36 Tryz.call36 (by kernel_rfl) (of_decide_eq_true (by kernel_rfl)) (by kernel_rfl) (fun n => by kernel_rfl) (fun x => by kernel_rfl) (fun _ => rfl) ⟨fun _ => rfl, trivial⟩
 (fun n => fun x => (z2a.eq_2 x.1 n).trans (by kernel_rfl))
 (fun n => ⟨fun x => (z1j.eq_2 x.1 x.2.1 x.2.2.1 n).trans (by kernel_rfl),
  trivial⟩)
 (fun x => .inl rfl)
theorem y5e : OkL Tryz.prog [z5c] := z3y (zz2 _) (bs := []) trivial ⟨y5h, trivial⟩
theorem zjd : FOk Tryz.prog z5c := y5e.1
def z3i : Nat → zz1 → Option Bool
 | 0, _ => none
 | n + 1, a0 =>
   (z3n n a0.re 16).bind fun y0 =>
   pIf y0
     (some true)
     ((z2a n a0.re).bind fun y1 =>
     some (decide (y1 > 150)))
def y6h : LSh := ⟨[(2, (.d .bool))], [], 0, 10⟩
noncomputable def z8w : FI dat := FI.of dat 10 10 0 [(.d (.st 4))] [] [(.d .bool)] [] true y6h (R := Bool) (fun x => x.1) (fun r => (r, ())) (fun n x => z3i n x.1)
 (fun n => []) (ann [] (Tryz.f10.body.getD .skip) 0).1
noncomputable def y6r : List (FI dat) := [zak, z5c]
theorem y4b : (z8w).Good Tryz.prog dat (tb y6r) := FI.yz4 (hD := zz2 _) Tryz.func10 Tryz.ntmps10 Tryz.call10 (by kernel_rfl) (of_decide_eq_true (by kernel_rfl)) (by kernel_rfl) (fun n => by kernel_rfl) (fun x => by kernel_rfl) (fun _ => rfl) trivial
 (fun n => fun x => (z3i.eq_2 x.1 n).trans (by kernel_rfl))
 (fun n => trivial)
 (fun x => .inl rfl)
theorem y60 : OkL Tryz.prog [z8w] := zzb (zz2 _) (bs := [zak, z5c]) ⟨y1f, zjd, trivial⟩ y4b
theorem zqa : FOk Tryz.prog z8w := y60.1
mutual
def z3s : Nat → zz1 → Option Int
 | 0, _ => none
 | n + 1, a0 =>
   z2k n 0 1 a0.re
def z2k : Nat → Int → Int → zz1 → Option Int
 | 0, _, _, _ => none
 | n + 1, a0, a1, a2 =>
   pIf (decide (a0 < (a2.args.length : Int)))
     ((ix a2.args a0).bind fun x0 =>
     (z3s n x0.re).bind fun y1 =>
     z2k n (IntKind.i64.wrap (a0 + 1)) (mxI a1 (IntKind.i64.wrap (1 + y1))) a2.re)
     (some a1)
end
def y9i : LSh := ⟨[(2, (.d (.int .i64)))], [], 0, 22⟩
noncomputable def z8n : FI dat := FI.of dat 67 22 0 [(.d (.st 4))] [] [(.d (.int .i64))] [] true y9i (R := Int) (fun x => x.1) (fun r => (r, ())) (fun n x => z3s n x.1)
 (fun n => [(0, ⟨⟨[(4, (.d (.int .i64))), (1, (.ptr 0 0)), (3, (.d (.int .i64)))], [(.st 4)], 0, 22⟩, fun x => z2k n x.1 x.2.1 x.2.2.1⟩)]) (ann [(8, 0)] (Tryz.f67.body.getD .skip) 0).1
noncomputable def yav : List (FI dat) := [z8n] ++ []
theorem ybz : (z8n).Good Tryz.prog dat (tb yav) := FI.yz4 (hD := zz2 _) Tryz.func67 Tryz.ntmps67 Tryz.call67 (by kernel_rfl) (of_decide_eq_true (by kernel_rfl)) (by kernel_rfl) (fun n => by kernel_rfl) (fun x => by kernel_rfl) (fun _ => rfl) ⟨fun _ => rfl, trivial⟩
 (fun n => fun x => (z3s.eq_2 x.1 n).trans (by kernel_rfl))
 (fun n => ⟨fun x => (z2k.eq_2 x.1 x.2.1 x.2.2.1 n).trans (by kernel_rfl),
  trivial⟩)
 (fun x => .inl rfl)
theorem yah : OkL Tryz.prog [z8n] := z3y (zz2 _) (bs := []) trivial ⟨ybz, trivial⟩
theorem ztb : FOk Tryz.prog z8n := yah.1
mutual
def z4v : Nat → Int → Option Int
 | 0, _ => none
 | n + 1, a0 =>
   pIf (a0 == 1)
     (z30 n a0 true)
     (z30 n a0 (a0 == 2))
def z30 : Nat → Int → Bool → Option Int
 | 0, _, _ => none
 | n + 1, a0, a1 =>
   pIf a1
     (some 0)
     (pIf (decide (a0 ≥ 3))
       (pIf (decide (a0 ≤ 10))
         (kzn n a0 true)
         (pIf (a0 == 13)
           (kzn n a0 true)
           (pIf (a0 == 14)
             (kzn n a0 true)
             (kzn n a0 (a0 == 17)))))
       (pIf (a0 == 13)
         (kzn n a0 true)
         (pIf (a0 == 14)
           (kzn n a0 true)
           (kzn n a0 (a0 == 17)))))
def kzn : Nat → Int → Bool → Option Int
 | 0, _, _ => none
 | n + 1, a0, a1 =>
   pIf a1
     (some 2)
     (pIf (a0 == 11)
       (z2g n a0 true)
       (pIf (a0 == 15)
         (z2g n a0 true)
         (z2g n a0 (a0 == 16))))
def z2g : Nat → Int → Bool → Option Int
 | 0, _, _ => none
 | n + 1, a0, a1 =>
   pIf a1
     (some 1)
     (pIf (a0 == 12)
       (some 3)
       (pIf (a0 == 18)
         (some (-1))
         (some (-2))))
end
def y9f : LSh := ⟨[(2, (.d (.int .i64)))], [], 0, 46⟩
noncomputable def z9s : FI dat := FI.of dat 97 46 0 [(.d (.int .u8))] [] [(.d (.int .i64))] [] true y9f (R := Int) (fun x => x.1) (fun r => (r, ())) (fun n x => z4v n x.1)
 (fun n => [(0, ⟨⟨[(0, (.d (.int .u8))), (3, (.d .bool))], [], 0, 46⟩, fun x => z30 n x.1 x.2.1⟩), (1, ⟨⟨[(0, (.d (.int .u8))), (10, (.d .bool))], [], 0, 46⟩, fun x => kzn n x.1 x.2.1⟩), (2, ⟨⟨[(0, (.d (.int .u8))), (29, (.d .bool))], [], 0, 46⟩, fun x => z2g n x.1 x.2.1⟩)]) (ann [(6, 0), (12, 1), (18, 2)] (Tryz.f97.body.getD .skip) 0).1
noncomputable def yam : List (FI dat) := []
theorem yba : (z9s).Good Tryz.prog dat (tb yam) := FI.yz4 (hD := zz2 _) Tryz.func97 Tryz.ntmps97 Tryz.call97 (by kernel_rfl) (of_decide_eq_true (by kernel_rfl)) (by kernel_rfl) (fun n => by kernel_rfl) (fun x => by kernel_rfl) (fun _ => rfl) ⟨fun _ => rfl, fun _ => rfl, fun _ => rfl, trivial⟩
 (fun n => fun x => (z4v.eq_2 x.1 n).trans (by kernel_rfl))
 (fun n => ⟨fun x => (z30.eq_2 x.1 x.2.1 n).trans (by kernel_rfl),
  fun x => (kzn.eq_2 x.1 x.2.1 n).trans (by kernel_rfl),
  fun x => (z2g.eq_2 x.1 x.2.1 n).trans (by kernel_rfl),
  trivial⟩)
 (fun x => .inl rfl)
theorem y9d : OkL Tryz.prog [z9s] := zzb (zz2 _) (bs := []) trivial yba
theorem ztj : FOk Tryz.prog z9s := y9d.1
end Go.Proofs.YtfhpamcehnfhoaaGreatDoor


namespace Go.Proofs.YtfhpamcehnfhoaaGreatDoor
open Go Go.Ab
set_option linter.unusedVariables false
set_option maxRecDepth 100000
mutual
def z4t : Nat → zz0 → Option Int
 | 0, _ => none
 | n + 1, a0 =>
   z2l n 0 1 a0.re
def z2l : Nat → Int → Int → zz0 → Option Int
 | 0, _, _, _ => none
 | n + 1, a0, a1, a2 =>
   pIf (decide (a0 < (a2.list.length : Int)))
     (z2h n a0 a1 (a2.kind == 4) a2.re)
     (z2h n a0 a1 false a2.re)
def z2h : Nat → Int → Int → Bool → zz0 → Option Int
 | 0, _, _, _, _ => none
 | n + 1, a0, a1, a2, a3 =>
   pIf a2
     ((ix a3.list a0).bind fun x0 =>
     (z4t n x0.re).bind fun y1 =>
     z2l n (IntKind.i64.wrap (a0 + 1)) (mxI a1 (IntKind.i64.wrap (1 + y1))) a3.re)
     (some a1)
end
def ycc : LSh := ⟨[(2, (.d (.int .i64)))], [], 0, 27⟩
noncomputable def zc0 : FI dat := FI.of dat 88 27 0 [(.d (.st 3))] [] [(.d (.int .i64))] [] true ycc (R := Int) (fun x => x.1) (fun r => (r, ())) (fun n x => z4t n x.1)
 (fun n => [(0, ⟨⟨[(4, (.d (.int .i64))), (1, (.ptr 0 0)), (3, (.d (.int .i64)))], [(.st 3)], 0, 27⟩, fun x => z2l n x.1 x.2.1 x.2.2.1⟩), (1, ⟨⟨[(1, (.ptr 0 0)), (4, (.d (.int .i64))), (3, (.d (.int .i64))), (14, (.d .bool))], [(.st 3)], 0, 27⟩, fun x => z2h n x.1 x.2.1 x.2.2.1 x.2.2.2.1⟩)]) (ann [(8, 0), (12, 1)] (Tryz.f88.body.getD .skip) 0).1
noncomputable def ybt : List (FI dat) := [zc0] ++ []
theorem yae : (zc0).Good Tryz.prog dat (tb ybt) := FI.yz4 (hD := zz2 _) Tryz.func88 Tryz.ntmps88 Tryz.call88 (by kernel_rfl) (of_decide_eq_true (by kernel_rfl)) (by kernel_rfl) (fun n => by kernel_rfl) (fun x => by kernel_rfl) (fun _ => rfl) ⟨fun _ => rfl, fun _ => rfl, trivial⟩
 (fun n => fun x => (z4t.eq_2 x.1 n).trans (by kernel_rfl))
 (fun n => ⟨fun x => (z2l.eq_2 x.1 x.2.1 x.2.2.1 n).trans (by kernel_rfl),
  fun x => (z2h.eq_2 x.1 x.2.1 x.2.2.1 x.2.2.2.1 n).trans (by kernel_rfl),
  trivial⟩)
 (fun x => .inl rfl)
theorem y9b : OkL Tryz.prog [zc0] := z3y (zz2 _) (bs := []) trivial ⟨yae, trivial⟩
theorem y5l : FOk Tryz.prog zc0 := y9b.1
mutual
def z3u : Nat → Int → Int → Option Int
 | 0, _, _ => none
 | n + 1, a0, a1 =>
   z0s n a1 a0
def z0s : Nat → Int → Int → Option Int
 | 0, _, _ => none
 | n + 1, a0, a1 =>
   pIf (a0 != 0)
     ((rem .i64 a1 a0).bind fun x0 =>
     z0s n x0 a0)
     (pIf (decide (a1 < 0))
       (some (IntKind.i64.wrap (0 - a1)))
       (some a1))
end
def y2g : LSh := ⟨[(4, (.d (.int .i64)))], [], 0, 16⟩
noncomputable def zbh : FI dat := FI.of dat 150 16 0 [(.d (.int .i64)), (.d (.int .i64))] [] [(.d (.int .i64))] [] true y2g (R := Int) (fun x => x.1) (fun r => (r, ())) (fun n x => z3u n x.1 x.2.1)
 (fun n => [(0, ⟨⟨[(1, (.d (.int .i64))), (0, (.d (.int .i64)))], [], 0, 16⟩, fun x => z0s n x.1 x.2.1⟩)]) (ann [(4, 0)] (Tryz.f150.body.getD .skip) 0).1
noncomputable def y0y : List (FI dat) := []
theorem y2w : (zbh).Good Tryz.prog dat (tb y0y) := FI.yz4 (hD := zz2 _) Tryz.func150 Tryz.ntmps150 Tryz.call150 (by kernel_rfl) (of_decide_eq_true (by kernel_rfl)) (by kernel_rfl) (fun n => by kernel_rfl) (fun x => by kernel_rfl) (fun _ => rfl) ⟨fun _ => rfl, trivial⟩
 (fun n => fun x => (z3u.eq_2 x.1 x.2.1 n).trans (by kernel_rfl))
 (fun n => ⟨fun x => (z0s.eq_2 x.1 x.2.1 n).trans (by kernel_rfl),
  trivial⟩)
 (fun x => .inl rfl)
theorem y33 : OkL Tryz.prog [zbh] := zzb (zz2 _) (bs := []) trivial y2w
theorem zyg : FOk Tryz.prog zbh := y33.1
mutual
def z4q : Nat → yz1 → Option Int
 | 0, _ => none
 | n + 1, a0 =>
   pIf (decide (a0.den < 1))
     (kzr n true)
     (pIf (decide (a0.den > 1000000000))
       (kzr n true)
       (pIf (decide (a0.num < (-1000000000)))
         (kzr n true)
         (pIf (decide (a0.num > 1000000000))
           (kzr n true)
           ((z3u n a0.num a0.den).bind fun y0 =>
           kzr n (y0 != 1)))))
def kzr : Nat → Bool → Option Int
 | 0, _ => none
 | n + 1, a0 =>
   pIf a0
     (some 8)
     (some 0)
end
def y4o : LSh := ⟨[(2, (.d (.int .i64)))], [], 0, 29⟩
noncomputable def zdl : FI dat := FI.of dat 115 29 0 [(.d (.st 2))] [] [(.d (.int .i64))] [] true y4o (R := Int) (fun x => x.1) (fun r => (r, ())) (fun n x => z4q n x.1)
 (fun n => [(0, ⟨⟨[(28, (.d .bool))], [], 0, 29⟩, fun x => kzr n x.1⟩)]) (ann [(5, 0)] (Tryz.f115.body.getD .skip) 0).1
noncomputable def y4u : List (FI dat) := [zbh]
theorem y6y : (zdl).Good Tryz.prog dat (tb y4u) := FI.yz4 (hD := zz2 _) Tryz.func115 Tryz.ntmps115 Tryz.call115 (by kernel_rfl) (of_decide_eq_true (by kernel_rfl)) (by kernel_rfl) (fun n => by kernel_rfl) (fun x => by kernel_rfl) (fun _ => rfl) ⟨fun _ => rfl, trivial⟩
 (fun n => fun x => (z4q.eq_2 x.1 n).trans (by kernel_rfl))
 (fun n => ⟨fun x => (kzr.eq_2 x.1 n).trans (by kernel_rfl),
  trivial⟩)
 (fun x => .inl rfl)
theorem y4d : OkL Tryz.prog [zdl] := zzb (zz2 _) (bs := [zbh]) ⟨zyg, trivial⟩ y6y
theorem y0x : FOk Tryz.prog zdl := y4d.1
mutual
def z4o : Nat → zz0 → Option Bool
 | 0, _ => none
 | n + 1, a0 =>
   pIf (a0.kind == 1)
     ((z4q n a0.num).bind fun y0 =>
     pIf (y0 == 0)
       (pIf (!a0.truth)
         (pIf ((a0.str.length : Int) == 0)
           (some ((a0.list.length : Int) == 0))
           (some false))
         (some false))
       (some false))
     (pIf (a0.kind == 2)
       (pIf ((a0.num.num == 0) && ((a0.num.den == 0) && true))
         (pIf ((a0.str.length : Int) == 0)
           (some ((a0.list.length : Int) == 0))
           (some false))
         (some false))
       (pIf (a0.kind == 3)
         (pIf (!((a0.num.num == 0) && ((a0.num.den == 0) && true)))
           (z03 n true a0.re)
           (pIf a0.truth
             (z03 n true a0.re)
             (pIf (decide ((a0.list.length : Int) > 0))
               (z03 n true a0.re)
               (z03 n (decide ((a0.str.length : Int) > 60)) a0.re))))
         (pIf (a0.kind == 4)
           (pIf (!((a0.num.num == 0) && ((a0.num.den == 0) && true)))
             (z0j n true a0.re)
             (pIf a0.truth
               (z0j n true a0.re)
               (z0j n (decide ((a0.str.length : Int) > 0)) a0.re)))
           (some false))))
def z03 : Nat → Bool → zz0 → Option Bool
 | 0, _, _ => none
 | n + 1, a0, a1 =>
   pIf a0
     (some false)
     (z2f n 0 a1.re)
def z2f : Nat → Int → zz0 → Option Bool
 | 0, _, _ => none
 | n + 1, a0, a1 =>
   pIf (decide (a0 < (a1.str.length : Int)))
     ((ix a1.str a0).bind fun x1 =>
     pIf (decide ((x1.toNat : Int) < 32))
       (z1w n a0 true a1.re)
       ((ix a1.str a0).bind fun x2 =>
       z1w n a0 (decide ((x2.toNat : Int) > 126)) a1.re))
     (some true)
def z1w : Nat → Int → Bool → zz0 → Option Bool
 | 0, _, _, _ => none
 | n + 1, a0, a1, a2 =>
   pIf a1
     (some false)
     (z2f n (IntKind.i64.wrap (a0 + 1)) a2.re)
def z0j : Nat → Bool → zz0 → Option Bool
 | 0, _, _ => none
 | n + 1, a0, a1 =>
   pIf a0
     (some false)
     (z2d n 0 a1.re)
def z2d : Nat → Int → zz0 → Option Bool
 | 0, _, _ => none
 | n + 1, a0, a1 =>
   pIf (decide (a0 < (a1.list.length : Int)))
     ((ix a1.list a0).bind fun x3 =>
     (z4o n x3.re).bind fun y4 =>
     pIf (!y4)
       (some false)
       (z2d n (IntKind.i64.wrap (a0 + 1)) a1.re))
     (some true)
end
def yak : LSh := ⟨[(2, (.d .bool))], [], 0, 121⟩
noncomputable def zbr : FI dat := FI.of dat 89 121 0 [(.d (.st 3))] [] [(.d .bool)] [] true yak (R := Bool) (fun x => x.1) (fun r => (r, ())) (fun n x => z4o n x.1)
 (fun n => [(0, ⟨⟨[(1, (.ptr 0 0)), (71, (.d .bool))], [(.st 3)], 0, 121⟩, fun x => z03 n x.1 x.2.1⟩), (1, ⟨⟨[(4, (.d (.int .i64))), (1, (.ptr 0 0))], [(.st 3)], 0, 121⟩, fun x => z2f n x.1 x.2.1⟩), (2, ⟨⟨[(1, (.ptr 0 0)), (4, (.d (.int .i64))), (90, (.d .bool))], [(.st 3)], 0, 121⟩, fun x => z1w n x.1 x.2.1 x.2.2.1⟩), (3, ⟨⟨[(1, (.ptr 0 0)), (106, (.d .bool))], [(.st 3)], 0, 121⟩, fun x => z0j n x.1 x.2.1⟩), (4, ⟨⟨[(5, (.d (.int .i64))), (1, (.ptr 0 0))], [(.st 3)], 0, 121⟩, fun x => z2d n x.1 x.2.1⟩)]) (ann [(26, 0), (35, 1), (46, 2), (61, 3), (70, 4)] (Tryz.f89.body.getD .skip) 0).1
noncomputable def yaa : List (FI dat) := [zbr] ++ [zdl]
theorem y8i : (zbr).Good Tryz.prog dat (tb yaa) := FI.yz4 (hD := zz2 _) Tryz.func89 Tryz.ntmps89 Tryz.call89 (by kernel_rfl) (of_decide_eq_true (by kernel_rfl)) (by kernel_rfl) (fun n => by kernel_rfl) (fun x => by kernel_rfl) (fun _ => rfl) ⟨fun _ => rfl, fun _ => rfl, fun _ => rfl, fun _ => rfl, fun _ => rfl, trivial⟩
 (fun n => fun x => (z4o.eq_2 x.1 n).trans (by kernel_rfl))
 (fun n => ⟨fun x => (z03.eq_2 x.1 x.2.1 n).trans (by kernel_rfl),
  fun x => (z2f.eq_2 x.1 x.2.1 n).trans (by kernel_rfl),
  fun x => (z1w.eq_2 x.1 x.2.1 x.2.2.1 n).trans (by kernel_rfl),
  fun x => (z0j.eq_2 x.1 x.2.1 n).trans (by kernel_rfl),
  fun x => (z2d.eq_2 x.1 x.2.1 n).trans (by kernel_rfl),
  trivial⟩)
 (fun x => .inl rfl)
theorem y9z : OkL Tryz.prog [zbr] := z3y (zz2 _) (bs := [zdl]) ⟨y0x, trivial⟩ ⟨y8i, trivial⟩
theorem y6g : FOk Tryz.prog zbr := y9z.1
mutual
def z1x : Nat → zz0 → Option Int
 | 0, _ => none
 | n + 1, a0 =>
   (z2v n a0.re).bind fun y0 =>
   pIf (decide (y0 > 100))
     (z1e n true a0.re)
     ((z4t n a0.re).bind fun y1 =>
     z1e n (decide (y1 > 6)) a0.re)
def z1e : Nat → Bool → zz0 → Option Int
 | 0, _, _ => none
 | n + 1, a0, a1 =>
   pIf a0
     (some 4)
     ((z4o n a1.re).bind fun y2 =>
     pIf (!y2)
       (some 8)
       (some 0))
end
def y4h : LSh := ⟨[(2, (.d (.int .i64)))], [], 0, 14⟩
noncomputable def z68 : FI dat := FI.of dat 55 14 0 [(.d (.st 3))] [] [(.d (.int .i64))] [] true y4h (R := Int) (fun x => x.1) (fun r => (r, ())) (fun n x => z1x n x.1)
 (fun n => [(0, ⟨⟨[(1, (.ptr 0 0)), (10, (.d .bool))], [(.st 3)], 0, 14⟩, fun x => z1e n x.1 x.2.1⟩)]) (ann [(5, 0)] (Tryz.f55.body.getD .skip) 0).1
noncomputable def y4k : List (FI dat) := [z7m, zc0, zbr]
theorem y6q : (z68).Good Tryz.prog dat (tb y4k) := FI.yz4 (hD := zz2 _) Tryz.func55 Tryz.ntmps55 Tryz.call55 (by kernel_rfl) (of_decide_eq_true (by kernel_rfl)) (by kernel_rfl) (fun n => by kernel_rfl) (fun x => by kernel_rfl) (fun _ => rfl) ⟨fun _ => rfl, trivial⟩
 (fun n => fun x => (z1x.eq_2 x.1 n).trans (by kernel_rfl))
 (fun n => ⟨fun x => (z1e.eq_2 x.1 x.2.1 n).trans (by kernel_rfl),
  trivial⟩)
 (fun x => .inl rfl)
theorem y5z : OkL Tryz.prog [z68] := zzb (zz2 _) (bs := [z7m, zc0, zbr]) ⟨zqx, y5l, y6g, trivial⟩ y6q
theorem zku : FOk Tryz.prog z68 := y5z.1
mutual
def kzp : Nat → zz0 → zz0 → Option Bool
 | 0, _, _ => none
 | n + 1, a0, a1 =>
   pIf (a0.kind != a1.kind)
     (yzz n true a1.re a0.re)
     (pIf (!((a0.num.num == a1.num.num) && ((a0.num.den == a1.num.den) && true)))
       (yzz n true a1.re a0.re)
       (pIf (!(a0.truth == a1.truth))
         (yzz n true a1.re a0.re)
         (pIf (!(a0.str == a1.str))
           (yzz n true a1.re a0.re)
           (yzz n ((a0.list.length : Int) != (a1.list.length : Int)) a1.re a0.re))))
def yzz : Nat → Bool → zz0 → zz0 → Option Bool
 | 0, _, _, _ => none
 | n + 1, a0, a1, a2 =>
   pIf a0
     (some false)
     (z1z n 0 a1.re a2.re)
def z1z : Nat → Int → zz0 → zz0 → Option Bool
 | 0, _, _, _ => none
 | n + 1, a0, a1, a2 =>
   pIf (decide (a0 < (a2.list.length : Int)))
     ((ix a2.list a0).bind fun x0 =>
     (ix a1.list a0).bind fun x1 =>
     (kzp n x0.re x1.re).bind fun y2 =>
     pIf (!y2)
       (some false)
       (z1z n (IntKind.i64.wrap (a0 + 1)) a1.re a2.re))
     (some true)
end
def y9q : LSh := ⟨[(4, (.d .bool))], [], 0, 60⟩
noncomputable def z3d : FI dat := FI.of dat 23 60 0 [(.d (.st 3)), (.d (.st 3))] [] [(.d .bool)] [] true y9q (R := Bool) (fun x => x.1) (fun r => (r, ())) (fun n x => kzp n x.1 x.2.1)
 (fun n => [(0, ⟨⟨[(3, (.ptr 0 0)), (2, (.ptr 1 0)), (40, (.d .bool))], [(.st 3), (.st 3)], 0, 60⟩, fun x => yzz n x.1 x.2.1 x.2.2.1⟩), (1, ⟨⟨[(5, (.d (.int .i64))), (3, (.ptr 0 0)), (2, (.ptr 1 0))], [(.st 3), (.st 3)], 0, 60⟩, fun x => z1z n x.1 x.2.1 x.2.2.1⟩)]) (ann [(5, 0), (14, 1)] (Tryz.f23.body.getD .skip) 0).1
noncomputable def ya2 : List (FI dat) := [z3d] ++ []
theorem yc5 : (z3d).Good Tryz.prog dat (tb ya2) := FI.yz4 (hD := zz2 _) Tryz.func23 Tryz.ntmps23 Tryz.call23 (by kernel_rfl) (of_decide_eq_true (by kernel_rfl)) (by kernel_rfl) (fun n => by kernel_rfl) (fun x => by kernel_rfl) (fun _ => rfl) ⟨fun _ => rfl, fun _ => rfl, trivial⟩
 (fun n => fun x => (kzp.eq_2 x.1 x.2.1 n).trans (by kernel_rfl))
 (fun n => ⟨fun x => (yzz.eq_2 x.1 x.2.1 x.2.2.1 n).trans (by kernel_rfl),
  fun x => (z1z.eq_2 x.1 x.2.1 x.2.2.1 n).trans (by kernel_rfl),
  trivial⟩)
 (fun x => .inl rfl)
theorem y9t : OkL Tryz.prog [z3d] := z3y (zz2 _) (bs := []) trivial ⟨yc5, trivial⟩
theorem zdp : FOk Tryz.prog z3d := y9t.1
end Go.Proofs.YtfhpamcehnfhoaaGreatDoor


namespace Go.Proofs.YtfhpamcehnfhoaaGreatDoor
open Go Go.Ab
set_option linter.unusedVariables false
set_option maxRecDepth 100000
def z0o : Nat → Int → Option Bool
 | 0, _ => none
 | n + 1, a0 =>
   pIf (decide (a0 ≥ 97))
     (some (decide (a0 ≤ 122)))
     (some false)
def zjg : LSh := ⟨[(2, (.d .bool))], [], 0, 9⟩
noncomputable def z3g : FI dat := FI.of dat 86 9 0 [(.d (.int .u8))] [] [(.d .bool)] [] true zjg (R := Bool) (fun x => x.1) (fun r => (r, ())) (fun n x => z0o n x.1)
 (fun n => []) (ann [] (Tryz.f86.body.getD .skip) 0).1
noncomputable def zki : List (FI dat) := []
theorem zja : (z3g).Good Tryz.prog dat (tb zki) := FI.yz4 (hD := zz2 _) Tryz.func86 Tryz.ntmps86 Tryz.call86 (by kernel_rfl) (of_decide_eq_true (by kernel_rfl)) (by kernel_rfl) (fun n => by kernel_rfl) (fun x => by kernel_rfl) (fun _ => rfl) trivial
 (fun n => fun x => (z0o.eq_2 x.1 n).trans (by kernel_rfl))
 (fun n => trivial)
 (fun x => .inl rfl)
theorem zk7 : OkL Tryz.prog [z3g] := zzb (zz2 _) (bs := []) trivial zja
theorem zht : FOk Tryz.prog z3g := zk7.1
def z1f : Nat → Int → Option Bool
 | 0, _ => none
 | n + 1, a0 =>
   pIf (decide (a0 ≥ 48))
     (some (decide (a0 ≤ 57)))
     (some false)
def zmk : LSh := ⟨[(2, (.d .bool))], [], 0, 9⟩
noncomputable def z4k : FI dat := FI.of dat 87 9 0 [(.d (.int .u8))] [] [(.d .bool)] [] true zmk (R := Bool) (fun x => x.1) (fun r => (r, ())) (fun n x => z1f n x.1)
 (fun n => []) (ann [] (Tryz.f87.body.getD .skip) 0).1
noncomputable def zn4 : List (FI dat) := []
theorem zmj : (z4k).Good Tryz.prog dat (tb zn4) := FI.yz4 (hD := zz2 _) Tryz.func87 Tryz.ntmps87 Tryz.call87 (by kernel_rfl) (of_decide_eq_true (by kernel_rfl)) (by kernel_rfl) (fun n => by kernel_rfl) (fun x => by kernel_rfl) (fun _ => rfl) trivial
 (fun n => fun x => (z1f.eq_2 x.1 n).trans (by kernel_rfl))
 (fun n => trivial)
 (fun x => .inl rfl)
theorem zlw : OkL Tryz.prog [z4k] := zzb (zz2 _) (bs := []) trivial zmj
theorem zjs : FOk Tryz.prog z4k := zlw.1
mutual
def z0x : Nat → (List UInt8) → Option Bool
 | 0, _ => none
 | n + 1, a0 =>
   yzf n 0 a0
def yzf : Nat → Int → (List UInt8) → Option Bool
 | 0, _, _ => none
 | n + 1, a0, a1 =>
   pIf (decide (a0 < (a1.length : Int)))
     ((ix a1 a0).bind fun x0 =>
     (z0o n (x0.toNat : Int)).bind fun y1 =>
     pIf (!y1)
       (pIf (a0 == 0)
         (yze n a1 a0 true)
         ((ix a1 a0).bind fun x2 =>
         pIf ((x2.toNat : Int) != 45)
           ((ix a1 a0).bind fun x3 =>
           (z1f n (x3.toNat : Int)).bind fun y4 =>
           yze n a1 a0 (!y4))
           (yze n a1 a0 false)))
       (yze n a1 a0 false))
     (pIf (decide ((a1.length : Int) ≥ 1))
       (some (decide ((a1.length : Int) ≤ 40)))
       (some false))
def yze : Nat → (List UInt8) → Int → Bool → Option Bool
 | 0, _, _, _ => none
 | n + 1, a0, a1, a2 =>
   pIf a2
     (some false)
     (yzf n (IntKind.i64.wrap (a1 + 1)) a0)
end
def zoy : LSh := ⟨[(2, (.d .bool))], [], 0, 40⟩
noncomputable def z42 : FI dat := FI.of dat 54 40 0 [(.d .str)] [] [(.d .bool)] [] true zoy (R := Bool) (fun x => x.1) (fun r => (r, ())) (fun n x => z0x n x.1)
 (fun n => [(0, ⟨⟨[(3, (.d (.int .i64))), (0, (.d .str))], [], 0, 40⟩, fun x => yzf n x.1 x.2.1⟩), (1, ⟨⟨[(0, (.d .str)), (3, (.d (.int .i64))), (31, (.d .bool))], [], 0, 40⟩, fun x => yze n x.1 x.2.1 x.2.2.1⟩)]) (ann [(6, 0), (17, 1)] (Tryz.f54.body.getD .skip) 0).1
noncomputable def zpl : List (FI dat) := [z3g, z4k]
theorem zon : (z42).Good Tryz.prog dat (tb zpl) := FI.yz4 (hD := zz2 _) Tryz.func54 Tryz.ntmps54 Tryz.call54 (by kernel_rfl) (of_decide_eq_true (by kernel_rfl)) (by kernel_rfl) (fun n => by kernel_rfl) (fun x => by kernel_rfl) (fun _ => rfl) ⟨fun _ => rfl, fun _ => rfl, trivial⟩
 (fun n => fun x => (z0x.eq_2 x.1 n).trans (by kernel_rfl))
 (fun n => ⟨fun x => (yzf.eq_2 x.1 x.2.1 n).trans (by kernel_rfl),
  fun x => (yze.eq_2 x.1 x.2.1 x.2.2.1 n).trans (by kernel_rfl),
  trivial⟩)
 (fun x => .inl rfl)
theorem zpb : OkL Tryz.prog [z42] := zzb (zz2 _) (bs := [z3g, z4k]) ⟨zht, zjs, trivial⟩ zon
theorem zh2 : FOk Tryz.prog z42 := zpb.1
def z1i : Nat → (List UInt8) → Option Bool
 | 0, _ => none
 | n + 1, a0 =>
   (z0x n a0).bind fun y0 =>
   pIf y0
     (pIf (!(a0 == [116, 114, 117, 101]))
       (some (!(a0 == [102, 97, 108, 115, 101])))
       (some false))
     (some false)
def zlv : LSh := ⟨[(2, (.d .bool))], [], 0, 13⟩
noncomputable def z4j : FI dat := FI.of dat 98 13 0 [(.d .str)] [] [(.d .bool)] [] true zlv (R := Bool) (fun x => x.1) (fun r => (r, ())) (fun n x => z1i n x.1)
 (fun n => []) (ann [] (Tryz.f98.body.getD .skip) 0).1
noncomputable def zm0 : List (FI dat) := [z42]
theorem zmx : (z4j).Good Tryz.prog dat (tb zm0) := FI.yz4 (hD := zz2 _) Tryz.func98 Tryz.ntmps98 Tryz.call98 (by kernel_rfl) (of_decide_eq_true (by kernel_rfl)) (by kernel_rfl) (fun n => by kernel_rfl) (fun x => by kernel_rfl) (fun _ => rfl) trivial
 (fun n => fun x => (z1i.eq_2 x.1 n).trans (by kernel_rfl))
 (fun n => trivial)
 (fun x => .inl rfl)
theorem zmm : OkL Tryz.prog [z4j] := zzb (zz2 _) (bs := [z42]) ⟨zh2, trivial⟩ zmx
theorem zkt : FOk Tryz.prog z4j := zmm.1
mutual
def z0w : Nat → zz1 → Option Bool
 | 0, _ => none
 | n + 1, a0 =>
   (z4v n a0.op).bind fun y0 =>
   pIf (y0 == (-2))
     (zzi n true a0.re)
     (pIf (decide (y0 ≥ 0))
       (zzi n ((a0.args.length : Int) != y0) a0.re)
       (zzi n false a0.re))
def zzi : Nat → Bool → zz1 → Option Bool
 | 0, _, _ => none
 | n + 1, a0, a1 =>
   pIf a0
     (some false)
     (pIf (a1.op == 1)
       ((z1x n a1.value.re).bind fun y1 =>
       pIf (y1 != 0)
         (yza n true a1.re)
         (pIf (a1.value.kind == 4)
           (yza n true a1.re)
           (pIf (a1.op != 1)
             ((kzp n a1.value.re (zz0.mk 0 (yz1.mk 0 0) false [] [])).bind fun y2 =>
             yza n (!y2) a1.re)
             (yza n false a1.re))))
       (pIf (a1.op != 1)
         ((kzp n a1.value.re (zz0.mk 0 (yz1.mk 0 0) false [] [])).bind fun y3 =>
         yza n (!y3) a1.re)
         (yza n false a1.re)))
def yza : Nat → Bool → zz1 → Option Bool
 | 0, _, _ => none
 | n + 1, a0, a1 =>
   pIf a0
     (some false)
     (pIf (a1.op == 2)
       ((z1i n a1.name).bind fun y4 =>
       pIf (!y4)
         (zzd n true a1.re)
         (pIf (a1.op != 2)
           (zzd n (decide ((a1.name.length : Int) > 0)) a1.re)
           (zzd n false a1.re)))
       (pIf (a1.op != 2)
         (zzd n (decide ((a1.name.length : Int) > 0)) a1.re)
         (zzd n false a1.re)))
def zzd : Nat → Bool → zz1 → Option Bool
 | 0, _, _ => none
 | n + 1, a0, a1 =>
   pIf a0
     (some false)
     (zzo n 0 a1.re)
def zzo : Nat → Int → zz1 → Option Bool
 | 0, _, _ => none
 | n + 1, a0, a1 =>
   pIf (decide (a0 < (a1.args.length : Int)))
     ((ix a1.args a0).bind fun x5 =>
     (z0w n x5.re).bind fun y6 =>
     pIf (!y6)
       (some false)
       (zzo n (IntKind.i64.wrap (a0 + 1)) a1.re))
     (some true)
end
def zp5 : LSh := ⟨[(2, (.d .bool))], [], 0, 82⟩
noncomputable def z3z : FI dat := FI.of dat 68 82 0 [(.d (.st 4))] [] [(.d .bool)] [] true zp5 (R := Bool) (fun x => x.1) (fun r => (r, ())) (fun n x => z0w n x.1)
 (fun n => [(0, ⟨⟨[(1, (.ptr 0 0)), (20, (.d .bool))], [(.st 4)], 0, 82⟩, fun x => zzi n x.1 x.2.1⟩), (1, ⟨⟨[(1, (.ptr 0 0)), (47, (.d .bool))], [(.st 4)], 0, 82⟩, fun x => yza n x.1 x.2.1⟩), (2, ⟨⟨[(1, (.ptr 0 0)), (67, (.d .bool))], [(.st 4)], 0, 82⟩, fun x => zzd n x.1 x.2.1⟩), (3, ⟨⟨[(4, (.d (.int .i64))), (1, (.ptr 0 0))], [(.st 4)], 0, 82⟩, fun x => zzo n x.1 x.2.1⟩)]) (ann [(7, 0), (15, 1), (23, 2), (32, 3)] (Tryz.f68.body.getD .skip) 0).1
noncomputable def zog : List (FI dat) := [z3z] ++ [z9s, z68, z3d, z4j]
theorem zph : (z3z).Good Tryz.prog dat (tb zog) := FI.yz4 (hD := zz2 _) Tryz.func68 Tryz.ntmps68 Tryz.call68 (by kernel_rfl) (of_decide_eq_true (by kernel_rfl)) (by kernel_rfl) (fun n => by kernel_rfl) (fun x => by kernel_rfl) (fun _ => rfl) ⟨fun _ => rfl, fun _ => rfl, fun _ => rfl, fun _ => rfl, trivial⟩
 (fun n => fun x => (z0w.eq_2 x.1 n).trans (by kernel_rfl))
 (fun n => ⟨fun x => (zzi.eq_2 x.1 x.2.1 n).trans (by kernel_rfl),
  fun x => (yza.eq_2 x.1 x.2.1 n).trans (by kernel_rfl),
  fun x => (zzd.eq_2 x.1 x.2.1 n).trans (by kernel_rfl),
  fun x => (zzo.eq_2 x.1 x.2.1 n).trans (by kernel_rfl),
  trivial⟩)
 (fun x => .inl rfl)
theorem zoe : OkL Tryz.prog [z3z] := z3y (zz2 _) (bs := [z9s, z68, z3d, z4j]) ⟨ztj, zku, zdp, zkt, trivial⟩ ⟨zph, trivial⟩
theorem zma : FOk Tryz.prog z3z := zoe.1
mutual
def z19 : Nat → zz1 → Option Int
 | 0, _ => none
 | n + 1, a0 =>
   (z2a n a0.re).bind fun y0 =>
   pIf (decide (y0 > 100))
     (kzj n true a0.re)
     ((z3s n a0.re).bind fun y1 =>
     kzj n (decide (y1 > 12)) a0.re)
def kzj : Nat → Bool → zz1 → Option Int
 | 0, _, _ => none
 | n + 1, a0, a1 =>
   pIf a0
     (some 4)
     ((z0w n a1.re).bind fun y2 =>
     pIf (!y2)
       (some 8)
       (some 0))
end
def zmg : LSh := ⟨[(2, (.d (.int .i64)))], [], 0, 14⟩
noncomputable def z4p : FI dat := FI.of dat 40 14 0 [(.d (.st 4))] [] [(.d (.int .i64))] [] true zmg (R := Int) (fun x => x.1) (fun r => (r, ())) (fun n x => z19 n x.1)
 (fun n => [(0, ⟨⟨[(1, (.ptr 0 0)), (10, (.d .bool))], [(.st 4)], 0, 14⟩, fun x => kzj n x.1 x.2.1⟩)]) (ann [(5, 0)] (Tryz.f40.body.getD .skip) 0).1
noncomputable def zm1 : List (FI dat) := [z5c, z8n, z3z]
theorem zn2 : (z4p).Good Tryz.prog dat (tb zm1) := FI.yz4 (hD := zz2 _) Tryz.func40 Tryz.ntmps40 Tryz.call40 (by kernel_rfl) (of_decide_eq_true (by kernel_rfl)) (by kernel_rfl) (fun n => by kernel_rfl) (fun x => by kernel_rfl) (fun _ => rfl) ⟨fun _ => rfl, trivial⟩
 (fun n => fun x => (z19.eq_2 x.1 n).trans (by kernel_rfl))
 (fun n => ⟨fun x => (kzj.eq_2 x.1 x.2.1 n).trans (by kernel_rfl),
  trivial⟩)
 (fun x => .inl rfl)
theorem zm8 : OkL Tryz.prog [z4p] := zzb (zz2 _) (bs := [z5c, z8n, z3z]) ⟨zjd, ztb, zma, trivial⟩ zn2
theorem zky : FOk Tryz.prog z4p := zm8.1
def kz7 : Nat → zz1 → Option Bool
 | 0, _ => none
 | n + 1, a0 =>
   (z3i n a0.re).bind fun y0 =>
   pIf (!y0)
     ((z19 n a0.re).bind fun y1 =>
     some (y1 == 0))
     (some false)
def zay : LSh := ⟨[(2, (.d .bool))], [], 0, 11⟩
noncomputable def yzk : FI dat := FI.of dat 27 11 0 [(.d (.st 4))] [] [(.d .bool)] [] true zay (R := Bool) (fun x => x.1) (fun r => (r, ())) (fun n x => kz7 n x.1)
 (fun n => []) (ann [] (Tryz.f27.body.getD .skip) 0).1
noncomputable def zb0 : List (FI dat) := [z8w, z4p]
theorem zbg : (yzk).Good Tryz.prog dat (tb zb0) := FI.yz4 (hD := zz2 _) Tryz.func27 Tryz.ntmps27 Tryz.call27 (by kernel_rfl) (of_decide_eq_true (by kernel_rfl)) (by kernel_rfl) (fun n => by kernel_rfl) (fun x => by kernel_rfl) (fun _ => rfl) trivial
 (fun n => fun x => (kz7.eq_2 x.1 n).trans (by kernel_rfl))
 (fun n => trivial)
 (fun x => .inl rfl)
theorem zbb : OkL Tryz.prog [yzk] := zzb (zz2 _) (bs := [z8w, z4p]) ⟨zqa, zky, trivial⟩ zbg
theorem z8a : FOk Tryz.prog yzk := zbb.1
mutual
def z2u : Nat → (List yz3) → Option Int
 | 0, _ => none
 | n + 1, a0 =>
   pIf (decide ((a0.length : Int) > 40))
     (some 4)
     (kzs n 0 a0)
def kzs : Nat → Int → (List yz3) → Option Int
 | 0, _, _ => none
 | n + 1, a0, a1 =>
   pIf (decide (a0 < (a1.length : Int)))
     ((ix a1 a0).bind fun x0 =>
     (z0x n x0.name).bind fun y1 =>
     pIf (!y1)
       (zzs n a1 a0 true)
       ((ix a1 a0).bind fun x2 =>
       (z1x n x2.value.re).bind fun y3 =>
       zzs n a1 a0 (y3 != 0)))
     (some 0)
def zzs : Nat → (List yz3) → Int → Bool → Option Int
 | 0, _, _, _ => none
 | n + 1, a0, a1, a2 =>
   pIf a2
     (some 8)
     (kzs n (IntKind.i64.wrap (a1 + 1)) a0)
end
def y5q : LSh := ⟨[(2, (.d (.int .i64)))], [], 0, 29⟩
noncomputable def z8y : FI dat := FI.of dat 28 29 0 [(.d (.sl (.st 5)))] [] [(.d (.int .i64))] [] true y5q (R := Int) (fun x => x.1) (fun r => (r, ())) (fun n x => z2u n x.1)
 (fun n => [(0, ⟨⟨[(3, (.d (.int .i64))), (0, (.d (.sl (.st 5))))], [], 0, 29⟩, fun x => kzs n x.1 x.2.1⟩), (1, ⟨⟨[(0, (.d (.sl (.st 5)))), (3, (.d (.int .i64))), (28, (.d .bool))], [], 0, 29⟩, fun x => zzs n x.1 x.2.1 x.2.2.1⟩)]) (ann [(14, 0), (25, 1)] (Tryz.f28.body.getD .skip) 0).1
noncomputable def y4l : List (FI dat) := [z42, z68]
theorem y5p : (z8y).Good Tryz.prog dat (tb y4l) := FI.yz4 (hD := zz2 _) Tryz.func28 Tryz.ntmps28 Tryz.call28 (by kernel_rfl) (of_decide_eq_true (by kernel_rfl)) (by kernel_rfl) (fun n => by kernel_rfl) (fun x => by kernel_rfl) (fun _ => rfl) ⟨fun _ => rfl, fun _ => rfl, trivial⟩
 (fun n => fun x => (z2u.eq_2 x.1 n).trans (by kernel_rfl))
 (fun n => ⟨fun x => (kzs.eq_2 x.1 x.2.1 n).trans (by kernel_rfl),
  fun x => (zzs.eq_2 x.1 x.2.1 x.2.2.1 n).trans (by kernel_rfl),
  trivial⟩)
 (fun x => .inl rfl)
theorem y4x : OkL Tryz.prog [z8y] := zzb (zz2 _) (bs := [z42, z68]) ⟨zh2, zku, trivial⟩ y5p
theorem zrd : FOk Tryz.prog z8y := y4x.1
end Go.Proofs.YtfhpamcehnfhoaaGreatDoor


namespace Go.Proofs.YtfhpamcehnfhoaaGreatDoor
open Go Go.Ab
set_option linter.unusedVariables false
set_option maxRecDepth 100000
mutual
def zzh : Nat → (List yz3) → Option Bool
 | 0, _ => none
 | n + 1, a0 =>
   kzb n 0 a0
def kzb : Nat → Int → (List yz3) → Option Bool
 | 0, _, _ => none
 | n + 1, a0, a1 =>
   pIf (decide (a0 < (a1.length : Int)))
     (kz9 n a1 a0 (decide (a0 < 60)))
     (kz9 n a1 a0 false)
def kz9 : Nat → (List yz3) → Int → Bool → Option Bool
 | 0, _, _, _ => none
 | n + 1, a0, a1, a2 =>
   pIf a2
     ((ix a0 a1).bind fun x0 =>
     pIf (decide ((x0.name.length : Int) > 200))
       (yzb n a0 a1 true)
       ((ix a0 a1).bind fun x1 =>
       (z2t n x1.value.re).bind fun y2 =>
       yzb n a0 a1 y2))
     (some (decide ((a0.length : Int) > 60)))
def yzb : Nat → (List yz3) → Int → Bool → Option Bool
 | 0, _, _, _ => none
 | n + 1, a0, a1, a2 =>
   pIf a2
     (some true)
     (kzb n (IntKind.i64.wrap (a1 + 1)) a0)
end
def zeg : LSh := ⟨[(2, (.d .bool))], [], 0, 32⟩
noncomputable def kzu : FI dat := FI.of dat 29 32 0 [(.d (.sl (.st 5)))] [] [(.d .bool)] [] true zeg (R := Bool) (fun x => x.1) (fun r => (r, ())) (fun n x => zzh n x.1)
 (fun n => [(0, ⟨⟨[(3, (.d (.int .i64))), (0, (.d (.sl (.st 5))))], [], 0, 32⟩, fun x => kzb n x.1 x.2.1⟩), (1, ⟨⟨[(0, (.d (.sl (.st 5)))), (3, (.d (.int .i64))), (11, (.d .bool))], [], 0, 32⟩, fun x => kz9 n x.1 x.2.1 x.2.2.1⟩), (2, ⟨⟨[(0, (.d (.sl (.st 5)))), (3, (.d (.int .i64))), (28, (.d .bool))], [], 0, 32⟩, fun x => yzb n x.1 x.2.1 x.2.2.1⟩)]) (ann [(6, 0), (10, 1), (17, 2)] (Tryz.f29.body.getD .skip) 0).1
noncomputable def ze5 : List (FI dat) := [z66]
theorem ze4 : (kzu).Good Tryz.prog dat (tb ze5) := FI.yz4 (hD := zz2 _) Tryz.func29 Tryz.ntmps29 Tryz.call29 (by kernel_rfl) (of_decide_eq_true (by kernel_rfl)) (by kernel_rfl) (fun n => by kernel_rfl) (fun x => by kernel_rfl) (fun _ => rfl) ⟨fun _ => rfl, fun _ => rfl, fun _ => rfl, trivial⟩
 (fun n => fun x => (zzh.eq_2 x.1 n).trans (by kernel_rfl))
 (fun n => ⟨fun x => (kzb.eq_2 x.1 x.2.1 n).trans (by kernel_rfl),
  fun x => (kz9.eq_2 x.1 x.2.1 x.2.2.1 n).trans (by kernel_rfl),
  fun x => (yzb.eq_2 x.1 x.2.1 x.2.2.1 n).trans (by kernel_rfl),
  trivial⟩)
 (fun x => .inl rfl)
theorem zej : OkL Tryz.prog [kzu] := zzb (zz2 _) (bs := [z66]) ⟨zjj, trivial⟩ ze4
theorem z96 : FOk Tryz.prog kzu := zej.1
mutual
def z07 : Nat → zz1 → Option (Int × Int)
 | 0, _ => none
 | n + 1, a0 =>
   yzh n 0 1 1 a0.args (a0.args.length : Int)
def yzh : Nat → Int → Int → Int → (List zz1) → Int → Option (Int × Int)
 | 0, _, _, _, _, _ => none
 | n + 1, a0, a1, a2, a3, a4 =>
   pIf (decide (a0 < a4))
     ((ix a3 a0).bind fun x0 =>
     (z07 n x0.re).bind fun y1 =>
     yzh n (IntKind.i64.wrap (a0 + 1)) (mxI a1 (IntKind.i64.wrap (y1.2 + 1))) (IntKind.i64.wrap (a2 + y1.1)) a3 a4)
     (some (a2, a1))
end
def zk5 : LSh := ⟨[(2, (.d (.int .i64))), (3, (.d (.int .i64)))], [], 0, 30⟩
noncomputable def z3h : FI dat := FI.of dat 52 30 0 [(.d (.st 4))] [] [(.d (.int .i64)), (.d (.int .i64))] [] true zk5 (R := Int × Int) (fun x => (x.1, x.2.1)) (fun r => (r.1, r.2, ())) (fun n x => z07 n x.1)
 (fun n => [(0, ⟨⟨[(11, (.d (.int .i64))), (3, (.d (.int .i64))), (2, (.d (.int .i64))), (9, (.d (.sl (.st 4)))), (10, (.d (.int .i64)))], [], 0, 30⟩, fun x => yzh n x.1 x.2.1 x.2.2.1 x.2.2.2.1 x.2.2.2.2.1⟩)]) (ann [(8, 0)] (Tryz.f52.body.getD .skip) 0).1
noncomputable def zjy : List (FI dat) := [z3h] ++ []
theorem zjc : (z3h).Good Tryz.prog dat (tb zjy) := FI.yz4 (hD := zz2 _) Tryz.func52 Tryz.ntmps52 Tryz.call52 (by kernel_rfl) (of_decide_eq_true (by kernel_rfl)) (by kernel_rfl) (fun n => by kernel_rfl) (fun x => by kernel_rfl) (fun _ => rfl) ⟨fun _ => rfl, trivial⟩
 (fun n => fun x => (z07.eq_2 x.1 n).trans (by kernel_rfl))
 (fun n => ⟨fun x => (yzh.eq_2 x.1 x.2.1 x.2.2.1 x.2.2.2.1 x.2.2.2.2.1 n).trans (by kernel_rfl),
  trivial⟩)
 (fun x => .inl rfl)
theorem zjm : OkL Tryz.prog [z3h] := z3y (zz2 _) (bs := []) trivial ⟨zjc, trivial⟩
theorem zpy : FOk Tryz.prog z3h := zjm.1
mutual
def z36 : Nat → Int → Option Int
 | 0, _ => none
 | n + 1, a0 =>
   pIf (a0 == 12)
     (zzc n 3)
     (pIf (a0 == 3)
       (zz8 n (-2) a0 true)
       (pIf (a0 == 4)
         (zz8 n (-2) a0 true)
         (pIf (a0 == 5)
           (zz8 n (-2) a0 true)
           (pIf (a0 == 6)
             (zz8 n (-2) a0 true)
             (pIf (a0 == 7)
               (zz8 n (-2) a0 true)
               (pIf (a0 == 8)
                 (zz8 n (-2) a0 true)
                 (pIf (a0 == 9)
                   (zz8 n (-2) a0 true)
                   (zz8 n (-2) a0 (a0 == 10)))))))))
def zz8 : Nat → Int → Int → Bool → Option Int
 | 0, _, _, _ => none
 | n + 1, a0, a1, a2 =>
   pIf a2
     (yzt n )
     (pIf (a1 == 13)
       (yzl n a0 a1 true)
       (pIf (a1 == 14)
         (yzl n a0 a1 true)
         (yzl n a0 a1 (a1 == 17))))
def yzl : Nat → Int → Int → Bool → Option Int
 | 0, _, _, _ => none
 | n + 1, a0, a1, a2 =>
   pIf a2
     (yzt n )
     (pIf (a1 == 11)
       (zzk n a0 a1 true)
       (pIf (a1 == 15)
         (zzk n a0 a1 true)
         (zzk n a0 a1 (a1 == 16))))
def zzk : Nat → Int → Int → Bool → Option Int
 | 0, _, _, _ => none
 | n + 1, a0, a1, a2 =>
   pIf a2
     (zzc n 1)
     (pIf (a1 == 1)
       (zzu n a0 a1 true)
       (zzu n a0 a1 (a1 == 2)))
def zzu : Nat → Int → Int → Bool → Option Int
 | 0, _, _, _ => none
 | n + 1, a0, a1, a2 =>
   pIf a2
     (zzc n 0)
     (pIf (a1 == 18)
       (zzc n (-1))
       (zzc n a0))
def yzt : Nat → Option Int
 | 0 => none
 | n + 1 =>
   zzc n 2
def zzc : Nat → Int → Option Int
 | 0, _ => none
 | n + 1, a0 =>
   some a0
end
def zoo : LSh := ⟨[(2, (.d (.int .i64)))], [], 0, 30⟩
noncomputable def z7h : FI dat := FI.of dat 83 30 0 [(.d (.int .u8))] [] [(.d (.int .i64))] [] true zoo (R := Int) (fun x => x.1) (fun r => (r, ())) (fun n x => z36 n x.1)
 (fun n => [(0, ⟨⟨[(3, (.d (.int .i64))), (4, (.d (.int .u8))), (7, (.d .bool))], [], 0, 30⟩, fun x => zz8 n x.1 x.2.1 x.2.2.1⟩), (1, ⟨⟨[(3, (.d (.int .i64))), (4, (.d (.int .u8))), (16, (.d .bool))], [], 0, 30⟩, fun x => yzl n x.1 x.2.1 x.2.2.1⟩), (2, ⟨⟨[(3, (.d (.int .i64))), (4, (.d (.int .u8))), (20, (.d .bool))], [], 0, 30⟩, fun x => zzk n x.1 x.2.1 x.2.2.1⟩), (3, ⟨⟨[(3, (.d (.int .i64))), (4, (.d (.int .u8))), (24, (.d .bool))], [], 0, 30⟩, fun x => zzu n x.1 x.2.1 x.2.2.1⟩), (4, ⟨⟨[], [], 0, 30⟩, fun x => yzt n ⟩), (5, ⟨⟨[(3, (.d (.int .i64)))], [], 0, 30⟩, fun x => zzc n x.1⟩)]) (ann [(57, 0), (71, 1), (85, 2), (95, 3), (107, 4), (119, 5)] (Tryz.f83.body.getD .skip) 0).1
noncomputable def zoh : List (FI dat) := []
theorem zop : (z7h).Good Tryz.prog dat (tb zoh) := FI.yz4 (hD := zz2 _) Tryz.func83 Tryz.ntmps83 Tryz.call83 (by kernel_rfl) (of_decide_eq_true (by kernel_rfl)) (by kernel_rfl) (fun n => by kernel_rfl) (fun x => by kernel_rfl) (fun _ => rfl) ⟨fun _ => rfl, fun _ => rfl, fun _ => rfl, fun _ => rfl, fun _ => rfl, fun _ => rfl, trivial⟩
 (fun n => fun x => (z36.eq_2 x.1 n).trans (by kernel_rfl))
 (fun n => ⟨fun x => (zz8.eq_2 x.1 x.2.1 x.2.2.1 n).trans (by kernel_rfl),
  fun x => (yzl.eq_2 x.1 x.2.1 x.2.2.1 n).trans (by kernel_rfl),
  fun x => (zzk.eq_2 x.1 x.2.1 x.2.2.1 n).trans (by kernel_rfl),
  fun x => (zzu.eq_2 x.1 x.2.1 x.2.2.1 n).trans (by kernel_rfl),
  fun x => (yzt.eq_2  n).trans (by kernel_rfl),
  fun x => (zzc.eq_2 x.1 n).trans (by kernel_rfl),
  trivial⟩)
 (fun x => .inl rfl)
theorem zor : OkL Tryz.prog [z7h] := zzb (zz2 _) (bs := []) trivial zop
theorem zt4 : FOk Tryz.prog z7h := zor.1
mutual
def kzk : Nat → zz0 → Option (Int × Int)
 | 0, _ => none
 | n + 1, a0 =>
   pIf (a0.kind == 4)
     (zzg n 0 1 1 a0.list (a0.list.length : Int))
     (kzf n 1 1)
def zzg : Nat → Int → Int → Int → (List zz0) → Int → Option (Int × Int)
 | 0, _, _, _, _, _ => none
 | n + 1, a0, a1, a2, a3, a4 =>
   pIf (decide (a0 < a4))
     ((ix a3 a0).bind fun x0 =>
     (kzk n x0.re).bind fun y1 =>
     zzg n (IntKind.i64.wrap (a0 + 1)) (mxI a1 (IntKind.i64.wrap (y1.2 + 1))) (IntKind.i64.wrap (a2 + y1.1)) a3 a4)
     (kzf n a1 a2)
def kzf : Nat → Int → Int → Option (Int × Int)
 | 0, _, _ => none
 | n + 1, a0, a1 =>
   some (a1, a0)
end
def zhy : LSh := ⟨[(2, (.d (.int .i64))), (3, (.d (.int .i64)))], [], 0, 33⟩
noncomputable def z16 : FI dat := FI.of dat 79 33 0 [(.d (.st 3))] [] [(.d (.int .i64)), (.d (.int .i64))] [] true zhy (R := Int × Int) (fun x => (x.1, x.2.1)) (fun r => (r.1, r.2, ())) (fun n x => kzk n x.1)
 (fun n => [(0, ⟨⟨[(14, (.d (.int .i64))), (3, (.d (.int .i64))), (2, (.d (.int .i64))), (12, (.d (.sl (.st 3)))), (13, (.d (.int .i64)))], [], 0, 33⟩, fun x => zzg n x.1 x.2.1 x.2.2.1 x.2.2.2.1 x.2.2.2.2.1⟩), (1, ⟨⟨[(3, (.d (.int .i64))), (2, (.d (.int .i64)))], [], 0, 33⟩, fun x => kzf n x.1 x.2.1⟩)]) (ann [(11, 0), (29, 1)] (Tryz.f79.body.getD .skip) 0).1
noncomputable def zif : List (FI dat) := [z16] ++ []
theorem zi0 : (z16).Good Tryz.prog dat (tb zif) := FI.yz4 (hD := zz2 _) Tryz.func79 Tryz.ntmps79 Tryz.call79 (by kernel_rfl) (of_decide_eq_true (by kernel_rfl)) (by kernel_rfl) (fun n => by kernel_rfl) (fun x => by kernel_rfl) (fun _ => rfl) ⟨fun _ => rfl, fun _ => rfl, trivial⟩
 (fun n => fun x => (kzk.eq_2 x.1 n).trans (by kernel_rfl))
 (fun n => ⟨fun x => (zzg.eq_2 x.1 x.2.1 x.2.2.1 x.2.2.2.1 x.2.2.2.2.1 n).trans (by kernel_rfl),
  fun x => (kzf.eq_2 x.1 x.2.1 n).trans (by kernel_rfl),
  trivial⟩)
 (fun x => .inl rfl)
theorem zi7 : OkL Tryz.prog [z16] := z3y (zz2 _) (bs := []) trivial ⟨zi0, trivial⟩
theorem zgf : FOk Tryz.prog z16 := zi7.1
def z10 : Nat → Int → Option Int
 | 0, _ => none
 | n + 1, a0 =>
   pIf (decide (a0 < 0))
     (some (IntKind.u64.wrap (0 - (IntKind.u64.wrap a0))))
     (some (IntKind.u64.wrap a0))
def zoi : LSh := ⟨[(2, (.d (.int .u64)))], [], 0, 10⟩
noncomputable def z5d : FI dat := FI.of dat 138 10 0 [(.d (.int .i64))] [] [(.d (.int .u64))] [] true zoi (R := Int) (fun x => x.1) (fun r => (r, ())) (fun n x => z10 n x.1)
 (fun n => []) (ann [] (Tryz.f138.body.getD .skip) 0).1
noncomputable def zo8 : List (FI dat) := []
theorem zp1 : (z5d).Good Tryz.prog dat (tb zo8) := FI.yz4 (hD := zz2 _) Tryz.func138 Tryz.ntmps138 Tryz.call138 (by kernel_rfl) (of_decide_eq_true (by kernel_rfl)) (by kernel_rfl) (fun n => by kernel_rfl) (fun x => by kernel_rfl) (fun _ => rfl) trivial
 (fun n => fun x => (z10.eq_2 x.1 n).trans (by kernel_rfl))
 (fun n => trivial)
 (fun x => .inl rfl)
theorem zp8 : OkL Tryz.prog [z5d] := zzb (zz2 _) (bs := []) trivial zp1
theorem zn0 : FOk Tryz.prog z5d := zp8.1
mutual
def z3b : Nat → Int → Int → Option Int
 | 0, _, _ => none
 | n + 1, a0, a1 =>
   kzv n a1 a0
def kzv : Nat → Int → Int → Option Int
 | 0, _, _ => none
 | n + 1, a0, a1 =>
   pIf (a0 != 0)
     ((rem .u64 a1 a0).bind fun x0 =>
     kzv n x0 a0)
     (some a1)
end
def zro : LSh := ⟨[(4, (.d (.int .u64)))], [], 0, 12⟩
noncomputable def z6k : FI dat := FI.of dat 139 12 0 [(.d (.int .u64)), (.d (.int .u64))] [] [(.d (.int .u64))] [] true zro (R := Int) (fun x => x.1) (fun r => (r, ())) (fun n x => z3b n x.1 x.2.1)
 (fun n => [(0, ⟨⟨[(1, (.d (.int .u64))), (0, (.d (.int .u64)))], [], 0, 12⟩, fun x => kzv n x.1 x.2.1⟩)]) (ann [(4, 0)] (Tryz.f139.body.getD .skip) 0).1
noncomputable def zqy : List (FI dat) := []
theorem zr7 : (z6k).Good Tryz.prog dat (tb zqy) := FI.yz4 (hD := zz2 _) Tryz.func139 Tryz.ntmps139 Tryz.call139 (by kernel_rfl) (of_decide_eq_true (by kernel_rfl)) (by kernel_rfl) (fun n => by kernel_rfl) (fun x => by kernel_rfl) (fun _ => rfl) ⟨fun _ => rfl, trivial⟩
 (fun n => fun x => (z3b.eq_2 x.1 x.2.1 n).trans (by kernel_rfl))
 (fun n => ⟨fun x => (kzv.eq_2 x.1 x.2.1 n).trans (by kernel_rfl),
  trivial⟩)
 (fun x => .inl rfl)
theorem zrt : OkL Tryz.prog [z6k] := zzb (zz2 _) (bs := []) trivial zr7
theorem zo4 : FOk Tryz.prog z6k := zrt.1
end Go.Proofs.YtfhpamcehnfhoaaGreatDoor


namespace Go.Proofs.YtfhpamcehnfhoaaGreatDoor
open Go Go.Ab
set_option linter.unusedVariables false
set_option maxRecDepth 100000
mutual
def z2e : Nat → yz1 → Option Int
 | 0, _ => none
 | n + 1, a0 =>
   pIf (decide (a0.den < 1))
     (kzz n true)
     (pIf (decide (a0.den > 1000000000))
       (kzz n true)
       ((z10 n a0.num).bind fun y0 =>
       pIf (decide (y0 > 1000000000))
         (kzz n true)
         ((z10 n a0.num).bind fun y1 =>
         (z3b n y1 (IntKind.u64.wrap a0.den)).bind fun y2 =>
         kzz n (y2 != 1))))
def kzz : Nat → Bool → Option Int
 | 0, _ => none
 | n + 1, a0 =>
   pIf a0
     (some 8)
     (some 0)
end
def y4a : LSh := ⟨[(2, (.d (.int .i64)))], [], 0, 27⟩
noncomputable def z69 : FI dat := FI.of dat 108 27 0 [(.d (.st 2))] [] [(.d (.int .i64))] [] true y4a (R := Int) (fun x => x.1) (fun r => (r, ())) (fun n x => z2e n x.1)
 (fun n => [(0, ⟨⟨[(26, (.d .bool))], [], 0, 27⟩, fun x => kzz n x.1⟩)]) (ann [(5, 0)] (Tryz.f108.body.getD .skip) 0).1
noncomputable def y6f : List (FI dat) := [z5d, z6k]
theorem y4c : (z69).Good Tryz.prog dat (tb y6f) := FI.yz4 (hD := zz2 _) Tryz.func108 Tryz.ntmps108 Tryz.call108 (by kernel_rfl) (of_decide_eq_true (by kernel_rfl)) (by kernel_rfl) (fun n => by kernel_rfl) (fun x => by kernel_rfl) (fun _ => rfl) ⟨fun _ => rfl, trivial⟩
 (fun n => fun x => (z2e.eq_2 x.1 n).trans (by kernel_rfl))
 (fun n => ⟨fun x => (kzz.eq_2 x.1 n).trans (by kernel_rfl),
  trivial⟩)
 (fun x => .inl rfl)
theorem y70 : OkL Tryz.prog [z69] := zzb (zz2 _) (bs := [z5d, z6k]) ⟨zn0, zo4, trivial⟩ y4c
theorem zkb : FOk Tryz.prog z69 := y70.1
mutual
def z4h : Nat → zz0 → Option Bool
 | 0, _ => none
 | n + 1, a0 =>
   pIf (a0.kind == 1)
     ((z2e n a0.num).bind fun y0 =>
     pIf (y0 != 0)
       (some false)
       (z0i n (zz0.mk a0.kind (yz1.mk 0 0) a0.truth a0.str a0.list)))
     (pIf (a0.kind == 2)
       (z0i n (zz0.mk a0.kind a0.num false a0.str a0.list))
       (pIf (a0.kind == 3)
         (pIf (decide ((a0.str.length : Int) > 60))
           (some false)
           (z22 n 0 a0.re (zz0.mk a0.kind a0.num a0.truth [] a0.list)))
         (pIf (a0.kind == 4)
           (z2n n 0 a0.list (a0.list.length : Int) (zz0.mk a0.kind a0.num a0.truth a0.str []))
           (some false))))
def z22 : Nat → Int → zz0 → zz0 → Option Bool
 | 0, _, _, _ => none
 | n + 1, a0, a1, a2 =>
   pIf (decide (a0 < (a1.str.length : Int)))
     ((ix a1.str a0).bind fun x1 =>
     pIf (decide ((x1.toNat : Int) < 32))
       (z23 n a0 true a1.re a2.re)
       ((ix a1.str a0).bind fun x2 =>
       z23 n a0 (decide ((x2.toNat : Int) > 126)) a1.re a2.re))
     (z0i n a2.re)
def z23 : Nat → Int → Bool → zz0 → zz0 → Option Bool
 | 0, _, _, _, _ => none
 | n + 1, a0, a1, a2, a3 =>
   pIf a1
     (some false)
     (z22 n (IntKind.i64.wrap (a0 + 1)) a2.re a3.re)
def z2n : Nat → Int → (List zz0) → Int → zz0 → Option Bool
 | 0, _, _, _, _ => none
 | n + 1, a0, a1, a2, a3 =>
   pIf (decide (a0 < a2))
     ((ix a1 a0).bind fun x3 =>
     (z4h n x3.re).bind fun y4 =>
     pIf (!y4)
       (some false)
       (z2n n (IntKind.i64.wrap (a0 + 1)) a1 a2 a3.re))
     (z0i n a3.re)
def z0i : Nat → zz0 → Option Bool
 | 0, _ => none
 | n + 1, a0 =>
   pIf ((a0.num.num == 0) && ((a0.num.den == 0) && true))
     (pIf (!a0.truth)
       (pIf (a0.str == [])
         (some ((a0.list.length : Int) == 0))
         (some false))
       (some false))
     (some false)
end
def ybd : LSh := ⟨[(2, (.d .bool))], [], 0, 81⟩
noncomputable def zc2 : FI dat := FI.of dat 80 81 0 [(.d (.st 3))] [] [(.d .bool)] [] true ybd (R := Bool) (fun x => x.1) (fun r => (r, ())) (fun n x => z4h n x.1)
 (fun n => [(0, ⟨⟨[(4, (.d (.int .i64))), (1, (.ptr 0 0)), (3, (.ptr 1 0))], [(.st 3), (.st 3)], 0, 81⟩, fun x => z22 n x.1 x.2.1 x.2.2.1⟩), (1, ⟨⟨[(1, (.ptr 0 0)), (3, (.ptr 1 0)), (4, (.d (.int .i64))), (46, (.d .bool))], [(.st 3), (.st 3)], 0, 81⟩, fun x => z23 n x.1 x.2.1 x.2.2.1 x.2.2.2.1⟩), (2, ⟨⟨[(53, (.d (.int .i64))), (51, (.d (.sl (.st 3)))), (3, (.ptr 0 0)), (52, (.d (.int .i64)))], [(.st 3)], 0, 81⟩, fun x => z2n n x.1 x.2.1 x.2.2.1 x.2.2.2.1⟩), (3, ⟨⟨[(3, (.ptr 0 0))], [(.st 3)], 0, 81⟩, fun x => z0i n x.1⟩)]) (ann [(40, 0), (51, 1), (65, 2), (87, 3)] (Tryz.f80.body.getD .skip) 0).1
noncomputable def y9a : List (FI dat) := [zc2] ++ [z69]
theorem yby : (zc2).Good Tryz.prog dat (tb y9a) := FI.yz4 (hD := zz2 _) Tryz.func80 Tryz.ntmps80 Tryz.call80 (by kernel_rfl) (of_decide_eq_true (by kernel_rfl)) (by kernel_rfl) (fun n => by kernel_rfl) (fun x => by kernel_rfl) (fun _ => rfl) ⟨fun _ => rfl, fun _ => rfl, fun _ => rfl, fun _ => rfl, trivial⟩
 (fun n => fun x => (z4h.eq_2 x.1 n).trans (by kernel_rfl))
 (fun n => ⟨fun x => (z22.eq_2 x.1 x.2.1 x.2.2.1 n).trans (by kernel_rfl),
  fun x => (z23.eq_2 x.1 x.2.1 x.2.2.1 x.2.2.2.1 n).trans (by kernel_rfl),
  fun x => (z2n.eq_2 x.1 x.2.1 x.2.2.1 x.2.2.2.1 n).trans (by kernel_rfl),
  fun x => (z0i.eq_2 x.1 n).trans (by kernel_rfl),
  trivial⟩)
 (fun x => .inl rfl)
theorem ybb : OkL Tryz.prog [zc2] := z3y (zz2 _) (bs := [z69]) ⟨zkb, trivial⟩ ⟨yby, trivial⟩
theorem y46 : FOk Tryz.prog zc2 := ybb.1
mutual
def yzx : Nat → zz0 → Option Int
 | 0, _ => none
 | n + 1, a0 =>
   (kzk n a0.re).bind fun y0 =>
   pIf (decide (y0.1 > 100))
     (z18 n true a0.re)
     (z18 n (decide (y0.2 > 6)) a0.re)
def z18 : Nat → Bool → zz0 → Option Int
 | 0, _, _ => none
 | n + 1, a0, a1 =>
   pIf a0
     (some 4)
     ((z4h n a1.re).bind fun y1 =>
     pIf (!y1)
       (some 8)
       (some 0))
end
def y52 : LSh := ⟨[(2, (.d (.int .i64)))], [], 0, 19⟩
noncomputable def z1m : FI dat := FI.of dat 46 19 0 [(.d (.st 3))] [] [(.d (.int .i64))] [] true y52 (R := Int) (fun x => x.1) (fun r => (r, ())) (fun n x => yzx n x.1)
 (fun n => [(0, ⟨⟨[(1, (.ptr 0 0)), (15, (.d .bool))], [(.st 3)], 0, 19⟩, fun x => z18 n x.1 x.2.1⟩)]) (ann [(7, 0)] (Tryz.f46.body.getD .skip) 0).1
noncomputable def y45 : List (FI dat) := [z16, zc2]
theorem y4v : (z1m).Good Tryz.prog dat (tb y45) := FI.yz4 (hD := zz2 _) Tryz.func46 Tryz.ntmps46 Tryz.call46 (by kernel_rfl) (of_decide_eq_true (by kernel_rfl)) (by kernel_rfl) (fun n => by kernel_rfl) (fun x => by kernel_rfl) (fun _ => rfl) ⟨fun _ => rfl, trivial⟩
 (fun n => fun x => (yzx.eq_2 x.1 n).trans (by kernel_rfl))
 (fun n => ⟨fun x => (z18.eq_2 x.1 x.2.1 n).trans (by kernel_rfl),
  trivial⟩)
 (fun x => .inl rfl)
theorem y4m : OkL Tryz.prog [z1m] := zzb (zz2 _) (bs := [z16, zc2]) ⟨zgf, y46, trivial⟩ y4v
theorem z9e : FOk Tryz.prog z1m := y4m.1
mutual
def z3q : Nat → (List UInt8) → Option Bool
 | 0, _ => none
 | n + 1, a0 =>
   pIf ((a0.length : Int) == 0)
     (z35 n a0 true)
     (z35 n a0 (decide ((a0.length : Int) > 40)))
def z35 : Nat → (List UInt8) → Bool → Option Bool
 | 0, _, _ => none
 | n + 1, a0, a1 =>
   pIf a1
     (some false)
     (z01 n a0 0)
def z01 : Nat → (List UInt8) → Nat → Option Bool
 | 0, _, _ => none
 | n + 1, a0, a1 =>
   pIf (decide (a1 < a0.length))
     (pIf (decide (((zhq a0 a1).1 : Int) ≥ 97))
       (z27 n ((zhq a0 a1).1 : Int) (a1 : Int) (decide (((zhq a0 a1).1 : Int) ≤ 122)) a0 (a1 + (zhq a0 a1).2))
       (z27 n ((zhq a0 a1).1 : Int) (a1 : Int) false a0 (a1 + (zhq a0 a1).2)))
     (some true)
def z27 : Nat → Int → Int → Bool → (List UInt8) → Nat → Option Bool
 | 0, _, _, _, _, _ => none
 | n + 1, a0, a1, a2, a3, a4 =>
   pIf (!a2)
     (pIf (a1 == 0)
       (yzu n true a3 a4)
       (pIf (a0 != 45)
         (pIf (decide (a0 < 48))
           (yzu n true a3 a4)
           (yzu n (decide (a0 > 57)) a3 a4))
         (yzu n false a3 a4)))
     (yzu n false a3 a4)
def yzu : Nat → Bool → (List UInt8) → Nat → Option Bool
 | 0, _, _, _ => none
 | n + 1, a0, a1, a2 =>
   pIf a0
     (some false)
     (z01 n a1 a2)
end
def y8u : LSh := ⟨[(2, (.d .bool))], [], 0, 44⟩
noncomputable def z7g : FI dat := FI.of dat 45 44 0 [(.d .str)] [] [(.d .bool)] [] true y8u (R := Bool) (fun x => x.1) (fun r => (r, ())) (fun n x => z3q n x.1)
 (fun n => [(0, ⟨⟨[(0, (.d .str)), (13, (.d .bool))], [], 0, 44⟩, fun x => z35 n x.1 x.2.1⟩), (1, ⟨⟨[(15, (.ptr 0 0))], [.siter], 0, 44⟩, fun x => z01 n x.1 x.2.1⟩), (2, ⟨⟨[(15, (.ptr 0 0)), (4, (.d (.int .i32))), (3, (.d (.int .i64))), (5, (.d .bool))], [.siter], 0, 44⟩, fun x => z27 n x.1 x.2.1 x.2.2.1 x.2.2.2.1 x.2.2.2.2.1⟩), (3, ⟨⟨[(15, (.ptr 0 0)), (43, (.d .bool))], [.siter], 0, 44⟩, fun x => yzu n x.1 x.2.1 x.2.2.1⟩)]) (ann [(5, 0), (14, 1), (26, 2), (28, 3)] (Tryz.f45.body.getD .skip) 0).1
noncomputable def yal : List (FI dat) := []
theorem yao : (z7g).Good Tryz.prog dat (tb yal) := FI.yz4 (hD := zz2 _) Tryz.func45 Tryz.ntmps45 Tryz.call45 (by kernel_rfl) (of_decide_eq_true (by kernel_rfl)) (by kernel_rfl) (fun n => by kernel_rfl) (fun x => by kernel_rfl) (fun _ => rfl) ⟨fun _ => rfl, fun _ => rfl, fun _ => rfl, fun _ => rfl, trivial⟩
 (fun n => fun x => (z3q.eq_2 x.1 n).trans (by kernel_rfl))
 (fun n => ⟨fun x => (z35.eq_2 x.1 x.2.1 n).trans (by kernel_rfl),
  fun x => (z01.eq_2 x.1 x.2.1 n).trans (by kernel_rfl),
  fun x => (z27.eq_2 x.1 x.2.1 x.2.2.1 x.2.2.2.1 x.2.2.2.2.1 n).trans (by kernel_rfl),
  fun x => (yzu.eq_2 x.1 x.2.1 x.2.2.1 n).trans (by kernel_rfl),
  trivial⟩)
 (fun x => .inl rfl)
theorem y9l : OkL Tryz.prog [z7g] := zzb (zz2 _) (bs := []) trivial yao
theorem zm5 : FOk Tryz.prog z7g := y9l.1
def z5b : Nat → (List UInt8) → Option Bool
 | 0, _ => none
 | n + 1, a0 =>
   (z3q n a0).bind fun y0 =>
   pIf y0
     (pIf (!(a0 == [116, 114, 117, 101]))
       (some (!(a0 == [102, 97, 108, 115, 101])))
       (some false))
     (some false)
def yaq : LSh := ⟨[(2, (.d .bool))], [], 0, 13⟩
noncomputable def zff : FI dat := FI.of dat 48 13 0 [(.d .str)] [] [(.d .bool)] [] true yaq (R := Bool) (fun x => x.1) (fun r => (r, ())) (fun n x => z5b n x.1)
 (fun n => []) (ann [] (Tryz.f48.body.getD .skip) 0).1
noncomputable def yan : List (FI dat) := [z7g]
theorem y93 : (zff).Good Tryz.prog dat (tb yan) := FI.yz4 (hD := zz2 _) Tryz.func48 Tryz.ntmps48 Tryz.call48 (by kernel_rfl) (of_decide_eq_true (by kernel_rfl)) (by kernel_rfl) (fun n => by kernel_rfl) (fun x => by kernel_rfl) (fun _ => rfl) trivial
 (fun n => fun x => (z5b.eq_2 x.1 n).trans (by kernel_rfl))
 (fun n => trivial)
 (fun x => .inl rfl)
theorem yb5 : OkL Tryz.prog [zff] := zzb (zz2 _) (bs := [z7g]) ⟨zm5, trivial⟩ y93
theorem y5m : FOk Tryz.prog zff := yb5.1
mutual
def z0e : Nat → zz0 → zz0 → Option Bool
 | 0, _, _ => none
 | n + 1, a0, a1 =>
   pIf (a0.kind != a1.kind)
     (z00 n true a1.re a0.re)
     (pIf (!((a0.num.num == a1.num.num) && ((a0.num.den == a1.num.den) && true)))
       (z00 n true a1.re a0.re)
       (pIf (!(a0.truth == a1.truth))
         (z00 n true a1.re a0.re)
         (pIf (!(a0.str == a1.str))
           (z00 n true a1.re a0.re)
           (z00 n ((a0.list.length : Int) != (a1.list.length : Int)) a1.re a0.re))))
def z00 : Nat → Bool → zz0 → zz0 → Option Bool
 | 0, _, _, _ => none
 | n + 1, a0, a1, a2 =>
   pIf a0
     (some false)
     (z1y n 0 (a2.list.length : Int) a1.re a2.re)
def z1y : Nat → Int → Int → zz0 → zz0 → Option Bool
 | 0, _, _, _, _ => none
 | n + 1, a0, a1, a2, a3 =>
   pIf (decide (a0 < a1))
     ((ix a3.list a0).bind fun x0 =>
     (ix a2.list a0).bind fun x1 =>
     (z0e n x0.re x1.re).bind fun y2 =>
     pIf (!y2)
       (some false)
       (z1y n (IntKind.i64.wrap (a0 + 1)) a1 a2.re a3.re))
     (some true)
end
def yaf : LSh := ⟨[(4, (.d .bool))], [], 0, 60⟩
noncomputable def z52 : FI dat := FI.of dat 56 60 0 [(.d (.st 3)), (.d (.st 3))] [] [(.d .bool)] [] true yaf (R := Bool) (fun x => x.1) (fun r => (r, ())) (fun n x => z0e n x.1 x.2.1)
 (fun n => [(0, ⟨⟨[(3, (.ptr 0 0)), (2, (.ptr 1 0)), (40, (.d .bool))], [(.st 3), (.st 3)], 0, 60⟩, fun x => z00 n x.1 x.2.1 x.2.2.1⟩), (1, ⟨⟨[(44, (.d (.int .i64))), (3, (.ptr 0 0)), (2, (.ptr 1 0)), (43, (.d (.int .i64)))], [(.st 3), (.st 3)], 0, 60⟩, fun x => z1y n x.1 x.2.1 x.2.2.1 x.2.2.2.1⟩)]) (ann [(5, 0), (14, 1)] (Tryz.f56.body.getD .skip) 0).1
noncomputable def yc3 : List (FI dat) := [z52] ++ []
theorem y9m : (z52).Good Tryz.prog dat (tb yc3) := FI.yz4 (hD := zz2 _) Tryz.func56 Tryz.ntmps56 Tryz.call56 (by kernel_rfl) (of_decide_eq_true (by kernel_rfl)) (by kernel_rfl) (fun n => by kernel_rfl) (fun x => by kernel_rfl) (fun _ => rfl) ⟨fun _ => rfl, fun _ => rfl, trivial⟩
 (fun n => fun x => (z0e.eq_2 x.1 x.2.1 n).trans (by kernel_rfl))
 (fun n => ⟨fun x => (z00.eq_2 x.1 x.2.1 x.2.2.1 n).trans (by kernel_rfl),
  fun x => (z1y.eq_2 x.1 x.2.1 x.2.2.1 x.2.2.2.1 n).trans (by kernel_rfl),
  trivial⟩)
 (fun x => .inl rfl)
theorem ybc : OkL Tryz.prog [z52] := z3y (zz2 _) (bs := []) trivial ⟨y9m, trivial⟩
theorem zgr : FOk Tryz.prog z52 := ybc.1
end Go.Proofs.YtfhpamcehnfhoaaGreatDoor


namespace Go.Proofs.YtfhpamcehnfhoaaGreatDoor
open Go Go.Ab
set_option linter.unusedVariables false
set_option maxRecDepth 100000
mutual
def z5l : Nat → zz1 → Option Bool
 | 0, _ => none
 | n + 1, a0 =>
   (z36 n a0.op).bind fun y0 =>
   pIf (y0 == (-2))
     (z1s n true a0.re)
     (pIf (decide (y0 ≥ 0))
       (z1s n ((a0.args.length : Int) != y0) a0.re)
       (z1s n false a0.re))
def z1s : Nat → Bool → zz1 → Option Bool
 | 0, _, _ => none
 | n + 1, a0, a1 =>
   pIf a0
     (some false)
     (pIf (a1.op == 1)
       ((yzx n a1.value.re).bind fun y1 =>
       pIf (y1 != 0)
         (z1t n true a1.re)
         (pIf (a1.value.kind == 4)
           (z1t n true a1.re)
           (z1t n (!(a1.name == [])) a1.re)))
       (pIf (a1.op == 2)
         ((z5b n a1.name).bind fun y2 =>
         pIf (!y2)
           (z2x n true a1.re)
           ((z0e n a1.value.re (zz0.mk 0 (yz1.mk 0 0) false [] [])).bind fun y3 =>
           z2x n (!y3) a1.re))
         (pIf (!(a1.name == []))
           (z2y n true a1.re)
           ((z0e n a1.value.re (zz0.mk 0 (yz1.mk 0 0) false [] [])).bind fun y4 =>
           z2y n (!y4) a1.re))))
def z1t : Nat → Bool → zz1 → Option Bool
 | 0, _, _ => none
 | n + 1, a0, a1 =>
   pIf a0
     (some false)
     (z1v n a1.re)
def z2x : Nat → Bool → zz1 → Option Bool
 | 0, _, _ => none
 | n + 1, a0, a1 =>
   pIf a0
     (some false)
     (z1v n a1.re)
def z2y : Nat → Bool → zz1 → Option Bool
 | 0, _, _ => none
 | n + 1, a0, a1 =>
   pIf a0
     (some false)
     (z1v n a1.re)
def z1v : Nat → zz1 → Option Bool
 | 0, _ => none
 | n + 1, a0 =>
   (zz7 n a0.args).bind fun y5 =>
   some (!y5)
def zz7 : Nat → (List zz1) → Option Bool
 | 0, _ => none
 | n + 1, a0 =>
   (yz8 n a0).bind fun y0 =>
   some (decide (y0 ≥ 0))
def yz8 : Nat → (List zz1) → Option Int
 | 0, _ => none
 | n + 1, a0 =>
   yz5 n 0 a0 (a0.length : Int)
def yz5 : Nat → Int → (List zz1) → Int → Option Int
 | 0, _, _, _ => none
 | n + 1, a0, a1, a2 =>
   pIf (decide (a0 < a2))
     ((ix a1 a0).bind fun x0 =>
     (z4m n x0.re).bind fun y1 =>
     pIf y1
       (some a0)
       (yz5 n (IntKind.i64.wrap (a0 + 1)) a1 a2))
     (some (-1))
def z4m : Nat → zz1 → Option Bool
 | 0, _ => none
 | n + 1, a0 =>
   (z5l n a0.re).bind fun y0 =>
   some (!y0)
end
def ygc : LSh := ⟨[(2, (.d .bool))], [], 0, 66⟩
noncomputable def zev : FI dat := FI.of dat 53 66 0 [(.d (.st 4))] [] [(.d .bool)] [] true ygc (R := Bool) (fun x => x.1) (fun r => (r, ())) (fun n x => z5l n x.1)
 (fun n => [(0, ⟨⟨[(1, (.ptr 0 0)), (19, (.d .bool))], [(.st 4)], 0, 66⟩, fun x => z1s n x.1 x.2.1⟩), (1, ⟨⟨[(1, (.ptr 0 0)), (48, (.d .bool))], [(.st 4)], 0, 66⟩, fun x => z1t n x.1 x.2.1⟩), (2, ⟨⟨[(1, (.ptr 0 0)), (61, (.d .bool))], [(.st 4)], 0, 66⟩, fun x => z2x n x.1 x.2.1⟩), (3, ⟨⟨[(1, (.ptr 0 0)), (31, (.d .bool))], [(.st 4)], 0, 66⟩, fun x => z2y n x.1 x.2.1⟩), (4, ⟨⟨[(1, (.ptr 0 0))], [(.st 4)], 0, 66⟩, fun x => z1v n x.1⟩)]) (ann [(7, 0), (21, 1), (31, 2), (38, 3), (43, 4)] (Tryz.f53.body.getD .skip) 0).1
def zaw : LSh := ⟨[(4, (.d .bool))], [], 0, 9⟩
noncomputable def z3f : FI dat := FI.of dat 84 9 0 [(.d (.sl (.st 4))), (.fn 85 [] [])] [] [(.d .bool)] [] true zaw (R := Bool) (fun x => x.1) (fun r => (r, ())) (fun n x => zz7 n x.1)
 (fun n => []) (ann [] (Tryz.f84.body.getD .skip) 0).1
def zcx : LSh := ⟨[(4, (.d (.int .i64)))], [], 0, 19⟩
noncomputable def z4d : FI dat := FI.of dat 114 19 0 [(.d (.sl (.st 4))), (.fn 85 [] [])] [] [(.d (.int .i64))] [] true zcx (R := Int) (fun x => x.1) (fun r => (r, ())) (fun n x => yz8 n x.1)
 (fun n => [(0, ⟨⟨[(8, (.d (.int .i64))), (0, (.d (.sl (.st 4)))), (1, (.fn 85 [] [])), (7, (.d (.int .i64)))], [], 0, 19⟩, fun x => yz5 n x.1 x.2.1 x.2.2.1⟩)]) (ann [(6, 0)] (Tryz.f114.body.getD .skip) 0).1
def y3m : LSh := ⟨[(2, (.d .bool))], [], 0, 6⟩
noncomputable def zmd : FI dat := FI.of dat 85 6 0 [(.d (.st 4))] [] [(.d .bool)] [] true y3m (R := Bool) (fun x => x.1) (fun r => (r, ())) (fun n x => z4m n x.1)
 (fun n => []) (ann [] (Tryz.f85.body.getD .skip) 0).1
noncomputable def zlm : List (FI dat) := [zev, z3f, z4d, zmd] ++ [z7h, z1m, zff, z52]
theorem yem : (zev).Good Tryz.prog dat (tb zlm) := FI.yz4 (hD := zz2 _) Tryz.func53 Tryz.ntmps53 Tryz.call53 (by kernel_rfl) (of_decide_eq_true (by kernel_rfl)) (by kernel_rfl) (fun n => by kernel_rfl) (fun x => by kernel_rfl) (fun _ => rfl) ⟨fun _ => rfl, fun _ => rfl, fun _ => rfl, fun _ => rfl, fun _ => rfl, trivial⟩
 (fun n => fun x => (z5l.eq_2 x.1 n).trans (by kernel_rfl))
 (fun n => ⟨fun x => (z1s.eq_2 x.1 x.2.1 n).trans (by kernel_rfl),
  fun x => (z1t.eq_2 x.1 x.2.1 n).trans (by kernel_rfl),
  fun x => (z2x.eq_2 x.1 x.2.1 n).trans (by kernel_rfl),
  fun x => (z2y.eq_2 x.1 x.2.1 n).trans (by kernel_rfl),
  fun x => (z1v.eq_2 x.1 n).trans (by kernel_rfl),
  trivial⟩)
 (fun x => .inl rfl)
theorem zax : (z3f).Good Tryz.prog dat (tb zlm) := FI.yz4 (hD := zz2 _) Tryz.func84 Tryz.ntmps84 Tryz.call84 (by kernel_rfl) (of_decide_eq_true (by kernel_rfl)) (by kernel_rfl) (fun n => by kernel_rfl) (fun x => by kernel_rfl) (fun _ => rfl) trivial
 (fun n => fun x => (zz7.eq_2 x.1 n).trans (by kernel_rfl))
 (fun n => trivial)
 (fun x => .inl rfl)
theorem zcu : (z4d).Good Tryz.prog dat (tb zlm) := FI.yz4 (hD := zz2 _) Tryz.func114 Tryz.ntmps114 Tryz.call114 (by kernel_rfl) (of_decide_eq_true (by kernel_rfl)) (by kernel_rfl) (fun n => by kernel_rfl) (fun x => by kernel_rfl) (fun _ => rfl) ⟨fun _ => rfl, trivial⟩
 (fun n => fun x => (yz8.eq_2 x.1 n).trans (by kernel_rfl))
 (fun n => ⟨fun x => (yz5.eq_2 x.1 x.2.1 x.2.2.1 n).trans (by kernel_rfl),
  trivial⟩)
 (fun x => .inl rfl)
theorem y6j : (zmd).Good Tryz.prog dat (tb zlm) := FI.yz4 (hD := zz2 _) Tryz.func85 Tryz.ntmps85 Tryz.call85 (by kernel_rfl) (of_decide_eq_true (by kernel_rfl)) (by kernel_rfl) (fun n => by kernel_rfl) (fun x => by kernel_rfl) (fun _ => rfl) trivial
 (fun n => fun x => (z4m.eq_2 x.1 n).trans (by kernel_rfl))
 (fun n => trivial)
 (fun x => .inl rfl)
theorem yet : OkL Tryz.prog [zev, z3f, z4d, zmd] := z3y (zz2 _) (bs := [z7h, z1m, zff, z52]) ⟨zt4, z9e, y5m, zgr, trivial⟩ ⟨yem, zax, zcu, y6j, trivial⟩
theorem ybn : FOk Tryz.prog zev := yet.1
mutual
def kzw : Nat → zz1 → Option Int
 | 0, _ => none
 | n + 1, a0 =>
   (z07 n a0.re).bind fun y0 =>
   pIf (decide (y0.1 > 100))
     (z2j n true a0.re)
     (z2j n (decide (y0.2 > 12)) a0.re)
def z2j : Nat → Bool → zz1 → Option Int
 | 0, _, _ => none
 | n + 1, a0, a1 =>
   pIf a0
     (some 4)
     ((z5l n a1.re).bind fun y1 =>
     pIf (!y1)
       (some 8)
       (some 0))
end
def yc9 : LSh := ⟨[(2, (.d (.int .i64)))], [], 0, 19⟩
noncomputable def z1d : FI dat := FI.of dat 24 19 0 [(.d (.st 4))] [] [(.d (.int .i64))] [] true yc9 (R := Int) (fun x => x.1) (fun r => (r, ())) (fun n x => kzw n x.1)
 (fun n => [(0, ⟨⟨[(1, (.ptr 0 0)), (15, (.d .bool))], [(.st 4)], 0, 19⟩, fun x => z2j n x.1 x.2.1⟩)]) (ann [(7, 0)] (Tryz.f24.body.getD .skip) 0).1
noncomputable def y9k : List (FI dat) := [z3h, zev]
theorem yaw : (z1d).Good Tryz.prog dat (tb y9k) := FI.yz4 (hD := zz2 _) Tryz.func24 Tryz.ntmps24 Tryz.call24 (by kernel_rfl) (of_decide_eq_true (by kernel_rfl)) (by kernel_rfl) (fun n => by kernel_rfl) (fun x => by kernel_rfl) (fun _ => rfl) ⟨fun _ => rfl, trivial⟩
 (fun n => fun x => (kzw.eq_2 x.1 n).trans (by kernel_rfl))
 (fun n => ⟨fun x => (z2j.eq_2 x.1 x.2.1 n).trans (by kernel_rfl),
  trivial⟩)
 (fun x => .inl rfl)
theorem yb6 : OkL Tryz.prog [z1d] := zzb (zz2 _) (bs := [z3h, zev]) ⟨zpy, ybn, trivial⟩ yaw
theorem z8u : FOk Tryz.prog z1d := yb6.1
def z4n : Nat → yz3 → Int → Int → Int → Int → Bool → (List UInt8) → (List zz0) → (List UInt8) → (List zz1) → Option (Bool × Int × Int × Int × Int × Bool × (List UInt8) × (List zz0) × (List UInt8) × (List zz1))
 | 0, _, _, _, _, _, _, _, _, _, _ => none
 | n + 1, a0, a1, a2, a3, a4, a5, a6, a7, a8, a9 =>
   some ((a0.name == a8), a1, a2, a3, a4, a5, a6, a7, a8, a9)
def y64 : LSh := ⟨[(3, (.d .bool))], [(.cells [(.d (.int .u8)), (.d (.int .u8)), (.d (.int .i64)), (.d (.int .i64)), (.d .bool), (.d .str), (.d (.sl (.st 3))), (.d .str), (.d (.sl (.st 4)))])], 1, 9⟩
noncomputable def zd7 : FI dat := FI.of dat 111 9 1 [(.d (.st 5)), (.ptr 0 0)] [(.cells [(.d (.int .u8)), (.d (.int .u8)), (.d (.int .i64)), (.d (.int .i64)), (.d .bool), (.d .str), (.d (.sl (.st 3))), (.d .str), (.d (.sl (.st 4)))])] [(.d .bool)] [(.cells [(.d (.int .u8)), (.d (.int .u8)), (.d (.int .i64)), (.d (.int .i64)), (.d .bool), (.d .str), (.d (.sl (.st 3))), (.d .str), (.d (.sl (.st 4)))])] false y64 (R := Bool × Int × Int × Int × Int × Bool × (List UInt8) × (List zz0) × (List UInt8) × (List zz1)) (fun x => (x.1, x.2.1, x.2.2.1, x.2.2.2.1, x.2.2.2.2.1, x.2.2.2.2.2.1, x.2.2.2.2.2.2.1, x.2.2.2.2.2.2.2.1, x.2.2.2.2.2.2.2.2.1, x.2.2.2.2.2.2.2.2.2.1)) (fun r => (r.1, r.2.1, r.2.2.1, r.2.2.2.1, r.2.2.2.2.1, r.2.2.2.2.2.1, r.2.2.2.2.2.2.1, r.2.2.2.2.2.2.2.1, r.2.2.2.2.2.2.2.2.1, r.2.2.2.2.2.2.2.2.2, ())) (fun n x => z4n n x.1 x.2.1 x.2.2.1 x.2.2.2.1 x.2.2.2.2.1 x.2.2.2.2.2.1 x.2.2.2.2.2.2.1 x.2.2.2.2.2.2.2.1 x.2.2.2.2.2.2.2.2.1 x.2.2.2.2.2.2.2.2.2.1)
 (fun n => []) (ann [] (Tryz.f111.body.getD .skip) 0).1
noncomputable def y4r : List (FI dat) := []
theorem y5t : (zd7).Good Tryz.prog dat (tb y4r) := FI.yz4 (hD := zz2 _) Tryz.func111 Tryz.ntmps111 Tryz.call111 (by kernel_rfl) (of_decide_eq_true (by kernel_rfl)) (by kernel_rfl) (fun n => by kernel_rfl) (fun x => by kernel_rfl) (fun _ => rfl) trivial
 (fun n => fun x => (z4n.eq_2 x.1 x.2.1 x.2.2.1 x.2.2.2.1 x.2.2.2.2.1 x.2.2.2.2.2.1 x.2.2.2.2.2.2.1 x.2.2.2.2.2.2.2.1 x.2.2.2.2.2.2.2.2.1 x.2.2.2.2.2.2.2.2.2.1 n).trans (by kernel_rfl))
 (fun n => trivial)
 (fun x => .inr (by kernel_rfl))
theorem y5i : OkL Tryz.prog [zd7] := zzb (zz2 _) (bs := []) trivial y5t
theorem y2j : FOk Tryz.prog zd7 := y5i.1
mutual
def kz6 : Nat → (List yz3) → Int → Int → Int → Int → Bool → (List UInt8) → (List zz0) → (List UInt8) → (List zz1) → Option (Int × Int × Int × Int × Int × Bool × (List UInt8) × (List zz0) × (List UInt8) × (List zz1))
 | 0, _, _, _, _, _, _, _, _, _, _ => none
 | n + 1, a0, a1, a2, a3, a4, a5, a6, a7, a8, a9 =>
   kz5 n 0 a0 (a0.length : Int) a1 a2 a3 a4 a5 a6 a7 a8 a9
def kz5 : Nat → Int → (List yz3) → Int → Int → Int → Int → Int → Bool → (List UInt8) → (List zz0) → (List UInt8) → (List zz1) → Option (Int × Int × Int × Int × Int × Bool × (List UInt8) × (List zz0) × (List UInt8) × (List zz1))
 | 0, _, _, _, _, _, _, _, _, _, _, _, _ => none
 | n + 1, a0, a1, a2, a3, a4, a5, a6, a7, a8, a9, a10, a11 =>
   pIf (decide (a0 < a2))
     ((ix a1 a0).bind fun x0 =>
     (z4n n x0.re a3 a4 a5 a6 a7 a8 a9 a10 a11).bind fun y1 =>
     pIf y1.1
       (some (a0, y1.2.1, y1.2.2.1, y1.2.2.2.1, y1.2.2.2.2.1, y1.2.2.2.2.2.1, y1.2.2.2.2.2.2.1, y1.2.2.2.2.2.2.2.1, y1.2.2.2.2.2.2.2.2.1, y1.2.2.2.2.2.2.2.2.2))
       (kz5 n (IntKind.i64.wrap (a0 + 1)) a1 a2 y1.2.1 y1.2.2.1 y1.2.2.2.1 y1.2.2.2.2.1 y1.2.2.2.2.2.1 y1.2.2.2.2.2.2.1 y1.2.2.2.2.2.2.2.1 y1.2.2.2.2.2.2.2.2.1 y1.2.2.2.2.2.2.2.2.2))
     (some ((-1), a3, a4, a5, a6, a7, a8, a9, a10, a11))
end
def zcw : LSh := ⟨[(4, (.d (.int .i64)))], [(.cells [(.d (.int .u8)), (.d (.int .u8)), (.d (.int .i64)), (.d (.int .i64)), (.d .bool), (.d .str), (.d (.sl (.st 3))), (.d .str), (.d (.sl (.st 4)))])], 1, 19⟩
noncomputable def kzh : FI dat := FI.of dat 110 19 1 [(.d (.sl (.st 5))), (.fn 111 [] [(.ptr 0 0)])] [(.cells [(.d (.int .u8)), (.d (.int .u8)), (.d (.int .i64)), (.d (.int .i64)), (.d .bool), (.d .str), (.d (.sl (.st 3))), (.d .str), (.d (.sl (.st 4)))])] [(.d (.int .i64))] [(.cells [(.d (.int .u8)), (.d (.int .u8)), (.d (.int .i64)), (.d (.int .i64)), (.d .bool), (.d .str), (.d (.sl (.st 3))), (.d .str), (.d (.sl (.st 4)))])] false zcw (R := Int × Int × Int × Int × Int × Bool × (List UInt8) × (List zz0) × (List UInt8) × (List zz1)) (fun x => (x.1, x.2.1, x.2.2.1, x.2.2.2.1, x.2.2.2.2.1, x.2.2.2.2.2.1, x.2.2.2.2.2.2.1, x.2.2.2.2.2.2.2.1, x.2.2.2.2.2.2.2.2.1, x.2.2.2.2.2.2.2.2.2.1)) (fun r => (r.1, r.2.1, r.2.2.1, r.2.2.2.1, r.2.2.2.2.1, r.2.2.2.2.2.1, r.2.2.2.2.2.2.1, r.2.2.2.2.2.2.2.1, r.2.2.2.2.2.2.2.2.1, r.2.2.2.2.2.2.2.2.2, ())) (fun n x => kz6 n x.1 x.2.1 x.2.2.1 x.2.2.2.1 x.2.2.2.2.1 x.2.2.2.2.2.1 x.2.2.2.2.2.2.1 x.2.2.2.2.2.2.2.1 x.2.2.2.2.2.2.2.2.1 x.2.2.2.2.2.2.2.2.2.1)
 (fun n => [(0, ⟨⟨[(8, (.d (.int .i64))), (0, (.d (.sl (.st 5)))), (1, (.fn 111 [] [(.ptr 0 0)])), (7, (.d (.int .i64)))], [(.cells [(.d (.int .u8)), (.d (.int .u8)), (.d (.int .i64)), (.d (.int .i64)), (.d .bool), (.d .str), (.d (.sl (.st 3))), (.d .str), (.d (.sl (.st 4)))])], 1, 19⟩, fun x => kz5 n x.1 x.2.1 x.2.2.1 x.2.2.2.1 x.2.2.2.2.1 x.2.2.2.2.2.1 x.2.2.2.2.2.2.1 x.2.2.2.2.2.2.2.1 x.2.2.2.2.2.2.2.2.1 x.2.2.2.2.2.2.2.2.2.1 x.2.2.2.2.2.2.2.2.2.2.1 x.2.2.2.2.2.2.2.2.2.2.2.1⟩)]) (ann [(6, 0)] (Tryz.f110.body.getD .skip) 0).1
noncomputable def zd3 : List (FI dat) := [zd7]
theorem zd0 : (kzh).Good Tryz.prog dat (tb zd3) := FI.yz4 (hD := zz2 _) Tryz.func110 Tryz.ntmps110 Tryz.call110 (by kernel_rfl) (of_decide_eq_true (by kernel_rfl)) (by kernel_rfl) (fun n => by kernel_rfl) (fun x => by kernel_rfl) (fun _ => rfl) ⟨fun _ => rfl, trivial⟩
 (fun n => fun x => (kz6.eq_2 x.1 x.2.1 x.2.2.1 x.2.2.2.1 x.2.2.2.2.1 x.2.2.2.2.2.1 x.2.2.2.2.2.2.1 x.2.2.2.2.2.2.2.1 x.2.2.2.2.2.2.2.2.1 x.2.2.2.2.2.2.2.2.2.1 n).trans (by kernel_rfl))
 (fun n => ⟨fun x => (kz5.eq_2 x.1 x.2.1 x.2.2.1 x.2.2.2.1 x.2.2.2.2.1 x.2.2.2.2.2.1 x.2.2.2.2.2.2.1 x.2.2.2.2.2.2.2.1 x.2.2.2.2.2.2.2.2.1 x.2.2.2.2.2.2.2.2.2.1 x.2.2.2.2.2.2.2.2.2.2.1 x.2.2.2.2.2.2.2.2.2.2.2.1 n).trans (by kernel_rfl),
  trivial⟩)
 (fun x => .inr (by kernel_rfl))
theorem zcy : OkL Tryz.prog [kzh] := zzb (zz2 _) (bs := [zd7]) ⟨y2j, trivial⟩ zd0
theorem z6w : FOk Tryz.prog kzh := zcy.1
end Go.Proofs.YtfhpamcehnfhoaaGreatDoor


namespace Go.Proofs.YtfhpamcehnfhoaaGreatDoor
open Go Go.Ab
set_option linter.unusedVariables false
set_option maxRecDepth 100000
def zzx : Nat → Int → Option (Res (Int × Unit) Unit)
 | 0, _ => none
 | n + 1, a0 =>
   pIf (a0 != 0)
     (some (Res.pan (a0, ())))
     (some (Res.ok ()))
def ygh : LSh := ⟨[], [], 0, 6⟩
noncomputable def z56 : FI dat := FI.ofP dat 74 6 0 [(.d (.int .i64))] [] [] [] (.iface 31 (.d (.int .i64))) [] [] ygh (R := Unit) (fun x => ()) (fun _ => ()) (fun n x => zzx n x.1)
 (fun n => []) (ann [] (Tryz.f74.body.getD .skip) 0).1
noncomputable def yfy : List (FI dat) := []
theorem yge : (z56).Good Tryz.prog dat (tb yfy) := FI.znn (hD := zz2 _) Tryz.func74 Tryz.ntmps74 Tryz.call74 (by kernel_rfl) (of_decide_eq_true (by kernel_rfl)) (by kernel_rfl) (fun n => by kernel_rfl) trivial (fun x => by kernel_rfl) (fun _ => rfl) trivial
 (fun n => fun x => (zzx.eq_2 x.1 n).trans (by kernel_rfl))
 (fun n => trivial)
 (fun x => by kernel_rfl)
theorem ygg : OkL Tryz.prog [z56] := zzb (zz2 _) (bs := []) trivial yge
theorem zf9 : FOk Tryz.prog z56 := ygg.1
mutual
def kzl : Nat → Int → (List zz0) → Option (Res (Int × Unit) Unit)
 | 0, _, _ => none
 | n + 1, a0, a1 =>
   z2w n 0 a0 a1 (a1.length : Int)
def z2w : Nat → Int → Int → (List zz0) → Int → Option (Res (Int × Unit) Unit)
 | 0, _, _, _, _ => none
 | n + 1, a0, a1, a2, a3 =>
   pIf (decide (a0 < a3))
     ((ix a2 a0).bind fun x0 =>
     pIf (x0.kind != a1)
       ((zzx n 20).bind fun y1 =>
       z8s y1 (fun r2 =>
         z3v n a1 a2 a3 a0)
         (fun e3 =>
         some (Res.pan (e3.1, ()))))
       (z3v n a1 a2 a3 a0))
     (some (Res.ok ()))
def z3v : Nat → Int → (List zz0) → Int → Int → Option (Res (Int × Unit) Unit)
 | 0, _, _, _, _ => none
 | n + 1, a0, a1, a2, a3 =>
   z2w n (IntKind.i64.wrap (a3 + 1)) a0 a1 a2
end
def yfq : LSh := ⟨[], [], 0, 18⟩
noncomputable def z8q : FI dat := FI.ofP dat 112 18 0 [(.d (.int .u8)), (.d (.sl (.st 3)))] [] [] [] (.iface 31 (.d (.int .i64))) [] [] yfq (R := Unit) (fun x => ()) (fun _ => ()) (fun n x => kzl n x.1 x.2.1)
 (fun n => [(0, ⟨⟨[(8, (.d (.int .i64))), (0, (.d (.int .u8))), (6, (.d (.sl (.st 3)))), (7, (.d (.int .i64)))], [], 0, 18⟩, fun x => z2w n x.1 x.2.1 x.2.2.1 x.2.2.2.1⟩), (1, ⟨⟨[(0, (.d (.int .u8))), (6, (.d (.sl (.st 3)))), (7, (.d (.int .i64))), (8, (.d (.int .i64)))], [], 0, 18⟩, fun x => z3v n x.1 x.2.1 x.2.2.1 x.2.2.2.1⟩)]) (ann [(3, 0), (19, 1)] (Tryz.f112.body.getD .skip) 0).1
noncomputable def ycm : List (FI dat) := [z56]
theorem yeo : (z8q).Good Tryz.prog dat (tb ycm) := FI.znn (hD := zz2 _) Tryz.func112 Tryz.ntmps112 Tryz.call112 (by kernel_rfl) (of_decide_eq_true (by kernel_rfl)) (by kernel_rfl) (fun n => by kernel_rfl) trivial (fun x => by kernel_rfl) (fun _ => rfl) ⟨fun _ => rfl, fun _ => rfl, trivial⟩
 (fun n => fun x => (kzl.eq_2 x.1 x.2.1 n).trans (by kernel_rfl))
 (fun n => ⟨fun x => (z2w.eq_2 x.1 x.2.1 x.2.2.1 x.2.2.2.1 n).trans (by kernel_rfl),
  fun x => (z3v.eq_2 x.1 x.2.1 x.2.2.1 x.2.2.2.1 n).trans (by kernel_rfl),
  trivial⟩)
 (fun x => by kernel_rfl)
theorem yfi : OkL Tryz.prog [z8q] := zzb (zz2 _) (bs := [z56]) ⟨zf9, trivial⟩ yeo
theorem zof : FOk Tryz.prog z8q := yfi.1
def z33 : Nat → zz0 → zz0 → Option Int
 | 0, _, _ => none
 | n + 1, a0, a1 =>
   (yzx n a0.re).bind fun y0 =>
   pIf (y0 != 0)
     (some y0)
     ((yzx n a1.re).bind fun y1 =>
     some y1)
def y9g : LSh := ⟨[(4, (.d (.int .i64)))], [], 0, 13⟩
noncomputable def za1 : FI dat := FI.of dat 166 13 0 [(.d (.st 3)), (.d (.st 3))] [] [(.d (.int .i64))] [] true y9g (R := Int) (fun x => x.1) (fun r => (r, ())) (fun n x => z33 n x.1 x.2.1)
 (fun n => []) (ann [] (Tryz.f166.body.getD .skip) 0).1
noncomputable def y8v : List (FI dat) := [z1m]
theorem ya1 : (za1).Good Tryz.prog dat (tb y8v) := FI.yz4 (hD := zz2 _) Tryz.func166 Tryz.ntmps166 Tryz.call166 (by kernel_rfl) (of_decide_eq_true (by kernel_rfl)) (by kernel_rfl) (fun n => by kernel_rfl) (fun x => by kernel_rfl) (fun _ => rfl) trivial
 (fun n => fun x => (z33.eq_2 x.1 x.2.1 n).trans (by kernel_rfl))
 (fun n => trivial)
 (fun x => .inl rfl)
theorem ybl : OkL Tryz.prog [za1] := zzb (zz2 _) (bs := [z1m]) ⟨z9e, trivial⟩ ya1
theorem ztf : FOk Tryz.prog za1 := ybl.1
mutual
def z0z : Nat → (List Int) → Option Int
 | 0, _ => none
 | n + 1, a0 =>
   yzw n 0 0 a0 (a0.length : Int)
def yzw : Nat → Int → Int → (List Int) → Int → Option Int
 | 0, _, _, _, _ => none
 | n + 1, a0, a1, a2, a3 =>
   pIf (decide (a0 < a3))
     ((ix a2 a0).bind fun x0 =>
     pIf (x0 != a1)
       (some x0)
       (yzw n (IntKind.i64.wrap (a0 + 1)) a1 a2 a3))
     (some a1)
end
def ztz : LSh := ⟨[(2, (.d (.int .i64)))], [], 0, 18⟩
noncomputable def z7z : FI dat := FI.of dat 193 18 0 [(.d (.sl (.int .i64)))] [] [(.d (.int .i64))] [] true ztz (R := Int) (fun x => x.1) (fun r => (r, ())) (fun n x => z0z n x.1)
 (fun n => [(0, ⟨⟨[(8, (.d (.int .i64))), (3, (.d (.int .i64))), (6, (.d (.sl (.int .i64)))), (7, (.d (.int .i64)))], [], 0, 18⟩, fun x => yzw n x.1 x.2.1 x.2.2.1 x.2.2.2.1⟩)]) (ann [(8, 0)] (Tryz.f193.body.getD .skip) 0).1
noncomputable def ztn : List (FI dat) := []
theorem zu6 : (z7z).Good Tryz.prog dat (tb ztn) := FI.yz4 (hD := zz2 _) Tryz.func193 Tryz.ntmps193 Tryz.call193 (by kernel_rfl) (of_decide_eq_true (by kernel_rfl)) (by kernel_rfl) (fun n => by kernel_rfl) (fun x => by kernel_rfl) (fun _ => rfl) ⟨fun _ => rfl, trivial⟩
 (fun n => fun x => (z0z.eq_2 x.1 n).trans (by kernel_rfl))
 (fun n => ⟨fun x => (yzw.eq_2 x.1 x.2.1 x.2.2.1 x.2.2.2.1 n).trans (by kernel_rfl),
  trivial⟩)
 (fun x => .inl rfl)
theorem ztl : OkL Tryz.prog [z7z] := zzb (zz2 _) (bs := []) trivial zu6
theorem zsr : FOk Tryz.prog z7z := ztl.1
def z1n : Nat → yz1 → yz1 → Option z4f
 | 0, _, _ => none
 | n + 1, a0, a1 =>
   (z2e n a0).bind fun y0 =>
   (z2e n a1).bind fun y1 =>
   (z0z n [y0, y1]).bind fun y2 =>
   some (z4f.mk a0 a1 (yz1.mk 0 0) y2)
def y8t : LSh := ⟨[(4, (.ptr 0 0))], [(.st 8)], 0, 14⟩
noncomputable def z47 : FI dat := FI.of dat 182 14 0 [(.d (.st 2)), (.d (.st 2))] [] [(.d (.st 8))] [] true y8t (R := z4f) (fun x => x.1) (fun r => (r, ())) (fun n x => z1n n x.1 x.2.1)
 (fun n => []) (ann [] (Tryz.f182.body.getD .skip) 0).1
noncomputable def ybg : List (FI dat) := [z69, z7z]
theorem y9p : (z47).Good Tryz.prog dat (tb ybg) := FI.yz4 (hD := zz2 _) Tryz.func182 Tryz.ntmps182 Tryz.call182 (by kernel_rfl) (of_decide_eq_true (by kernel_rfl)) (by kernel_rfl) (fun n => by kernel_rfl) (fun x => by kernel_rfl) (fun _ => rfl) trivial
 (fun n => fun x => (z1n.eq_2 x.1 x.2.1 n).trans (by kernel_rfl))
 (fun n => trivial)
 (fun x => .inl rfl)
theorem yaj : OkL Tryz.prog [z47] := zzb (zz2 _) (bs := [z69, z7z]) ⟨zkb, zsr, trivial⟩ y9p
theorem zdm : FOk Tryz.prog z47 := yaj.1
def z4r : Nat → yz1 → yz1 → Option (Int × Int)
 | 0, _, _ => none
 | n + 1, a0, a1 =>
   some ((IntKind.i64.wrap ((IntKind.i64.wrap (a0.num * a1.den)) + (IntKind.i64.wrap (a1.num * a0.den)))), (IntKind.i64.wrap (a0.den * a1.den)))
def y5g : LSh := ⟨[(4, (.d (.int .i64))), (5, (.d (.int .i64)))], [], 0, 22⟩
noncomputable def zdd : FI dat := FI.of dat 181 22 0 [(.d (.st 2)), (.d (.st 2))] [] [(.d (.int .i64)), (.d (.int .i64))] [] true y5g (R := Int × Int) (fun x => (x.1, x.2.1)) (fun r => (r.1, r.2, ())) (fun n x => z4r n x.1 x.2.1)
 (fun n => []) (ann [] (Tryz.f181.body.getD .skip) 0).1
noncomputable def y4i : List (FI dat) := []
theorem y57 : (zdd).Good Tryz.prog dat (tb y4i) := FI.yz4 (hD := zz2 _) Tryz.func181 Tryz.ntmps181 Tryz.call181 (by kernel_rfl) (of_decide_eq_true (by kernel_rfl)) (by kernel_rfl) (fun n => by kernel_rfl) (fun x => by kernel_rfl) (fun _ => rfl) trivial
 (fun n => fun x => (z4r.eq_2 x.1 x.2.1 n).trans (by kernel_rfl))
 (fun n => trivial)
 (fun x => .inl rfl)
theorem y5v : OkL Tryz.prog [zdd] := zzb (zz2 _) (bs := []) trivial y57
theorem y2r : FOk Tryz.prog zdd := y5v.1
mutual
def z2q : Nat → Int → Int → Option (Int × yz1)
 | 0, _, _ => none
 | n + 1, a0, a1 =>
   pIf (a1 == 0)
     (some (18, (yz1.mk 0 0)))
     ((z10 n a0).bind fun y0 =>
     (z10 n a1).bind fun y1 =>
     (z3b n y0 y1).bind fun y2 =>
     (quo .u64 y0 y2).bind fun x3 =>
     (quo .u64 y1 y2).bind fun x4 =>
     pIf (decide (x3 > 1000000000))
       (z29 n a1 a0 x4 x3 true (yz1.mk 0 0))
       (z29 n a1 a0 x4 x3 (decide (x4 > 1000000000)) (yz1.mk 0 0)))
def z29 : Nat → Int → Int → Int → Int → Bool → yz1 → Option (Int × yz1)
 | 0, _, _, _, _, _, _ => none
 | n + 1, a0, a1, a2, a3, a4, a5 =>
   pIf a4
     (some (16, (yz1.mk 0 0)))
     (pIf (!((decide (a1 < 0)) == (decide (a0 < 0))))
       (z26 n a5 (yz1.mk (IntKind.i64.wrap (0 - (IntKind.i64.wrap a3))) (IntKind.i64.wrap a2)))
       (z26 n a5 (yz1.mk (IntKind.i64.wrap a3) (IntKind.i64.wrap a2))))
def z26 : Nat → yz1 → yz1 → Option (Int × yz1)
 | 0, _, _ => none
 | n + 1, a0, a1 =>
   some (0, a1)
end
def y8w : LSh := ⟨[(4, (.ptr 0 0)), (5, (.d (.int .i64)))], [(.st 2)], 0, 48⟩
noncomputable def za2 : FI dat := FI.of dat 147 48 0 [(.d (.int .i64)), (.d (.int .i64))] [] [(.d (.st 2)), (.d (.int .i64))] [] true y8w (R := Int × yz1) (fun x => (x.1, x.2.1)) (fun r => (r.2, r.1, ())) (fun n x => z2q n x.1 x.2.1)
 (fun n => [(0, ⟨⟨[(4, (.ptr 0 0)), (1, (.d (.int .i64))), (0, (.d (.int .i64))), (7, (.d (.int .u64))), (6, (.d (.int .u64))), (31, (.d .bool))], [(.st 2)], 0, 48⟩, fun x => z29 n x.1 x.2.1 x.2.2.1 x.2.2.2.1 x.2.2.2.2.1 x.2.2.2.2.2.1⟩), (1, ⟨⟨[(4, (.ptr 0 0)), (9, (.ptr 1 0))], [(.st 2), (.st 2)], 0, 48⟩, fun x => z26 n x.1 x.2.1⟩)]) (ann [(19, 0), (32, 1)] (Tryz.f147.body.getD .skip) 0).1
noncomputable def ybp : List (FI dat) := [z5d, z6k]
theorem yac : (za2).Good Tryz.prog dat (tb ybp) := FI.yz4 (hD := zz2 _) Tryz.func147 Tryz.ntmps147 Tryz.call147 (by kernel_rfl) (of_decide_eq_true (by kernel_rfl)) (by kernel_rfl) (fun n => by kernel_rfl) (fun x => by kernel_rfl) (fun _ => rfl) ⟨fun _ => rfl, fun _ => rfl, trivial⟩
 (fun n => fun x => (z2q.eq_2 x.1 x.2.1 n).trans (by kernel_rfl))
 (fun n => ⟨fun x => (z29.eq_2 x.1 x.2.1 x.2.2.1 x.2.2.2.1 x.2.2.2.2.1 x.2.2.2.2.2.1 n).trans (by kernel_rfl),
  fun x => (z26.eq_2 x.1 x.2.1 n).trans (by kernel_rfl),
  trivial⟩)
 (fun x => .inl rfl)
theorem ya8 : OkL Tryz.prog [za2] := zzb (zz2 _) (bs := [z5d, z6k]) ⟨zn0, zo4, trivial⟩ yac
theorem zte : FOk Tryz.prog za2 := ya8.1
def z04 : Nat → Int → Int → z4f → Option z4f
 | 0, _, _, _ => none
 | n + 1, a0, a1, a2 =>
   pIf (a2.e == 0)
     ((z2q n a0 a1).bind fun y0 =>
     some (z4f.mk a2.a a2.b y0.2 y0.1))
     (some a2)
def zwj : LSh := ⟨[], [(.st 8)], 1, 23⟩
noncomputable def z2c : FI dat := FI.of dat 184 23 1 [(.ptr 0 0), (.d (.int .i64)), (.d (.int .i64))] [(.st 8)] [] [(.st 8)] false zwj (R := z4f) (fun x => x.1) (fun r => (r, ())) (fun n x => z04 n x.1 x.2.1 x.2.2.1)
 (fun n => []) (ann [] (Tryz.f184.body.getD .skip) 0).1
noncomputable def zwn : List (FI dat) := [za2]
theorem zvx : (z2c).Good Tryz.prog dat (tb zwn) := FI.yz4 (hD := zz2 _) Tryz.func184 Tryz.ntmps184 Tryz.call184 (by kernel_rfl) (of_decide_eq_true (by kernel_rfl)) (by kernel_rfl) (fun n => by kernel_rfl) (fun x => by kernel_rfl) (fun _ => rfl) trivial
 (fun n => fun x => (z04.eq_2 x.1 x.2.1 x.2.2.1 n).trans (by kernel_rfl))
 (fun n => trivial)
 (fun x => .inr (by kernel_rfl))
theorem zw7 : OkL Tryz.prog [z2c] := zzb (zz2 _) (bs := [za2]) ⟨zte, trivial⟩ zvx
theorem zaq : FOk Tryz.prog z2c := zw7.1
def zzl : Nat → Int → Int → Int → Int → Int → Int → Int → Int → Int → Int → Option (Int × Int × Int × Int × Int × Int × Int × Int × Int × Int)
 | 0, _, _, _, _, _, _, _, _, _, _ => none
 | n + 1, a0, a1, a2, a3, a4, a5, a6, a7, a8, a9 =>
   some (a0, a1, a2, a3, a4, a5, a6, a4, a5, a6)
def zt6 : LSh := ⟨[], [(.cells [(.d (.int .i64)), (.d (.int .i64)), (.d (.int .i64)), (.d (.int .i64)), (.d (.int .i64)), (.d (.int .i64)), (.d (.int .i64))]), (.cells [(.d (.int .i64)), (.d (.int .i64))]), (.cells [(.d (.int .i64))])], 3, 7⟩
noncomputable def y59 : FI dat := FI.of dat 183 7 3 [(.ptr 0 0), (.ptr 1 0), (.ptr 2 0)] [(.cells [(.d (.int .i64)), (.d (.int .i64)), (.d (.int .i64)), (.d (.int .i64)), (.d (.int .i64)), (.d (.int .i64)), (.d (.int .i64))]), (.cells [(.d (.int .i64)), (.d (.int .i64))]), (.cells [(.d (.int .i64))])] [] [(.cells [(.d (.int .i64)), (.d (.int .i64)), (.d (.int .i64)), (.d (.int .i64)), (.d (.int .i64)), (.d (.int .i64)), (.d (.int .i64))]), (.cells [(.d (.int .i64)), (.d (.int .i64))]), (.cells [(.d (.int .i64))])] false zt6 (R := Int × Int × Int × Int × Int × Int × Int × Int × Int × Int) (fun x => (x.1, x.2.1, x.2.2.1, x.2.2.2.1, x.2.2.2.2.1, x.2.2.2.2.2.1, x.2.2.2.2.2.2.1, x.2.2.2.2.2.2.2.1, x.2.2.2.2.2.2.2.2.1, x.2.2.2.2.2.2.2.2.2.1)) (fun r => (r.1, r.2.1, r.2.2.1, r.2.2.2.1, r.2.2.2.2.1, r.2.2.2.2.2.1, r.2.2.2.2.2.2.1, r.2.2.2.2.2.2.2.1, r.2.2.2.2.2.2.2.2.1, r.2.2.2.2.2.2.2.2.2, ())) (fun n x => zzl n x.1 x.2.1 x.2.2.1 x.2.2.2.1 x.2.2.2.2.1 x.2.2.2.2.2.1 x.2.2.2.2.2.2.1 x.2.2.2.2.2.2.2.1 x.2.2.2.2.2.2.2.2.1 x.2.2.2.2.2.2.2.2.2.1)
 (fun n => []) (ann [] (Tryz.f183.body.getD .skip) 0).1
noncomputable def y69 : List (FI dat) := []
theorem y6o : (y59).Good Tryz.prog dat (tb y69) := FI.yz4 (hD := zz2 _) Tryz.func183 Tryz.ntmps183 Tryz.call183 (by kernel_rfl) (of_decide_eq_true (by kernel_rfl)) (by kernel_rfl) (fun n => by kernel_rfl) (fun x => by kernel_rfl) (fun _ => rfl) trivial
 (fun n => fun x => (zzl.eq_2 x.1 x.2.1 x.2.2.1 x.2.2.2.1 x.2.2.2.2.1 x.2.2.2.2.2.1 x.2.2.2.2.2.2.1 x.2.2.2.2.2.2.2.1 x.2.2.2.2.2.2.2.2.1 x.2.2.2.2.2.2.2.2.2.1 n).trans (by kernel_rfl))
 (fun n => trivial)
 (fun x => .inr (by kernel_rfl))
noncomputable def zdh : zhk dat := { f := 183, args := [(.ptr 0 0), (.ptr 1 0), (.ptr 2 0)], aos := [(.cells [(.d (.int .i64)), (.d (.int .i64)), (.d (.int .i64)), (.d (.int .i64)), (.d (.int .i64)), (.d (.int .i64)), (.d (.int .i64))]), (.cells [(.d (.int .i64)), (.d (.int .i64))]), (.cells [(.d (.int .i64))])], m := none, ros := [(.cells [(.d (.int .i64)), (.d (.int .i64)), (.d (.int .i64)), (.d (.int .i64)), (.d (.int .i64)), (.d (.int .i64)), (.d (.int .i64))]), (.cells [(.d (.int .i64)), (.d (.int .i64))]), (.cells [(.d (.int .i64))])], go := fun x _ => (zzl 9 x.1 x.2.1 x.2.2.1 x.2.2.2.1 x.2.2.2.2.1 x.2.2.2.2.2.1 x.2.2.2.2.2.2.1 x.2.2.2.2.2.2.2.1 x.2.2.2.2.2.2.2.2.1 x.2.2.2.2.2.2.2.2.2.1).bind fun r => some (r.1, r.2.1, r.2.2.1, r.2.2.2.1, r.2.2.2.2.1, r.2.2.2.2.2.1, r.2.2.2.2.2.2.1, r.2.2.2.2.2.2.2.1, r.2.2.2.2.2.2.2.2.1, r.2.2.2.2.2.2.2.2.2, ()) }
theorem zdy : (zdh).Ok Tryz.prog := ymb (args := [(.ptr 0 0), (.ptr 1 0), (.ptr 2 0)]) (aos := [(.cells [(.d (.int .i64)), (.d (.int .i64)), (.d (.int .i64)), (.d (.int .i64)), (.d (.int .i64)), (.d (.int .i64)), (.d (.int .i64))]), (.cells [(.d (.int .i64)), (.d (.int .i64))]), (.cells [(.d (.int .i64))])]) (ros := [(.cells [(.d (.int .i64)), (.d (.int .i64)), (.d (.int .i64)), (.d (.int .i64)), (.d (.int .i64)), (.d (.int .i64)), (.d (.int .i64))]), (.cells [(.d (.int .i64)), (.d (.int .i64))]), (.cells [(.d (.int .i64))])]) (l := zt6) (pack := fun x => (x.1, x.2.1, x.2.2.1, x.2.2.2.1, x.2.2.2.2.1, x.2.2.2.2.2.1, x.2.2.2.2.2.2.1, x.2.2.2.2.2.2.2.1, x.2.2.2.2.2.2.2.2.1, x.2.2.2.2.2.2.2.2.2.1)) (un := fun r => (r.1, r.2.1, r.2.2.1, r.2.2.2.1, r.2.2.2.2.1, r.2.2.2.2.2.1, r.2.2.2.2.2.2.1, r.2.2.2.2.2.2.2.1, r.2.2.2.2.2.2.2.2.1, r.2.2.2.2.2.2.2.2.2, ())) (go := fun x => zzl 9 x.1 x.2.1 x.2.2.1 x.2.2.2.1 x.2.2.2.2.1 x.2.2.2.2.2.1 x.2.2.2.2.2.2.1 x.2.2.2.2.2.2.2.1 x.2.2.2.2.2.2.2.2.1 x.2.2.2.2.2.2.2.2.2.1) (zz2 _) Tryz.func183 (by kernel_rfl) Tryz.ntmps183 Tryz.call183 (Nat.le_of_ble_eq_true (by kernel_rfl)) (Nat.le_of_ble_eq_true (by kernel_rfl)) (Nat.le_of_ble_eq_true (by kernel_rfl)) (by kernel_rfl) (by kernel_rfl) (fun x => by kernel_rfl) (ypg (zz2 _) y6o trivial 9)
end Go.Proofs.YtfhpamcehnfhoaaGreatDoor


namespace Go.Proofs.YtfhpamcehnfhoaaGreatDoor
open Go Go.Ab
set_option linter.unusedVariables false
set_option maxRecDepth 100000
def z3p : Nat → yz1 → yz1 → Option (yz1 × Int)
 | 0, _, _ => none
 | n + 1, a0, a1 =>
   (z1n n a0 a1).bind fun y0 =>
   pIf (y0.e == 0)
     ((z4r n y0.a y0.b).bind fun y1 =>
     (z04 n y1.1 y1.2 y0).bind fun y2 =>
     (((zzl 9 y2.a.num y2.a.den y2.b.num y2.b.den y2.out.num y2.out.den y2.e 0 0 0).bind fun r4 => some (r4.1, r4.2.1, r4.2.2.1, r4.2.2.2.1, r4.2.2.2.2.1, r4.2.2.2.2.2.1, r4.2.2.2.2.2.2.1, r4.2.2.2.2.2.2.2.1, r4.2.2.2.2.2.2.2.2.1, r4.2.2.2.2.2.2.2.2.2, ()))).bind fun y3 =>
     some ((yz1.mk y3.2.2.2.2.2.2.2.1 y3.2.2.2.2.2.2.2.2.1), y3.2.2.2.2.2.2.2.2.2.1))
     ((((zzl 9 y0.a.num y0.a.den y0.b.num y0.b.den y0.out.num y0.out.den y0.e 0 0 0).bind fun r6 => some (r6.1, r6.2.1, r6.2.2.1, r6.2.2.2.1, r6.2.2.2.2.1, r6.2.2.2.2.2.1, r6.2.2.2.2.2.2.1, r6.2.2.2.2.2.2.2.1, r6.2.2.2.2.2.2.2.2.1, r6.2.2.2.2.2.2.2.2.2, ()))).bind fun y5 =>
     some ((yz1.mk y5.2.2.2.2.2.2.2.1 y5.2.2.2.2.2.2.2.2.1), y5.2.2.2.2.2.2.2.2.2.1))
def y1u : LSh := ⟨[(6, (.ptr 0 0)), (7, (.ptr 1 0))], [(.st 2), (.cells [(.d (.int .i64))])], 0, 27⟩
noncomputable def zbf : FI dat := FI.ofD dat 168 27 0 [(.d (.st 2)), (.d (.st 2)), (.fn 181 [] [])] [] [(.d (.st 2)), (.d (.int .i64))] [(.st 2), (.cells [(.d (.int .i64))])] [zdh] y1u (R := yz1 × Int) (fun x => (x.1, x.2.1)) (fun r => (r.1, r.2, r.1, r.2, ())) (fun n x => z3p n x.1 x.2.1)
 (fun n => []) (ann [] (Tryz.f168.body.getD .skip) 0).1
noncomputable def y2s : List (FI dat) := [z47, zdd, z2c]
theorem y0g : (zbf).Good Tryz.prog dat (tb y2s) := FI.zno (hD := zz2 _) Tryz.func168 Tryz.ntmps168 Tryz.call168 (by kernel_rfl) (of_decide_eq_true (by kernel_rfl)) (by kernel_rfl) (fun n => by kernel_rfl) ⟨zdy, trivial⟩ (fun x => by kernel_rfl) (fun _ => rfl) trivial
 (fun n => fun x => (z3p.eq_2 x.1 x.2.1 n).trans (by kernel_rfl))
 (fun n => trivial)
 (fun x => by kernel_rfl)
theorem y2e : OkL Tryz.prog [zbf] := zzb (zz2 _) (bs := [z47, zdd, z2c]) ⟨zdm, y2r, zaq, trivial⟩ y0g
theorem zyw : FOk Tryz.prog zbf := y2e.1
def z6e : Nat → yz1 → yz1 → Option (Int × yz1)
 | 0, _, _ => none
 | n + 1, a0, a1 =>
   (z3p n a0 a1).bind fun y0 =>
   some (y0.2, y0.1)
def ygj : LSh := ⟨[(4, (.ptr 0 0)), (5, (.d (.int .i64)))], [(.st 2)], 0, 11⟩
noncomputable def zhl : FI dat := FI.of dat 167 11 0 [(.d (.st 2)), (.d (.st 2))] [] [(.d (.st 2)), (.d (.int .i64))] [] true ygj (R := Int × yz1) (fun x => (x.1, x.2.1)) (fun r => (r.2, r.1, ())) (fun n x => z6e n x.1 x.2.1)
 (fun n => []) (ann [] (Tryz.f167.body.getD .skip) 0).1
noncomputable def ycf : List (FI dat) := [zbf]
theorem yfn : (zhl).Good Tryz.prog dat (tb ycf) := FI.yz4 (hD := zz2 _) Tryz.func167 Tryz.ntmps167 Tryz.call167 (by kernel_rfl) (of_decide_eq_true (by kernel_rfl)) (by kernel_rfl) (fun n => by kernel_rfl) (fun x => by kernel_rfl) (fun _ => rfl) trivial
 (fun n => fun x => (z6e.eq_2 x.1 x.2.1 n).trans (by kernel_rfl))
 (fun n => trivial)
 (fun x => .inl rfl)
theorem yfh : OkL Tryz.prog [zhl] := zzb (zz2 _) (bs := [zbf]) ⟨zyw, trivial⟩ yfn
theorem yad : FOk Tryz.prog zhl := yfh.1
mutual
def z1u : Nat → zz0 → Option zz0
 | 0, _ => none
 | n + 1, a0 =>
   z0r n 0 a0.list (a0.list.length : Int) [] 0 0 0 false [] a0.re []
def z0r : Nat → Int → (List zz0) → Int → (List zz0) → Int → Int → Int → Bool → (List UInt8) → zz0 → (List zz0) → Option zz0
 | 0, _, _, _, _, _, _, _, _, _, _, _ => none
 | n + 1, a0, a1, a2, a3, a4, a5, a6, a7, a8, a9, a10 =>
   pIf (decide (a0 < a2))
     ((ix a1 a0).bind fun x0 =>
     (z1u n x0.re).bind fun y1 =>
     (ext a3 [y1.re]).bind fun x2 =>
     z0r n (IntKind.i64.wrap (a0 + 1)) a1 a2 x2 a4 a5 a6 a7 a8 a9.re a10)
     (some (zz0.mk a9.kind a9.num a9.truth a9.str a3))
end
def y3l : LSh := ⟨[(3, (.ptr 1 0))], [(.cells [(.fn 109 [] [(.ptr 0 0)])]), (.st 3)], 1, 24⟩
noncomputable def z6q : FI dat := FI.of dat 109 24 1 [(.d (.st 3)), (.ptr 0 0)] [(.cells [(.fn 109 [] [(.ptr 0 0)])])] [(.d (.st 3))] [(.cells [(.fn 109 [] [(.ptr 0 0)])]), (.st 3)] false y3l (R := zz0) (fun x => x.1) (fun r => (r, r, ())) (fun n x => z1u n x.1)
 (fun n => [(0, ⟨⟨[(10, (.d (.int .i64))), (1, (.ptr 0 0)), (4, (.own 1)), (8, (.d (.sl (.st 3)))), (3, (.ptr 2 0)), (2, (.ptr 3 0)), (9, (.d (.int .i64)))], [(.cells [(.fn 109 [] [(.ptr 0 0)])]), (.acc 26 (.st 3) true), (.cells [(.d (.int .u8)), (.d (.int .i64)), (.d (.int .i64)), (.d .bool), (.d .str), (.own 4)]), (.st 3), (.acc 26 (.st 3) true)], 1, 24⟩, fun x => z0r n x.1 x.2.1 x.2.2.1 x.2.2.2.1 x.2.2.2.2.1 x.2.2.2.2.2.1 x.2.2.2.2.2.2.1 x.2.2.2.2.2.2.2.1 x.2.2.2.2.2.2.2.2.1 x.2.2.2.2.2.2.2.2.2.1 x.2.2.2.2.2.2.2.2.2.2.1⟩)]) (ann [(8, 0)] (Tryz.f109.body.getD .skip) 0).1
noncomputable def y1x : List (FI dat) := [z6q] ++ []
theorem y3k : (z6q).Good Tryz.prog dat (tb y1x) := FI.yz4 (hD := zz2 _) Tryz.func109 Tryz.ntmps109 Tryz.call109 (by kernel_rfl) (of_decide_eq_true (by kernel_rfl)) (by kernel_rfl) (fun n => by kernel_rfl) (fun x => by kernel_rfl) (fun _ => rfl) ⟨fun _ => rfl, trivial⟩
 (fun n => fun x => (z1u.eq_2 x.1 n).trans (by kernel_rfl))
 (fun n => ⟨fun x => (z0r.eq_2 x.1 x.2.1 x.2.2.1 x.2.2.2.1 x.2.2.2.2.1 x.2.2.2.2.2.1 x.2.2.2.2.2.2.1 x.2.2.2.2.2.2.2.1 x.2.2.2.2.2.2.2.2.1 x.2.2.2.2.2.2.2.2.2.1 x.2.2.2.2.2.2.2.2.2.2.1 n).trans (by kernel_rfl),
  trivial⟩)
 (fun x => .inr (by kernel_rfl))
theorem y0l : OkL Tryz.prog [z6q] := z3y (zz2 _) (bs := []) trivial ⟨y3k, trivial⟩
theorem zpt : FOk Tryz.prog z6q := y0l.1
mutual
def z1o : Nat → zz0 → Option (Int × Int × Int × Bool × (List UInt8) × (List zz0))
 | 0, _ => none
 | n + 1, a0 =>
   kzq n 0 a0.list (a0.list.length : Int) [] 0 0 0 false [] a0.re []
def kzq : Nat → Int → (List zz0) → Int → (List zz0) → Int → Int → Int → Bool → (List UInt8) → zz0 → (List zz0) → Option (Int × Int × Int × Bool × (List UInt8) × (List zz0))
 | 0, _, _, _, _, _, _, _, _, _, _, _ => none
 | n + 1, a0, a1, a2, a3, a4, a5, a6, a7, a8, a9, a10 =>
   pIf (decide (a0 < a2))
     ((ix a1 a0).bind fun x0 =>
     (z1u n x0.re).bind fun y1 =>
     (ext a3 [y1.re]).bind fun x2 =>
     kzq n (IntKind.i64.wrap (a0 + 1)) a1 a2 x2 a4 a5 a6 a7 a8 a9.re a10)
     (some (a9.kind, a9.num.num, a9.num.den, a9.truth, a9.str, a3))
end
def zv3 : LSh := ⟨[(3, (.ptr 1 0))], [(.cells [(.fn 109 [] [(.ptr 0 0)])]), (.cells [(.d (.int .u8)), (.d (.int .i64)), (.d (.int .i64)), (.d .bool), (.d .str), (.own 2)]), (.acc 26 (.st 3) true)], 1, 24⟩
noncomputable def z8r : FI dat := FI.of dat 109 24 1 [(.d (.st 3)), (.ptr 0 0)] [(.cells [(.fn 109 [] [(.ptr 0 0)])])] [(.agg [(.d (.int .u8)), (.d (.int .i64)), (.d (.int .i64)), (.d .bool), (.d .str), (.own 2)])] [(.cells [(.fn 109 [] [(.ptr 0 0)])]), (.cells [(.d (.int .u8)), (.d (.int .i64)), (.d (.int .i64)), (.d .bool), (.d .str), (.own 2)]), (.acc 26 (.st 3) true)] false zv3 (R := Int × Int × Int × Bool × (List UInt8) × (List zz0)) (fun x => (x.1, x.2.1, x.2.2.1, x.2.2.2.1, x.2.2.2.2.1, x.2.2.2.2.2.1)) (fun r => (r.1, r.2.1, r.2.2.1, r.2.2.2.1, r.2.2.2.2.1, r.1, r.2.1, r.2.2.1, r.2.2.2.1, r.2.2.2.2.1, r.2.2.2.2.2, ())) (fun n x => z1o n x.1)
 (fun n => [(0, ⟨⟨[(10, (.d (.int .i64))), (1, (.ptr 0 0)), (4, (.own 1)), (8, (.d (.sl (.st 3)))), (3, (.ptr 2 0)), (2, (.ptr 3 0)), (9, (.d (.int .i64)))], [(.cells [(.fn 109 [] [(.ptr 0 0)])]), (.acc 26 (.st 3) true), (.cells [(.d (.int .u8)), (.d (.int .i64)), (.d (.int .i64)), (.d .bool), (.d .str), (.own 4)]), (.st 3), (.acc 26 (.st 3) true)], 1, 24⟩, fun x => kzq n x.1 x.2.1 x.2.2.1 x.2.2.2.1 x.2.2.2.2.1 x.2.2.2.2.2.1 x.2.2.2.2.2.2.1 x.2.2.2.2.2.2.2.1 x.2.2.2.2.2.2.2.2.1 x.2.2.2.2.2.2.2.2.2.1 x.2.2.2.2.2.2.2.2.2.2.1⟩)]) (ann [(8, 0)] (Tryz.f109.body.getD .skip) 0).1
noncomputable def zun : List (FI dat) := [z6q]
theorem zuq : (z8r).Good Tryz.prog dat (tb zun) := FI.yz4 (hD := zz2 _) Tryz.func109 Tryz.ntmps109 Tryz.call109 (by kernel_rfl) (of_decide_eq_true (by kernel_rfl)) (by kernel_rfl) (fun n => by kernel_rfl) (fun x => by kernel_rfl) (fun _ => rfl) ⟨fun _ => rfl, trivial⟩
 (fun n => fun x => (z1o.eq_2 x.1 n).trans (by kernel_rfl))
 (fun n => ⟨fun x => (kzq.eq_2 x.1 x.2.1 x.2.2.1 x.2.2.2.1 x.2.2.2.2.1 x.2.2.2.2.2.1 x.2.2.2.2.2.2.1 x.2.2.2.2.2.2.2.1 x.2.2.2.2.2.2.2.2.1 x.2.2.2.2.2.2.2.2.2.1 x.2.2.2.2.2.2.2.2.2.2.1 n).trans (by kernel_rfl),
  trivial⟩)
 (fun x => .inr (by kernel_rfl))
theorem zuo : OkL Tryz.prog [z8r] := zzb (zz2 _) (bs := [z6q]) ⟨zpt, trivial⟩ zuq
theorem zu4 : FOk Tryz.prog z8r := zuo.1
def z25 : Nat → zz0 → Option (Int × Int × Int × Bool × (List UInt8) × (List zz0))
 | 0, _ => none
 | n + 1, a0 =>
   (z1o n a0.re).bind fun y0 =>
   some (y0.1, y0.2.1, y0.2.2.1, y0.2.2.2.1, y0.2.2.2.2.1, y0.2.2.2.2.2)
def zyt : LSh := ⟨[(2, (.ptr 0 0))], [(.cells [(.d (.int .u8)), (.d (.int .i64)), (.d (.int .i64)), (.d .bool), (.d .str), (.own 1)]), (.acc 26 (.st 3) true)], 0, 8⟩
noncomputable def za7 : FI dat := FI.of dat 81 8 0 [(.d (.st 3))] [] [(.agg [(.d (.int .u8)), (.d (.int .i64)), (.d (.int .i64)), (.d .bool), (.d .str), (.own 1)])] [(.cells [(.d (.int .u8)), (.d (.int .i64)), (.d (.int .i64)), (.d .bool), (.d .str), (.own 1)]), (.acc 26 (.st 3) true)] false zyt (R := Int × Int × Int × Bool × (List UInt8) × (List zz0)) (fun x => (x.1, x.2.1, x.2.2.1, x.2.2.2.1, x.2.2.2.2.1, x.2.2.2.2.2.1)) (fun r => (r.1, r.2.1, r.2.2.1, r.2.2.2.1, r.2.2.2.2.1, r.1, r.2.1, r.2.2.1, r.2.2.2.1, r.2.2.2.2.1, r.2.2.2.2.2, ())) (fun n x => z25 n x.1)
 (fun n => []) (ann [] (Tryz.f81.body.getD .skip) 0).1
noncomputable def zyq : List (FI dat) := [z8r]
theorem zyp : (za7).Good Tryz.prog dat (tb zyq) := FI.yz4 (hD := zz2 _) Tryz.func81 Tryz.ntmps81 Tryz.call81 (by kernel_rfl) (of_decide_eq_true (by kernel_rfl)) (by kernel_rfl) (fun n => by kernel_rfl) (fun x => by kernel_rfl) (fun _ => rfl) trivial
 (fun n => fun x => (z25.eq_2 x.1 n).trans (by kernel_rfl))
 (fun n => trivial)
 (fun x => .inr (by kernel_rfl))
theorem zyy : OkL Tryz.prog [za7] := zzb (zz2 _) (bs := [z8r]) ⟨zu4, trivial⟩ zyp
theorem zw4 : FOk Tryz.prog za7 := zyy.1
mutual
def z4x : Nat → zz0 → zz0 → Option (Int × zz0)
 | 0, _, _ => none
 | n + 1, a0, a1 =>
   (z33 n a0.re a1.re).bind fun y0 =>
   pIf (y0 != 0)
     (some (y0, (zz0.mk 0 (yz1.mk 0 0) false [] [])))
     (pIf (a0.kind != a1.kind)
       (some (20, (zz0.mk 0 (yz1.mk 0 0) false [] [])))
       (pIf (a0.kind == 1)
         ((z6e n a0.num a1.num).bind fun y1 =>
         pIf (y1.1 != 0)
           (some (y1.1, (zz0.mk 0 (yz1.mk 0 0) false [] [])))
           (z0m n 0 0 0 false [] a0.kind y1.2.num y1.2.den false [] [] []))
         (pIf (a0.kind == 3)
           ((cat a0.str a1.str).bind fun x2 =>
           pIf (decide ((x2.length : Int) > 60))
             (some (4, (zz0.mk 0 (yz1.mk 0 0) false [] [])))
             (z0m n 0 0 0 false [] a0.kind 0 0 false x2 [] []))
           (pIf (a0.kind == 4)
             ((kzk n a0.re).bind fun y3 =>
             (kzk n a1.re).bind fun y4 =>
             pIf (decide ((IntKind.i64.wrap ((IntKind.i64.wrap (y3.1 + y4.1)) - 1)) > 100))
               (some (4, (zz0.mk 0 (yz1.mk 0 0) false [] [])))
               ((z25 n a0.re).bind fun y5 =>
               (z25 n a1.re).bind fun y6 =>
               (ext y5.2.2.2.2.2 y6.2.2.2.2.2).bind fun x7 =>
               z0m n 0 0 0 false [] a0.kind 0 0 false [] [] x7))
             (some (20, (zz0.mk 0 (yz1.mk 0 0) false [] [])))))))
def z0m : Nat → Int → Int → Int → Bool → (List UInt8) → Int → Int → Int → Bool → (List UInt8) → (List zz0) → (List zz0) → Option (Int × zz0)
 | 0, _, _, _, _, _, _, _, _, _, _, _, _ => none
 | n + 1, a0, a1, a2, a3, a4, a5, a6, a7, a8, a9, a10, a11 =>
   some (0, (zz0.mk a5 (yz1.mk a6 a7) a8 a9 a11))
end
def ydz : LSh := ⟨[(4, (.ptr 0 0)), (5, (.d (.int .i64)))], [(.st 3)], 0, 89⟩
noncomputable def zh4 : FI dat := FI.of dat 140 89 0 [(.d (.st 3)), (.d (.st 3))] [] [(.d (.st 3)), (.d (.int .i64))] [] true ydz (R := Int × zz0) (fun x => (x.1, x.2.1)) (fun r => (r.2, r.1, ())) (fun n x => z4x n x.1 x.2.1)
 (fun n => [(0, ⟨⟨[(4, (.ptr 0 0)), (7, (.ptr 1 0))], [(.cells [(.d (.int .u8)), (.d (.int .i64)), (.d (.int .i64)), (.d .bool), (.d .str), (.own 2)]), (.cells [(.d (.int .u8)), (.d (.int .i64)), (.d (.int .i64)), (.d .bool), (.d .str), (.own 3)]), (.acc 26 (.st 3) true), (.acc 26 (.st 3) true)], 0, 89⟩, fun x => z0m n x.1 x.2.1 x.2.2.1 x.2.2.2.1 x.2.2.2.2.1 x.2.2.2.2.2.1 x.2.2.2.2.2.2.1 x.2.2.2.2.2.2.2.1 x.2.2.2.2.2.2.2.2.1 x.2.2.2.2.2.2.2.2.2.1 x.2.2.2.2.2.2.2.2.2.2.1 x.2.2.2.2.2.2.2.2.2.2.2.1⟩)]) (ann [(71, 0)] (Tryz.f140.body.getD .skip) 0).1
noncomputable def yco : List (FI dat) := [za1, zhl, z16, za7]
theorem yew : (zh4).Good Tryz.prog dat (tb yco) := FI.yz4 (hD := zz2 _) Tryz.func140 Tryz.ntmps140 Tryz.call140 (by kernel_rfl) (of_decide_eq_true (by kernel_rfl)) (by kernel_rfl) (fun n => by kernel_rfl) (fun x => by kernel_rfl) (fun _ => rfl) ⟨fun _ => rfl, trivial⟩
 (fun n => fun x => (z4x.eq_2 x.1 x.2.1 n).trans (by kernel_rfl))
 (fun n => ⟨fun x => (z0m.eq_2 x.1 x.2.1 x.2.2.1 x.2.2.2.1 x.2.2.2.2.1 x.2.2.2.2.2.1 x.2.2.2.2.2.2.1 x.2.2.2.2.2.2.2.1 x.2.2.2.2.2.2.2.2.1 x.2.2.2.2.2.2.2.2.2.1 x.2.2.2.2.2.2.2.2.2.2.1 x.2.2.2.2.2.2.2.2.2.2.2.1 n).trans (by kernel_rfl),
  trivial⟩)
 (fun x => .inl rfl)
theorem yep : OkL Tryz.prog [zh4] := zzb (zz2 _) (bs := [za1, zhl, z16, za7]) ⟨ztf, yad, zgf, zw4, trivial⟩ yew
theorem y96 : FOk Tryz.prog zh4 := yep.1
end Go.Proofs.YtfhpamcehnfhoaaGreatDoor

