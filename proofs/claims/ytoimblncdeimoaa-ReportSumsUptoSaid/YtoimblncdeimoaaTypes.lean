/-
  THE GO STRUCTS AS LEAN STRUCTURES, by a program of this repo (types.py).
-/
import Derived.Test.YtoimblncdeimoaaAbAcc
namespace Go.Ab
open Go
set_option linter.unusedVariables false
set_option linter.unusedSimpArgs false
structure GTally where
  name : List UInt8
  count : Int
  volume : Int
def GTally.el (x : GTally) : V := .agg [.str x.name, .int .i64 x.count, .int .i64 x.volume]
def GTally.size (x : GTally) : Nat := (x.name.length + 1) + 1 + 1 + 1
def GTally.wf (x : GTally) : Prop := True ∧ (IntKind.i64.min ≤ x.count ∧ x.count ≤ IntKind.i64.max) ∧ (IntKind.i64.min ≤ x.volume ∧ x.volume ≤ IntKind.i64.max)
def GTally.cs (x : GTally) : List V := [.str x.name, .int .i64 x.count, .int .i64 x.volume]
theorem GTally.el_eq (x : GTally) : x.el = .agg [.str x.name, .int .i64 x.count, .int .i64 x.volume] := by rw [GTally.el]
theorem GTally.el_cs (x : GTally) : x.el = .agg x.cs := by rw [GTally.el_eq]; rfl
theorem GTally.size_eq (x : GTally) : x.size = (x.name.length + 1) + 1 + 1 + 1 := by rw [GTally.size]
theorem GTally.wf_eq (x : GTally) : x.wf = (True ∧ (IntKind.i64.min ≤ x.count ∧ x.count ≤ IntKind.i64.max) ∧ (IntKind.i64.min ≤ x.volume ∧ x.volume ≤ IntKind.i64.max)) := by rw [GTally.wf]
theorem GTally.cells_len (x : GTally) : x.el.cells.length = 3 := by rw [GTally.el_eq]; rfl
theorem GTally.el_agg (x : GTally) : x.el = .agg x.el.cells := by rw [GTally.el_eq]; rfl
theorem GTally.kin {D : Nat → Nat → Prop} (x : GTally) : V.kin D x.el := by rw [GTally.el_eq]; simp only [V.kin, V.kinL, and_true, true_and]
@[simp] theorem GTally.kins {D : Nat → Nat → Prop} (l : List GTally) : V.kinL D (l.map GTally.el) ↔ True := iff_true_intro (kinL_map fun y _ => GTally.kin y)
def GTally.ty : Ty GTally := ⟨GTally.el, 3, GTally.size, GTally.wf, GTally.cells_len⟩
structure GRatio where
  num : Int
  den : Int
def GRatio.el (x : GRatio) : V := .agg [.int .i64 x.num, .int .i64 x.den]
def GRatio.size (x : GRatio) : Nat := 1 + 1 + 1
def GRatio.wf (x : GRatio) : Prop := (IntKind.i64.min ≤ x.num ∧ x.num ≤ IntKind.i64.max) ∧ (IntKind.i64.min ≤ x.den ∧ x.den ≤ IntKind.i64.max)
def GRatio.cs (x : GRatio) : List V := [.int .i64 x.num, .int .i64 x.den]
theorem GRatio.el_eq (x : GRatio) : x.el = .agg [.int .i64 x.num, .int .i64 x.den] := by rw [GRatio.el]
theorem GRatio.el_cs (x : GRatio) : x.el = .agg x.cs := by rw [GRatio.el_eq]; rfl
theorem GRatio.size_eq (x : GRatio) : x.size = 1 + 1 + 1 := by rw [GRatio.size]
theorem GRatio.wf_eq (x : GRatio) : x.wf = ((IntKind.i64.min ≤ x.num ∧ x.num ≤ IntKind.i64.max) ∧ (IntKind.i64.min ≤ x.den ∧ x.den ≤ IntKind.i64.max)) := by rw [GRatio.wf]
theorem GRatio.cells_len (x : GRatio) : x.el.cells.length = 2 := by rw [GRatio.el_eq]; rfl
theorem GRatio.el_agg (x : GRatio) : x.el = .agg x.el.cells := by rw [GRatio.el_eq]; rfl
theorem GRatio.kin {D : Nat → Nat → Prop} (x : GRatio) : V.kin D x.el := by rw [GRatio.el_eq]; simp only [V.kin, V.kinL, and_true, true_and]
@[simp] theorem GRatio.kins {D : Nat → Nat → Prop} (l : List GRatio) : V.kinL D (l.map GRatio.el) ↔ True := iff_true_intro (kinL_map fun y _ => GRatio.kin y)
def GRatio.ty : Ty GRatio := ⟨GRatio.el, 2, GRatio.size, GRatio.wf, GRatio.cells_len⟩
structure GValue where
  kind : Int
  num : GRatio
  truth : Bool
  str : List UInt8
  list : List GValue
theorem GValue.lt_list {x y : GValue} (h : y ∈ x.list) : SizeOf.sizeOf y < SizeOf.sizeOf x := by cases x; have := List.sizeOf_lt_of_mem h; simp at this ⊢; omega
def GValue.el (x : GValue) : V := .agg [.int .u8 x.kind, .int .i64 x.num.num, .int .i64 x.num.den, .bool x.truth, .str x.str, .sl 6 (x.list.map GValue.el) false]
  termination_by x
  decreasing_by all_goals first | exact GValue.lt_list ‹_›
def GValue.size (x : GValue) : Nat := 1 + x.num.size + 1 + (x.str.length + 1) + ((x.list.map GValue.size).sum + 1) + 1
  termination_by x
  decreasing_by all_goals first | exact GValue.lt_list ‹_›
def GValue.wf (x : GValue) : Prop := (IntKind.u8.min ≤ x.kind ∧ x.kind ≤ IntKind.u8.max) ∧ x.num.wf ∧ True ∧ True ∧ (∀ y ∈ x.list, y.wf)
  termination_by x
  decreasing_by all_goals first | exact GValue.lt_list ‹_›
def GValue.cs (x : GValue) : List V := [.int .u8 x.kind, .int .i64 x.num.num, .int .i64 x.num.den, .bool x.truth, .str x.str, .sl 6 (x.list.map GValue.el) false]
theorem GValue.el_eq (x : GValue) : x.el = .agg [.int .u8 x.kind, .int .i64 x.num.num, .int .i64 x.num.den, .bool x.truth, .str x.str, .sl 6 (x.list.map GValue.el) false] := by rw [GValue.el]
theorem GValue.el_cs (x : GValue) : x.el = .agg x.cs := by rw [GValue.el_eq]; rfl
theorem GValue.size_eq (x : GValue) : x.size = 1 + x.num.size + 1 + (x.str.length + 1) + ((x.list.map GValue.size).sum + 1) + 1 := by rw [GValue.size]
theorem GValue.wf_eq (x : GValue) : x.wf = ((IntKind.u8.min ≤ x.kind ∧ x.kind ≤ IntKind.u8.max) ∧ x.num.wf ∧ True ∧ True ∧ (∀ y ∈ x.list, y.wf)) := by rw [GValue.wf]
theorem GValue.cells_len (x : GValue) : x.el.cells.length = 6 := by rw [GValue.el_eq]; rfl
theorem GValue.el_agg (x : GValue) : x.el = .agg x.el.cells := by rw [GValue.el_eq]; rfl
theorem GValue.kin {D : Nat → Nat → Prop} (x : GValue) : V.kin D x.el := by rw [GValue.el_eq]; simp only [V.kin, V.kinL, and_true, true_and]; exact kinL_map fun y hy => GValue.kin y
  termination_by x
  decreasing_by all_goals first | exact GValue.lt_list ‹_›
@[simp] theorem GValue.kins {D : Nat → Nat → Prop} (l : List GValue) : V.kinL D (l.map GValue.el) ↔ True := iff_true_intro (kinL_map fun y _ => GValue.kin y)
def GValue.ty : Ty GValue := ⟨GValue.el, 6, GValue.size, GValue.wf, GValue.cells_len⟩
end Go.Ab
