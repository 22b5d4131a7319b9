/-
  THE GO STRUCTS AS LEAN STRUCTURES, by a program of this repo (types.py).
-/
import Derived.Test.YtoimblncdeimoaaDoorAbAcc
namespace Go.Ab
open Go
set_option linter.unusedVariables false
set_option linter.unusedSimpArgs false
structure GOver where
  path : List UInt8
  kind : Int
  name : List UInt8
def GOver.el (x : GOver) : V := .agg [.str x.path, .int .u8 x.kind, .str x.name]
def GOver.size (x : GOver) : Nat := (x.path.length + 1) + 1 + (x.name.length + 1) + 1
def GOver.wf (x : GOver) : Prop := True ∧ (IntKind.u8.min ≤ x.kind ∧ x.kind ≤ IntKind.u8.max) ∧ True
def GOver.cs (x : GOver) : List V := [.str x.path, .int .u8 x.kind, .str x.name]
theorem GOver.el_eq (x : GOver) : x.el = .agg [.str x.path, .int .u8 x.kind, .str x.name] := by rw [GOver.el]
theorem GOver.el_cs (x : GOver) : x.el = .agg x.cs := by rw [GOver.el_eq]; rfl
theorem GOver.size_eq (x : GOver) : x.size = (x.path.length + 1) + 1 + (x.name.length + 1) + 1 := by rw [GOver.size]
theorem GOver.wf_eq (x : GOver) : x.wf = (True ∧ (IntKind.u8.min ≤ x.kind ∧ x.kind ≤ IntKind.u8.max) ∧ True) := by rw [GOver.wf]
theorem GOver.cells_len (x : GOver) : x.el.cells.length = 3 := by rw [GOver.el_eq]; rfl
theorem GOver.el_agg (x : GOver) : x.el = .agg x.el.cells := by rw [GOver.el_eq]; rfl
theorem GOver.kin {D : Nat → Nat → Prop} (x : GOver) : V.kin D x.el := by rw [GOver.el_eq]; simp only [V.kin, V.kinL, and_true, true_and]
@[simp] theorem GOver.kins {D : Nat → Nat → Prop} (l : List GOver) : V.kinL D (l.map GOver.el) ↔ True := iff_true_intro (kinL_map fun y _ => GOver.kin y)
def GOver.ty : Ty GOver := ⟨GOver.el, 3, GOver.size, GOver.wf, GOver.cells_len⟩
structure GRatio where
  num : Int
  den : Int
def GRatio.el (x : GRatio) : V := .agg [.int .i64 x.num, .int .i64 x.den]
def GRatio.size (x : GRatio) : Nat := 1 + 1 + 1
def GRatio.wf (x : GRatio) : Prop := (IntKind.i64.min ≤ x.num ∧ x.num ≤ IntKind.i64.max) ∧ (IntKind.i64.min ≤ x.den ∧ x.den ≤ IntKind.i64.max)
def GRatio.cs (x : GRatio) : List V := [.int .i64 x.num, .int .i64 x.den]
theorem GRatio.el_eq (x : GRatio) : x.el = .agg [.int .i64 x.num, .int .i64 x.den] := by rw [GRatio.el]
theorem GRatio.el_cs (x : GRatio) : x.el = .agg x.cs := by rw [GRatio.el_eq]; rfl
theorem GRatio.size_eq (x : GRatio) : x.size = 1 + 1 + 1 := by rw [GRatio.size]
theorem GRatio.wf_eq (x : GRatio) : x.wf = ((IntKind.i64.min ≤ x.num ∧ x.num ≤ IntKind.i64.max) ∧ (IntKind.i64.min ≤ x.den ∧ x.den ≤ IntKind.i64.max)) := by rw [GRatio.wf]
theorem GRatio.cells_len (x : GRatio) : x.el.cells.length = 2 := by rw [GRatio.el_eq]; rfl
theorem GRatio.el_agg (x : GRatio) : x.el = .agg x.el.cells := by rw [GRatio.el_eq]; rfl
theorem GRatio.kin {D : Nat → Nat → Prop} (x : GRatio) : V.kin D x.el := by rw [GRatio.el_eq]; simp only [V.kin, V.kinL, and_true, true_and]
@[simp] theorem GRatio.kins {D : Nat → Nat → Prop} (l : List GRatio) : V.kinL D (l.map GRatio.el) ↔ True := iff_true_intro (kinL_map fun y _ => GRatio.kin y)
def GRatio.ty : Ty GRatio := ⟨GRatio.el, 2, GRatio.size, GRatio.wf, GRatio.cells_len⟩
structure GValue where
  kind : Int
  num : GRatio
  truth : Bool
  str : List UInt8
  list : List GValue
theorem GValue.lt_list {x y : GValue} (h : y ∈ x.list) : SizeOf.sizeOf y < SizeOf.sizeOf x := by cases x; have := List.sizeOf_lt_of_mem h; simp at this ⊢; omega
def GValue.el (x : GValue) : V := .agg [.int .u8 x.kind, .int .i64 x.num.num, .int .i64 x.num.den, .bool x.truth, .str x.str, .sl 6 (x.list.map GValue.el) false]
  termination_by x
  decreasing_by all_goals first | exact GValue.lt_list ‹_›
def GValue.size (x : GValue) : Nat := 1 + x.num.size + 1 + (x.str.length + 1) + ((x.list.map GValue.size).sum + 1) + 1
  termination_by x
  decreasing_by all_goals first | exact GValue.lt_list ‹_›
def GValue.wf (x : GValue) : Prop := (IntKind.u8.min ≤ x.kind ∧ x.kind ≤ IntKind.u8.max) ∧ x.num.wf ∧ True ∧ True ∧ (∀ y ∈ x.list, y.wf)
  termination_by x
  decreasing_by all_goals first | exact GValue.lt_list ‹_›
def GValue.cs (x : GValue) : List V := [.int .u8 x.kind, .int .i64 x.num.num, .int .i64 x.num.den, .bool x.truth, .str x.str, .sl 6 (x.list.map GValue.el) false]
theorem GValue.el_eq (x : GValue) : x.el = .agg [.int .u8 x.kind, .int .i64 x.num.num, .int .i64 x.num.den, .bool x.truth, .str x.str, .sl 6 (x.list.map GValue.el) false] := by rw [GValue.el]
theorem GValue.el_cs (x : GValue) : x.el = .agg x.cs := by rw [GValue.el_eq]; rfl
theorem GValue.size_eq (x : GValue) : x.size = 1 + x.num.size + 1 + (x.str.length + 1) + ((x.list.map GValue.size).sum + 1) + 1 := by rw [GValue.size]
theorem GValue.wf_eq (x : GValue) : x.wf = ((IntKind.u8.min ≤ x.kind ∧ x.kind ≤ IntKind.u8.max) ∧ x.num.wf ∧ True ∧ True ∧ (∀ y ∈ x.list, y.wf)) := by rw [GValue.wf]
theorem GValue.cells_len (x : GValue) : x.el.cells.length = 6 := by rw [GValue.el_eq]; rfl
theorem GValue.el_agg (x : GValue) : x.el = .agg x.el.cells := by rw [GValue.el_eq]; rfl
theorem GValue.kin {D : Nat → Nat → Prop} (x : GValue) : V.kin D x.el := by rw [GValue.el_eq]; simp only [V.kin, V.kinL, and_true, true_and]; exact kinL_map fun y hy => GValue.kin y
  termination_by x
  decreasing_by all_goals first | exact GValue.lt_list ‹_›
@[simp] theorem GValue.kins {D : Nat → Nat → Prop} (l : List GValue) : V.kinL D (l.map GValue.el) ↔ True := iff_true_intro (kinL_map fun y _ => GValue.kin y)
def GValue.ty : Ty GValue := ⟨GValue.el, 6, GValue.size, GValue.wf, GValue.cells_len⟩
structure GVec where
  x : Int
  y : Int
  z : Int
def GVec.el (x : GVec) : V := .agg [.int .i64 x.x, .int .i64 x.y, .int .i64 x.z]
def GVec.size (x : GVec) : Nat := 1 + 1 + 1 + 1
def GVec.wf (x : GVec) : Prop := (IntKind.i64.min ≤ x.x ∧ x.x ≤ IntKind.i64.max) ∧ (IntKind.i64.min ≤ x.y ∧ x.y ≤ IntKind.i64.max) ∧ (IntKind.i64.min ≤ x.z ∧ x.z ≤ IntKind.i64.max)
def GVec.cs (x : GVec) : List V := [.int .i64 x.x, .int .i64 x.y, .int .i64 x.z]
theorem GVec.el_eq (x : GVec) : x.el = .agg [.int .i64 x.x, .int .i64 x.y, .int .i64 x.z] := by rw [GVec.el]
theorem GVec.el_cs (x : GVec) : x.el = .agg x.cs := by rw [GVec.el_eq]; rfl
theorem GVec.size_eq (x : GVec) : x.size = 1 + 1 + 1 + 1 := by rw [GVec.size]
theorem GVec.wf_eq (x : GVec) : x.wf = ((IntKind.i64.min ≤ x.x ∧ x.x ≤ IntKind.i64.max) ∧ (IntKind.i64.min ≤ x.y ∧ x.y ≤ IntKind.i64.max) ∧ (IntKind.i64.min ≤ x.z ∧ x.z ≤ IntKind.i64.max)) := by rw [GVec.wf]
theorem GVec.cells_len (x : GVec) : x.el.cells.length = 3 := by rw [GVec.el_eq]; rfl
theorem GVec.el_agg (x : GVec) : x.el = .agg x.el.cells := by rw [GVec.el_eq]; rfl
theorem GVec.kin {D : Nat → Nat → Prop} (x : GVec) : V.kin D x.el := by rw [GVec.el_eq]; simp only [V.kin, V.kinL, and_true, true_and]
@[simp] theorem GVec.kins {D : Nat → Nat → Prop} (l : List GVec) : V.kinL D (l.map GVec.el) ↔ True := iff_true_intro (kinL_map fun y _ => GVec.kin y)
def GVec.ty : Ty GVec := ⟨GVec.el, 3, GVec.size, GVec.wf, GVec.cells_len⟩
structure GFrame where
  turn : Int
  at_ : GVec
def GFrame.el (x : GFrame) : V := .agg [.int .u8 x.turn, .int .i64 x.at_.x, .int .i64 x.at_.y, .int .i64 x.at_.z]
def GFrame.size (x : GFrame) : Nat := 1 + x.at_.size + 1
def GFrame.wf (x : GFrame) : Prop := (IntKind.u8.min ≤ x.turn ∧ x.turn ≤ IntKind.u8.max) ∧ x.at_.wf
def GFrame.cs (x : GFrame) : List V := [.int .u8 x.turn, .int .i64 x.at_.x, .int .i64 x.at_.y, .int .i64 x.at_.z]
theorem GFrame.el_eq (x : GFrame) : x.el = .agg [.int .u8 x.turn, .int .i64 x.at_.x, .int .i64 x.at_.y, .int .i64 x.at_.z] := by rw [GFrame.el]
theorem GFrame.el_cs (x : GFrame) : x.el = .agg x.cs := by rw [GFrame.el_eq]; rfl
theorem GFrame.size_eq (x : GFrame) : x.size = 1 + x.at_.size + 1 := by rw [GFrame.size]
theorem GFrame.wf_eq (x : GFrame) : x.wf = ((IntKind.u8.min ≤ x.turn ∧ x.turn ≤ IntKind.u8.max) ∧ x.at_.wf) := by rw [GFrame.wf]
theorem GFrame.cells_len (x : GFrame) : x.el.cells.length = 4 := by rw [GFrame.el_eq]; rfl
theorem GFrame.el_agg (x : GFrame) : x.el = .agg x.el.cells := by rw [GFrame.el_eq]; rfl
theorem GFrame.kin {D : Nat → Nat → Prop} (x : GFrame) : V.kin D x.el := by rw [GFrame.el_eq]; simp only [V.kin, V.kinL, and_true, true_and]
@[simp] theorem GFrame.kins {D : Nat → Nat → Prop} (l : List GFrame) : V.kinL D (l.map GFrame.el) ↔ True := iff_true_intro (kinL_map fun y _ => GFrame.kin y)
def GFrame.ty : Ty GFrame := ⟨GFrame.el, 4, GFrame.size, GFrame.wf, GFrame.cells_len⟩
structure GScope where
  frame : GFrame
  size_ : GVec
def GScope.el (x : GScope) : V := .agg [.int .u8 x.frame.turn, .int .i64 x.frame.at_.x, .int .i64 x.frame.at_.y, .int .i64 x.frame.at_.z, .int .i64 x.size_.x, .int .i64 x.size_.y, .int .i64 x.size_.z]
def GScope.size (x : GScope) : Nat := x.frame.size + x.size_.size + 1
def GScope.wf (x : GScope) : Prop := x.frame.wf ∧ x.size_.wf
def GScope.cs (x : GScope) : List V := [.int .u8 x.frame.turn, .int .i64 x.frame.at_.x, .int .i64 x.frame.at_.y, .int .i64 x.frame.at_.z, .int .i64 x.size_.x, .int .i64 x.size_.y, .int .i64 x.size_.z]
theorem GScope.el_eq (x : GScope) : x.el = .agg [.int .u8 x.frame.turn, .int .i64 x.frame.at_.x, .int .i64 x.frame.at_.y, .int .i64 x.frame.at_.z, .int .i64 x.size_.x, .int .i64 x.size_.y, .int .i64 x.size_.z] := by rw [GScope.el]
theorem GScope.el_cs (x : GScope) : x.el = .agg x.cs := by rw [GScope.el_eq]; rfl
theorem GScope.size_eq (x : GScope) : x.size = x.frame.size + x.size_.size + 1 := by rw [GScope.size]
theorem GScope.wf_eq (x : GScope) : x.wf = (x.frame.wf ∧ x.size_.wf) := by rw [GScope.wf]
theorem GScope.cells_len (x : GScope) : x.el.cells.length = 7 := by rw [GScope.el_eq]; rfl
theorem GScope.el_agg (x : GScope) : x.el = .agg x.el.cells := by rw [GScope.el_eq]; rfl
theorem GScope.kin {D : Nat → Nat → Prop} (x : GScope) : V.kin D x.el := by rw [GScope.el_eq]; simp only [V.kin, V.kinL, and_true, true_and]
@[simp] theorem GScope.kins {D : Nat → Nat → Prop} (l : List GScope) : V.kinL D (l.map GScope.el) ↔ True := iff_true_intro (kinL_map fun y _ => GScope.kin y)
def GScope.ty : Ty GScope := ⟨GScope.el, 7, GScope.size, GScope.wf, GScope.cells_len⟩
structure GNode where
  path : List UInt8
  rule_ : List UInt8
  args : List GValue
  scope : GScope
  leaf : List UInt8
  fault : Int
  open_ : Bool
def GNode.el (x : GNode) : V := .agg [.str x.path, .str x.rule_, .sl 6 (x.args.map GValue.el) false, .int .u8 x.scope.frame.turn, .int .i64 x.scope.frame.at_.x, .int .i64 x.scope.frame.at_.y, .int .i64 x.scope.frame.at_.z, .int .i64 x.scope.size_.x, .int .i64 x.scope.size_.y, .int .i64 x.scope.size_.z, .str x.leaf, .int .i64 x.fault, .bool x.open_]
def GNode.size (x : GNode) : Nat := (x.path.length + 1) + (x.rule_.length + 1) + ((x.args.map GValue.size).sum + 1) + x.scope.size + (x.leaf.length + 1) + 1 + 1 + 1
def GNode.wf (x : GNode) : Prop := True ∧ True ∧ (∀ y ∈ x.args, y.wf) ∧ x.scope.wf ∧ True ∧ (IntKind.i64.min ≤ x.fault ∧ x.fault ≤ IntKind.i64.max) ∧ True
def GNode.cs (x : GNode) : List V := [.str x.path, .str x.rule_, .sl 6 (x.args.map GValue.el) false, .int .u8 x.scope.frame.turn, .int .i64 x.scope.frame.at_.x, .int .i64 x.scope.frame.at_.y, .int .i64 x.scope.frame.at_.z, .int .i64 x.scope.size_.x, .int .i64 x.scope.size_.y, .int .i64 x.scope.size_.z, .str x.leaf, .int .i64 x.fault, .bool x.open_]
theorem GNode.el_eq (x : GNode) : x.el = .agg [.str x.path, .str x.rule_, .sl 6 (x.args.map GValue.el) false, .int .u8 x.scope.frame.turn, .int .i64 x.scope.frame.at_.x, .int .i64 x.scope.frame.at_.y, .int .i64 x.scope.frame.at_.z, .int .i64 x.scope.size_.x, .int .i64 x.scope.size_.y, .int .i64 x.scope.size_.z, .str x.leaf, .int .i64 x.fault, .bool x.open_] := by rw [GNode.el]
theorem GNode.el_cs (x : GNode) : x.el = .agg x.cs := by rw [GNode.el_eq]; rfl
theorem GNode.size_eq (x : GNode) : x.size = (x.path.length + 1) + (x.rule_.length + 1) + ((x.args.map GValue.size).sum + 1) + x.scope.size + (x.leaf.length + 1) + 1 + 1 + 1 := by rw [GNode.size]
theorem GNode.wf_eq (x : GNode) : x.wf = (True ∧ True ∧ (∀ y ∈ x.args, y.wf) ∧ x.scope.wf ∧ True ∧ (IntKind.i64.min ≤ x.fault ∧ x.fault ≤ IntKind.i64.max) ∧ True) := by rw [GNode.wf]
theorem GNode.cells_len (x : GNode) : x.el.cells.length = 13 := by rw [GNode.el_eq]; rfl
theorem GNode.el_agg (x : GNode) : x.el = .agg x.el.cells := by rw [GNode.el_eq]; rfl
theorem GNode.kin {D : Nat → Nat → Prop} (x : GNode) : V.kin D x.el := by rw [GNode.el_eq]; simp only [V.kin, V.kinL, and_true, true_and]; exact kinL_map fun y hy => GValue.kin y
@[simp] theorem GNode.kins {D : Nat → Nat → Prop} (l : List GNode) : V.kinL D (l.map GNode.el) ↔ True := iff_true_intro (kinL_map fun y _ => GNode.kin y)
def GNode.ty : Ty GNode := ⟨GNode.el, 13, GNode.size, GNode.wf, GNode.cells_len⟩
structure GStepT where
  name : List UInt8
  index : Int
def GStepT.el (x : GStepT) : V := .agg [.str x.name, .int .i64 x.index]
def GStepT.size (x : GStepT) : Nat := (x.name.length + 1) + 1 + 1
def GStepT.wf (x : GStepT) : Prop := True ∧ (IntKind.i64.min ≤ x.index ∧ x.index ≤ IntKind.i64.max)
def GStepT.cs (x : GStepT) : List V := [.str x.name, .int .i64 x.index]
theorem GStepT.el_eq (x : GStepT) : x.el = .agg [.str x.name, .int .i64 x.index] := by rw [GStepT.el]
theorem GStepT.el_cs (x : GStepT) : x.el = .agg x.cs := by rw [GStepT.el_eq]; rfl
theorem GStepT.size_eq (x : GStepT) : x.size = (x.name.length + 1) + 1 + 1 := by rw [GStepT.size]
theorem GStepT.wf_eq (x : GStepT) : x.wf = (True ∧ (IntKind.i64.min ≤ x.index ∧ x.index ≤ IntKind.i64.max)) := by rw [GStepT.wf]
theorem GStepT.cells_len (x : GStepT) : x.el.cells.length = 2 := by rw [GStepT.el_eq]; rfl
theorem GStepT.el_agg (x : GStepT) : x.el = .agg x.el.cells := by rw [GStepT.el_eq]; rfl
theorem GStepT.kin {D : Nat → Nat → Prop} (x : GStepT) : V.kin D x.el := by rw [GStepT.el_eq]; simp only [V.kin, V.kinL, and_true, true_and]
@[simp] theorem GStepT.kins {D : Nat → Nat → Prop} (l : List GStepT) : V.kinL D (l.map GStepT.el) ↔ True := iff_true_intro (kinL_map fun y _ => GStepT.kin y)
def GStepT.ty : Ty GStepT := ⟨GStepT.el, 2, GStepT.size, GStepT.wf, GStepT.cells_len⟩
end Go.Ab
