/-
  THE GO STRUCTS AS LEAN STRUCTURES, by a program of this repo (types.py).
-/
import Derived.Test.YtfhpamcehnfhoaaGreatLib2
import Derived.Test.YtfhpamcehnfhoaaGreatLib3
import Derived.Test.YtfhpamcehnfhoaaGreatLib6
import Derived.Shelf.Small.Strs
import Derived.Shelf.Sort.Plain
import Derived.Ground.NamesProg
import Derived.Test.YtfhpamcehnfhoaaGreatProg
import Derived.Test.YtfhpamcehnfhoaaGreatLib7
import Derived.Shelf.Slices.In.SortNone
import Derived.KernelRfl
namespace Go.Ab
open Go
set_option linter.unusedVariables false
set_option linter.unusedSimpArgs false
structure GRatio where
  num : Int
  den : Int
def GRatio.el (x : GRatio) : V := .agg [.int .i64 x.num, .int .i64 x.den]
def GRatio.size (x : GRatio) : Nat := 1 + 1 + 1
def GRatio.wf (x : GRatio) : Prop := (IntKind.i64.min ≤ x.num ∧ x.num ≤ IntKind.i64.max) ∧ (IntKind.i64.min ≤ x.den ∧ x.den ≤ IntKind.i64.max)
def GRatio.cs (x : GRatio) : List V := [.int .i64 x.num, .int .i64 x.den]
theorem GRatio.el_eq (x : GRatio) : x.el = .agg [.int .i64 x.num, .int .i64 x.den] := by rw [GRatio.el]
theorem GRatio.size_eq (x : GRatio) : x.size = 1 + 1 + 1 := by rw [GRatio.size]
theorem GRatio.wf_eq (x : GRatio) : x.wf = ((IntKind.i64.min ≤ x.num ∧ x.num ≤ IntKind.i64.max) ∧ (IntKind.i64.min ≤ x.den ∧ x.den ≤ IntKind.i64.max)) := by rw [GRatio.wf]
theorem GRatio.cells_len (x : GRatio) : x.el.cells.length = 2 := by rw [GRatio.el_eq]; rfl
theorem GRatio.el_agg (x : GRatio) : x.el = .agg x.el.cells := by rw [GRatio.el_eq]; rfl
theorem GRatio.kin {D : Nat → Nat → Prop} (x : GRatio) : V.kin D x.el := by rw [GRatio.el_eq]; simp only [V.kin, V.kinL, and_true, true_and]
def GRatio.ty : Ty GRatio := ⟨GRatio.el, 2, GRatio.size, GRatio.wf, GRatio.cells_len⟩
structure GValue where
  kind : Int
  num : GRatio
  truth : Bool
  str : List UInt8
  list : List GValue
theorem GValue.lt_list {x y : GValue} (h : y ∈ x.list) : SizeOf.sizeOf y < SizeOf.sizeOf x := by cases x; have := List.sizeOf_lt_of_mem h; simp at this ⊢; omega
def GValue.el (x : GValue) : V := .agg [.int .u8 x.kind, .int .i64 x.num.num, .int .i64 x.num.den, .bool x.truth, .str x.str, .sl 6 (x.list.map GValue.el) false]
  termination_by x
  decreasing_by all_goals first | exact GValue.lt_list ‹_›
def GValue.size (x : GValue) : Nat := 1 + x.num.size + 1 + (x.str.length + 1) + ((x.list.map GValue.size).sum + 1) + 1
  termination_by x
  decreasing_by all_goals first | exact GValue.lt_list ‹_›
def GValue.wf (x : GValue) : Prop := (IntKind.u8.min ≤ x.kind ∧ x.kind ≤ IntKind.u8.max) ∧ x.num.wf ∧ True ∧ True ∧ (∀ y ∈ x.list, y.wf)
  termination_by x
  decreasing_by all_goals first | exact GValue.lt_list ‹_›
def GValue.cs (x : GValue) : List V := [.int .u8 x.kind, .int .i64 x.num.num, .int .i64 x.num.den, .bool x.truth, .str x.str, .sl 6 (x.list.map GValue.el) false]
theorem GValue.el_eq (x : GValue) : x.el = .agg [.int .u8 x.kind, .int .i64 x.num.num, .int .i64 x.num.den, .bool x.truth, .str x.str, .sl 6 (x.list.map GValue.el) false] := by rw [GValue.el]
theorem GValue.size_eq (x : GValue) : x.size = 1 + x.num.size + 1 + (x.str.length + 1) + ((x.list.map GValue.size).sum + 1) + 1 := by rw [GValue.size]
theorem GValue.wf_eq (x : GValue) : x.wf = ((IntKind.u8.min ≤ x.kind ∧ x.kind ≤ IntKind.u8.max) ∧ x.num.wf ∧ True ∧ True ∧ (∀ y ∈ x.list, y.wf)) := by rw [GValue.wf]
theorem GValue.cells_len (x : GValue) : x.el.cells.length = 6 := by rw [GValue.el_eq]; rfl
theorem GValue.el_agg (x : GValue) : x.el = .agg x.el.cells := by rw [GValue.el_eq]; rfl
theorem GValue.kin {D : Nat → Nat → Prop} (x : GValue) : V.kin D x.el := by rw [GValue.el_eq]; simp only [V.kin, V.kinL, and_true, true_and]; exact kinL_map fun y hy => GValue.kin y
  termination_by x
  decreasing_by all_goals first | exact GValue.lt_list ‹_›
def GValue.ty : Ty GValue := ⟨GValue.el, 6, GValue.size, GValue.wf, GValue.cells_len⟩
structure GExpr where
  op : Int
  value : GValue
  name : List UInt8
  args : List GExpr
theorem GExpr.lt_args {x y : GExpr} (h : y ∈ x.args) : SizeOf.sizeOf y < SizeOf.sizeOf x := by cases x; have := List.sizeOf_lt_of_mem h; simp at this ⊢; omega
def GExpr.el (x : GExpr) : V := .agg [.int .u8 x.op, .int .u8 x.value.kind, .int .i64 x.value.num.num, .int .i64 x.value.num.den, .bool x.value.truth, .str x.value.str, .sl 6 (x.value.list.map GValue.el) false, .str x.name, .sl 9 (x.args.map GExpr.el) false]
  termination_by x
  decreasing_by all_goals first | exact GExpr.lt_args ‹_›
def GExpr.size (x : GExpr) : Nat := 1 + x.value.size + (x.name.length + 1) + ((x.args.map GExpr.size).sum + 1) + 1
  termination_by x
  decreasing_by all_goals first | exact GExpr.lt_args ‹_›
def GExpr.wf (x : GExpr) : Prop := (IntKind.u8.min ≤ x.op ∧ x.op ≤ IntKind.u8.max) ∧ x.value.wf ∧ True ∧ (∀ y ∈ x.args, y.wf)
  termination_by x
  decreasing_by all_goals first | exact GExpr.lt_args ‹_›
def GExpr.cs (x : GExpr) : List V := [.int .u8 x.op, .int .u8 x.value.kind, .int .i64 x.value.num.num, .int .i64 x.value.num.den, .bool x.value.truth, .str x.value.str, .sl 6 (x.value.list.map GValue.el) false, .str x.name, .sl 9 (x.args.map GExpr.el) false]
theorem GExpr.el_eq (x : GExpr) : x.el = .agg [.int .u8 x.op, .int .u8 x.value.kind, .int .i64 x.value.num.num, .int .i64 x.value.num.den, .bool x.value.truth, .str x.value.str, .sl 6 (x.value.list.map GValue.el) false, .str x.name, .sl 9 (x.args.map GExpr.el) false] := by rw [GExpr.el]
theorem GExpr.size_eq (x : GExpr) : x.size = 1 + x.value.size + (x.name.length + 1) + ((x.args.map GExpr.size).sum + 1) + 1 := by rw [GExpr.size]
theorem GExpr.wf_eq (x : GExpr) : x.wf = ((IntKind.u8.min ≤ x.op ∧ x.op ≤ IntKind.u8.max) ∧ x.value.wf ∧ True ∧ (∀ y ∈ x.args, y.wf)) := by rw [GExpr.wf]
theorem GExpr.cells_len (x : GExpr) : x.el.cells.length = 9 := by rw [GExpr.el_eq]; rfl
theorem GExpr.el_agg (x : GExpr) : x.el = .agg x.el.cells := by rw [GExpr.el_eq]; rfl
theorem GExpr.kin {D : Nat → Nat → Prop} (x : GExpr) : V.kin D x.el := by rw [GExpr.el_eq]; simp only [V.kin, V.kinL, and_true, true_and]; exact ⟨kinL_map fun y hy => GValue.kin y, kinL_map fun y hy => GExpr.kin y⟩
  termination_by x
  decreasing_by all_goals first | exact GExpr.lt_args ‹_›
def GExpr.ty : Ty GExpr := ⟨GExpr.el, 9, GExpr.size, GExpr.wf, GExpr.cells_len⟩
structure GBind where
  name : List UInt8
  value : GValue
def GBind.el (x : GBind) : V := .agg [.str x.name, .int .u8 x.value.kind, .int .i64 x.value.num.num, .int .i64 x.value.num.den, .bool x.value.truth, .str x.value.str, .sl 6 (x.value.list.map GValue.el) false]
def GBind.size (x : GBind) : Nat := (x.name.length + 1) + x.value.size + 1
def GBind.wf (x : GBind) : Prop := True ∧ x.value.wf
def GBind.cs (x : GBind) : List V := [.str x.name, .int .u8 x.value.kind, .int .i64 x.value.num.num, .int .i64 x.value.num.den, .bool x.value.truth, .str x.value.str, .sl 6 (x.value.list.map GValue.el) false]
theorem GBind.el_eq (x : GBind) : x.el = .agg [.str x.name, .int .u8 x.value.kind, .int .i64 x.value.num.num, .int .i64 x.value.num.den, .bool x.value.truth, .str x.value.str, .sl 6 (x.value.list.map GValue.el) false] := by rw [GBind.el]
theorem GBind.size_eq (x : GBind) : x.size = (x.name.length + 1) + x.value.size + 1 := by rw [GBind.size]
theorem GBind.wf_eq (x : GBind) : x.wf = (True ∧ x.value.wf) := by rw [GBind.wf]
theorem GBind.cells_len (x : GBind) : x.el.cells.length = 7 := by rw [GBind.el_eq]; rfl
theorem GBind.el_agg (x : GBind) : x.el = .agg x.el.cells := by rw [GBind.el_eq]; rfl
theorem GBind.kin {D : Nat → Nat → Prop} (x : GBind) : V.kin D x.el := by rw [GBind.el_eq]; simp only [V.kin, V.kinL, and_true, true_and]; exact kinL_map fun y hy => GValue.kin y
def GBind.ty : Ty GBind := ⟨GBind.el, 7, GBind.size, GBind.wf, GBind.cells_len⟩
structure GCalc where
  a : GRatio
  b : GRatio
  out : GRatio
  e : Int
def GCalc.el (x : GCalc) : V := .agg [.int .i64 x.a.num, .int .i64 x.a.den, .int .i64 x.b.num, .int .i64 x.b.den, .int .i64 x.out.num, .int .i64 x.out.den, .int .i64 x.e]
def GCalc.size (x : GCalc) : Nat := x.a.size + x.b.size + x.out.size + 1 + 1
def GCalc.wf (x : GCalc) : Prop := x.a.wf ∧ x.b.wf ∧ x.out.wf ∧ (IntKind.i64.min ≤ x.e ∧ x.e ≤ IntKind.i64.max)
def GCalc.cs (x : GCalc) : List V := [.int .i64 x.a.num, .int .i64 x.a.den, .int .i64 x.b.num, .int .i64 x.b.den, .int .i64 x.out.num, .int .i64 x.out.den, .int .i64 x.e]
theorem GCalc.el_eq (x : GCalc) : x.el = .agg [.int .i64 x.a.num, .int .i64 x.a.den, .int .i64 x.b.num, .int .i64 x.b.den, .int .i64 x.out.num, .int .i64 x.out.den, .int .i64 x.e] := by rw [GCalc.el]
theorem GCalc.size_eq (x : GCalc) : x.size = x.a.size + x.b.size + x.out.size + 1 + 1 := by rw [GCalc.size]
theorem GCalc.wf_eq (x : GCalc) : x.wf = (x.a.wf ∧ x.b.wf ∧ x.out.wf ∧ (IntKind.i64.min ≤ x.e ∧ x.e ≤ IntKind.i64.max)) := by rw [GCalc.wf]
theorem GCalc.cells_len (x : GCalc) : x.el.cells.length = 7 := by rw [GCalc.el_eq]; rfl
theorem GCalc.el_agg (x : GCalc) : x.el = .agg x.el.cells := by rw [GCalc.el_eq]; rfl
theorem GCalc.kin {D : Nat → Nat → Prop} (x : GCalc) : V.kin D x.el := by rw [GCalc.el_eq]; simp only [V.kin, V.kinL, and_true, true_and]
def GCalc.ty : Ty GCalc := ⟨GCalc.el, 7, GCalc.size, GCalc.wf, GCalc.cells_len⟩
end Go.Ab

namespace Go.Ab
open Go
set_option linter.unusedVariables false
def GValue.re (x : GValue) : GValue := ⟨x.kind, x.num, x.truth, x.str, x.list⟩
@[simp] theorem GValue.re_eq (x : GValue) : x.re = x := by cases x; simp [GValue.re]
def GExpr.re (x : GExpr) : GExpr := ⟨x.op, x.value.re, x.name, x.args⟩
@[simp] theorem GExpr.re_eq (x : GExpr) : x.re = x := by cases x; simp [GExpr.re]
def GBind.re (x : GBind) : GBind := ⟨x.name, x.value.re⟩
@[simp] theorem GBind.re_eq (x : GBind) : x.re = x := by cases x; simp [GBind.re]
def datT : Nat → Type
  | 0 => GRatio
  | 1 => GValue
  | 2 => GExpr
  | 3 => GBind
  | 4 => GCalc
  | _ => Unit
def datFl : Nat → List DTy
  | 0 => [.int .i64, .int .i64]
  | 1 => [.int .u8, .int .i64, .int .i64, .bool, .str, .sl (.st 1)]
  | 2 => [.int .u8, .int .u8, .int .i64, .int .i64, .bool, .str, .sl (.st 1), .str, .sl (.st 2)]
  | 3 => [.str, .int .u8, .int .i64, .int .i64, .bool, .str, .sl (.st 1)]
  | 4 => [.int .i64, .int .i64, .int .i64, .int .i64, .int .i64, .int .i64, .int .i64]
  | _ => []
def datTys : List (Nat × DTy) := [(2, .int .i64), (3, .int .i64), (4, .bool), (5, .int .u8), (6, .int .u8), (9, .str), (10, .str), (11, .str), (12, .int .u64), (21, .int .i32), (23, .st 0), (24, .sl (.st 1)), (26, .st 1), (27, .sl (.st 2)), (29, .st 2), (33, .int .i64), (43, .sl (.st 3)), (49, .sl .str), (69, .st 3), (87, .int .u64), (110, .int .i64), (119, .int .u32), (121, .int .u64), (142, .int .u64), (155, .st 4), (164, .sl (.int .i64)), (173, .int .u8), (174, .int .u8), (177, .int .i32), (178, .int .i32)]
def dat : Dat where
  T := datT
  fl := datFl
  get := fun i => match i with
    | 0 => fun (x : GRatio) => (x.num, x.den, ())
    | 1 => fun (x : GValue) => (x.kind, x.num.num, x.num.den, x.truth, x.str, x.list, ())
    | 2 => fun (x : GExpr) => (x.op, x.value.kind, x.value.num.num, x.value.num.den, x.value.truth, x.value.str, x.value.list, x.name, x.args, ())
    | 3 => fun (x : GBind) => (x.name, x.value.kind, x.value.num.num, x.value.num.den, x.value.truth, x.value.str, x.value.list, ())
    | 4 => fun (x : GCalc) => (x.a.num, x.a.den, x.b.num, x.b.den, x.out.num, x.out.den, x.e, ())
    | _ + 5 => fun _ => ()
  make := fun i => match i with
    | 0 => fun x => GRatio.mk x.1 x.2.1
    | 1 => fun x => GValue.mk x.1 (GRatio.mk x.2.1 x.2.2.1) x.2.2.2.1 x.2.2.2.2.1 x.2.2.2.2.2.1
    | 2 => fun x => GExpr.mk x.1 (GValue.mk x.2.1 (GRatio.mk x.2.2.1 x.2.2.2.1) x.2.2.2.2.1 x.2.2.2.2.2.1 x.2.2.2.2.2.2.1) x.2.2.2.2.2.2.2.1 x.2.2.2.2.2.2.2.2.1
    | 3 => fun x => GBind.mk x.1 (GValue.mk x.2.1 (GRatio.mk x.2.2.1 x.2.2.2.1) x.2.2.2.2.1 x.2.2.2.2.2.1 x.2.2.2.2.2.2.1)
    | 4 => fun x => GCalc.mk (GRatio.mk x.1 x.2.1) (GRatio.mk x.2.2.1 x.2.2.2.1) (GRatio.mk x.2.2.2.2.1 x.2.2.2.2.2.1) x.2.2.2.2.2.2.1
    | _ + 5 => fun _ => ()
  enc := fun i => match i with
    | 0 => GRatio.el
    | 1 => GValue.el
    | 2 => GExpr.el
    | 3 => GBind.el
    | 4 => GCalc.el
    | _ + 5 => fun _ => .agg []
  ty := fnd datTys
end Go.Ab

namespace Go.Ab
open Go
set_option linter.unusedVariables false
theorem dat_ok (P : Program) : dat.Ok P where
  enc := fun i => match i with
    | 0 => fun x => GRatio.el_eq x
    | 1 => fun x => GValue.el_eq x
    | 2 => fun x => GExpr.el_eq x
    | 3 => fun x => GBind.el_eq x
    | 4 => fun x => GCalc.el_eq x
    | _ + 5 => fun _ => rfl
  getMake := fun i => match i with
    | 0 => fun x => rfl
    | 1 => fun x => rfl
    | 2 => fun x => rfl
    | 3 => fun x => rfl
    | 4 => fun x => rfl
    | _ + 5 => fun _ => rfl
  flat := fun i => match i with
    | 0 => fun t h => by simp only [dat, datFl, List.mem_cons, List.not_mem_nil, or_false] at h; rcases h with rfl | rfl <;> trivial
    | 1 => fun t h => by simp only [dat, datFl, List.mem_cons, List.not_mem_nil, or_false] at h; rcases h with rfl | rfl | rfl | rfl | rfl | rfl <;> trivial
    | 2 => fun t h => by simp only [dat, datFl, List.mem_cons, List.not_mem_nil, or_false] at h; rcases h with rfl | rfl | rfl | rfl | rfl | rfl | rfl | rfl | rfl <;> trivial
    | 3 => fun t h => by simp only [dat, datFl, List.mem_cons, List.not_mem_nil, or_false] at h; rcases h with rfl | rfl | rfl | rfl | rfl | rfl | rfl <;> trivial
    | 4 => fun t h => by simp only [dat, datFl, List.mem_cons, List.not_mem_nil, or_false] at h; rcases h with rfl | rfl | rfl | rfl | rfl | rfl | rfl <;> trivial
    | _ + 5 => fun t h => by cases h
  ty := fun e t h => by
    have := fnd_mem h
    simp only [datTys, List.mem_cons, Prod.mk.injEq, List.not_mem_nil, or_false] at this
    rcases this with ⟨_, rfl⟩ | ⟨_, rfl⟩ | ⟨_, rfl⟩ | ⟨_, rfl⟩ | ⟨_, rfl⟩ | ⟨_, rfl⟩ | ⟨_, rfl⟩ | ⟨_, rfl⟩ | ⟨_, rfl⟩ | ⟨_, rfl⟩ | ⟨_, rfl⟩ | ⟨_, rfl⟩ | ⟨_, rfl⟩ | ⟨_, rfl⟩ | ⟨_, rfl⟩ | ⟨_, rfl⟩ | ⟨_, rfl⟩ | ⟨_, rfl⟩ | ⟨_, rfl⟩ | ⟨_, rfl⟩ | ⟨_, rfl⟩ | ⟨_, rfl⟩ | ⟨_, rfl⟩ | ⟨_, rfl⟩ | ⟨_, rfl⟩ | ⟨_, rfl⟩ | ⟨_, rfl⟩ | ⟨_, rfl⟩ | ⟨_, rfl⟩ | ⟨_, rfl⟩ <;> simp
  kin := fun i => match i with
    | 0 => fun x _ => GRatio.kin x
    | 1 => fun x _ => GValue.kin x
    | 2 => fun x _ => GExpr.kin x
    | 3 => fun x _ => GBind.kin x
    | 4 => fun x _ => GCalc.kin x
    | _ + 5 => fun _ _ => by simp only [dat, V.kin, V.kinL]
end Go.Ab

namespace Go.Proofs
open Go.Shelf
def Tryz.lays213_ren : Go.Shelf.Ren := ⟨fun | 213 => 151 | 265 => 153 | n => n, fun | 9 => 9 | 3 => 3 | n => n, fun | n => n⟩
theorem Tryz.lays213 : Go.Proofs.Lays.n213 Tryz.prog Tryz.lays213_ren := {
  mixed := by kernel_rfl
  f213 := Tryz.func151.trans (congrArg some (by kernel_rfl))
  f265 := Tryz.func153.trans (congrArg some (by kernel_rfl))
  t3 := Tryz.underlying3
  a3 := Tryz.isAgg3
  z3 := Tryz.sizeOf3
  v3 := Tryz.zeroValue3
  t9 := Tryz.underlying9
  a9 := Tryz.isAgg9
  z9 := Tryz.sizeOf9
  v9 := Tryz.zeroValue9 }
def Tryz.lays190_ren : Go.Shelf.Ren := ⟨fun | 190 => 48 | 125 => 68 | 258 => 67 | 128 => 103 | 129 => 104 | 302 => 94 | 303 => 95 | 304 => 96 | 305 => 97 | 306 => 98 | 307 => 99 | 308 => 100 | 309 => 101 | 310 => 102 | 333 => 127 | 329 => 128 | 330 => 129 | 334 => 130 | 335 => 131 | 336 => 132 | 344 => 142 | n => n, fun | 31 => 49 | 9 => 9 | 3 => 3 | 46 => 87 | 0 => 0 | 51 => 119 | 53 => 121 | 4 => 4 | 183 => 111 | 182 => 110 | 131 => 116 | 5 => 5 | 218 => 142 | 222 => 146 | 228 => 152 | 229 => 75 | n => n, fun | n => n⟩
theorem Tryz.lays190 : Go.Proofs.Lays.n190 Tryz.prog Tryz.lays190_ren := {
  mixed := by kernel_rfl
  f125 := Tryz.func68.trans (congrArg some (by kernel_rfl))
  f128 := Tryz.func103.trans (congrArg some (by kernel_rfl))
  f129 := Tryz.func104.trans (congrArg some (by kernel_rfl))
  f190 := Tryz.func48.trans (congrArg some (by kernel_rfl))
  f258 := Tryz.func67.trans (congrArg some (by kernel_rfl))
  f302 := Tryz.func94.trans (congrArg some (by kernel_rfl))
  f303 := Tryz.func95.trans (congrArg some (by kernel_rfl))
  f304 := Tryz.func96.trans (congrArg some (by kernel_rfl))
  f305 := Tryz.func97.trans (congrArg some (by kernel_rfl))
  f306 := Tryz.func98.trans (congrArg some (by kernel_rfl))
  f307 := Tryz.func99.trans (congrArg some (by kernel_rfl))
  f308 := Tryz.func100.trans (congrArg some (by kernel_rfl))
  f309 := Tryz.func101.trans (congrArg some (by kernel_rfl))
  f310 := Tryz.func102.trans (congrArg some (by kernel_rfl))
  f329 := Tryz.func128.trans (congrArg some (by kernel_rfl))
  f330 := Tryz.func129.trans (congrArg some (by kernel_rfl))
  f333 := Tryz.func127.trans (congrArg some (by kernel_rfl))
  f334 := Tryz.func130.trans (congrArg some (by kernel_rfl))
  f335 := Tryz.func131.trans (congrArg some (by kernel_rfl))
  f336 := Tryz.func132.trans (congrArg some (by kernel_rfl))
  f344 := Tryz.func142.trans (congrArg some (by kernel_rfl))
  t0 := Tryz.underlying0
  a0 := Tryz.isAgg0
  z0 := Tryz.sizeOf0
  v0 := Tryz.zeroValue0
  t3 := Tryz.underlying3
  a3 := Tryz.isAgg3
  z3 := Tryz.sizeOf3
  v3 := Tryz.zeroValue3
  t4 := Tryz.underlying4
  a4 := Tryz.isAgg4
  z4 := Tryz.sizeOf4
  v4 := Tryz.zeroValue4
  t5 := Tryz.underlying5
  a5 := Tryz.isAgg5
  z5 := Tryz.sizeOf5
  v5 := Tryz.zeroValue5
  t9 := Tryz.underlying9
  a9 := Tryz.isAgg9
  z9 := Tryz.sizeOf9
  v9 := Tryz.zeroValue9
  t31 := Tryz.underlying49
  a31 := Tryz.isAgg49
  z31 := Tryz.sizeOf49
  v31 := Tryz.zeroValue49
  t46 := Tryz.underlying87
  a46 := Tryz.isAgg87
  z46 := Tryz.sizeOf87
  v46 := Tryz.zeroValue87
  t51 := Tryz.underlying119
  a51 := Tryz.isAgg119
  z51 := Tryz.sizeOf119
  v51 := Tryz.zeroValue119
  t53 := Tryz.underlying121
  a53 := Tryz.isAgg121
  z53 := Tryz.sizeOf121
  v53 := Tryz.zeroValue121
  t131 := Tryz.underlying116
  a131 := Tryz.isAgg116
  z131 := Tryz.sizeOf116
  v131 := Tryz.zeroValue116
  t182 := Tryz.underlying110
  a182 := Tryz.isAgg110
  z182 := Tryz.sizeOf110
  v182 := Tryz.zeroValue110
  t183 := Tryz.underlying111
  a183 := Tryz.isAgg111
  z183 := Tryz.sizeOf111
  v183 := Tryz.zeroValue111
  t218 := Tryz.underlying142
  a218 := Tryz.isAgg142
  z218 := Tryz.sizeOf142
  v218 := Tryz.zeroValue142
  t222 := Tryz.underlying146
  a222 := Tryz.isAgg146
  z222 := Tryz.sizeOf146
  v222 := Tryz.zeroValue146
  t228 := Tryz.underlying152
  a228 := Tryz.isAgg152
  z228 := Tryz.sizeOf152
  v228 := Tryz.zeroValue152
  t229 := Tryz.underlying75
  a229 := Tryz.isAgg75
  z229 := Tryz.sizeOf75
  v229 := Tryz.zeroValue75 }
end Go.Proofs

namespace Go.Proofs.YtfhpamcehnfhoaaGreat
open Go Go.Ab
set_option linter.unusedVariables false
def go_internal_bytealg_CompareString : Nat → List UInt8 → List UInt8 → Option Int := fun _ a b => some (Lib.compareBytes a b)
def k_internal_bytealg_CompareString : LSh := ⟨[(4, (.d (.int .i64)))], [], 0, 8⟩
noncomputable def I_internal_bytealg_CompareString : FI dat := FI.of dat 151 8 0 [(.d .str), (.d .str)] [] [(.d (.int .i64))] [] true k_internal_bytealg_CompareString (R := Int) (fun x => x.1) (fun r => (r, ())) (fun n x => go_internal_bytealg_CompareString n x.1 x.2.1)
  (fun n => []) .skip
theorem cmp_pc (a b : List UInt8) : PCall Tryz.prog 151 [.str a, .str b] (.int .i64 (Lib.compareBytes a b)) := fun H W g cargs hG hA => by
  obtain ⟨x, y, rfl, h0, h1⟩ := args2 hA
  cases h0; cases h1
  have c := Any.bytealg_CompareString Tryz.lays213 ⟨a.toArray⟩ ⟨b.toArray⟩ W
  refine .inl ⟨Tryz.call151 _ _, c.mono fun e W' ⟨h1, h2⟩ => ?_⟩
  subst h1; subst h2
  exact ⟨_, g, rfl, .refl _ _ _, hG, .int _ _⟩
theorem ok_internal_bytealg_CompareString : FOk Tryz.prog I_internal_bytealg_CompareString := fun n R x k kp r h => by
  refine ⟨(Lib.compareBytes x.1 x.2.1, ()), h, rfl, rfl, rfl, fun lv vargs ha => ⟨[.int .i64 (Lib.compareBytes x.1 x.2.1)], fun ρ lv' => ?_, ?_⟩⟩
  · show VRL dat ρ lv' [TV.int .i64 (Lib.compareBytes x.1 x.2.1)] _
    simp only [VRL, VR]
    exact ⟨_, _, rfl, rfl, rfl⟩
  · have ha : VRL dat [] lv [TV.str x.1, TV.str x.2.1] vargs := ha
    simp only [VRL, VR] at ha
    obtain ⟨v, r1, rfl, rfl, v2, r2, rfl, rfl, rfl⟩ := ha
    exact cmp_pc _ _
def go_slices_Sort_string_string : Nat → List (List UInt8) → Option (List (List UInt8)) := fun _ xs => if xs.length < 4611686018427387904 then some (sortS xs) else none
noncomputable def I_slices_Sort_string_string : FI dat := sortFI dat 48 9 go_slices_Sort_string_string
theorem ok_slices_Sort_string_string : FOk Tryz.prog I_slices_Sort_string_string :=
  sort_ok (fun _ _ => Tryz.call48 _ _) (fun blk cap ss w h1 h2 h3 => Any.slices_Sort_string Tryz.lays190 blk 0 cap ss w h1 h2 h3) (fun p cap w => Any.slices_Sort_string_none Tryz.lays190 p cap w)
end Go.Proofs.YtfhpamcehnfhoaaGreat

namespace Go.Proofs.YtfhpamcehnfhoaaGreat
open Go Go.Ab
set_option linter.unusedVariables false
set_option maxRecDepth 100000
mutual
def go_ref03_great : Nat → GValue → Int → Option Bool
  | 0, _, _ => none
  | n + 1, a0, a1 => 
    pIf (a1 == 0)
      (go_ref03_great_L0 n a1 true a0.re)
      (pIf (decide ((a0.str.length : Int) > 200))
        (go_ref03_great_L0 n a1 true a0.re)
        (go_ref03_great_L0 n a1 (decide ((a0.list.length : Int) > 150)) a0.re))
def go_ref03_great_L0 : Nat → Int → Bool → GValue → Option Bool
  | 0, _, _, _ => none
  | n + 1, a0, a1, a2 => 
    pIf a1
      (some true)
      (go_ref03_great_L1 n 0 a0 a2.re)
def go_ref03_great_L1 : Nat → Int → Int → GValue → Option Bool
  | 0, _, _, _ => none
  | n + 1, a0, a1, a2 => 
    pIf (decide (a0 < (a2.list.length : Int)))
      ((ix a2.list a0).bind fun x0 =>
      (go_ref03_great n x0.re (IntKind.i64.wrap (a1 - 1))).bind fun y1 =>
      pIf y1
        (some true)
        (go_ref03_great_L1 n (IntKind.i64.wrap (a0 + 1)) a1 a2.re))
      (some false)
end
def k_ref03_great : LSh := ⟨[(4, (.d .bool))], [], 0, 35⟩
noncomputable def I_ref03_great : FI dat := FI.of dat 26 35 0 [(.d (.st 1)), (.d (.int .i64))] [] [(.d .bool)] [] true k_ref03_great (R := Bool) (fun x => x.1) (fun r => (r, ())) (fun n x => go_ref03_great n x.1 x.2.1)
  (fun n => [(0, ⟨⟨[(1, (.d (.int .i64))), (2, (.ptr 0 0)), (19, (.d .bool))], [(.st 1)], 0, 35⟩, fun x => go_ref03_great_L0 n x.1 x.2.1 x.2.2.1⟩), (1, ⟨⟨[(5, (.d (.int .i64))), (1, (.d (.int .i64))), (2, (.ptr 0 0))], [(.st 1)], 0, 35⟩, fun x => go_ref03_great_L1 n x.1 x.2.1 x.2.2.1⟩)]) (ann [(5, 0), (14, 1)] (Tryz.f26.body.getD .skip) 0).1
noncomputable def t_ref03_great : List (FI dat) := [I_ref03_great] ++ []
theorem g_ref03_great : (I_ref03_great).Good Tryz.prog dat (tb t_ref03_great) := FI.of_good (hD := dat_ok _) Tryz.func26 Tryz.ntmps26 Tryz.call26 (by kernel_rfl) (of_decide_eq_true (by kernel_rfl)) (by kernel_rfl) (fun n => by kernel_rfl) (fun x => by kernel_rfl) (fun _ => rfl) ⟨fun _ => rfl, fun _ => rfl, trivial⟩
  (fun n => fun x => (go_ref03_great.eq_2 x.1 x.2.1 n).trans (by kernel_rfl))
  (fun n => ⟨fun x => (go_ref03_great_L0.eq_2 x.1 x.2.1 x.2.2.1 n).trans (by kernel_rfl),
    fun x => (go_ref03_great_L1.eq_2 x.1 x.2.1 x.2.2.1 n).trans (by kernel_rfl),
    trivial⟩)
  (fun x => .inl rfl)
theorem r_ref03_great : OkL Tryz.prog [I_ref03_great] := ring_ok (dat_ok _) (bs := []) trivial ⟨g_ref03_great, trivial⟩
theorem ok_ref03_great : FOk Tryz.prog I_ref03_great := r_ref03_great.1
mutual
def go_ref03_Parts : Nat → GValue → Option Int
  | 0, _ => none
  | n + 1, a0 => 
    go_ref03_Parts_L0 n 0 1 a0.re
def go_ref03_Parts_L0 : Nat → Int → Int → GValue → Option Int
  | 0, _, _, _ => none
  | n + 1, a0, a1, a2 => 
    pIf (decide (a0 < (a2.list.length : Int)))
      (go_ref03_Parts_L1 n a0 a1 (a2.kind == 4) a2.re)
      (go_ref03_Parts_L1 n a0 a1 false a2.re)
def go_ref03_Parts_L1 : Nat → Int → Int → Bool → GValue → Option Int
  | 0, _, _, _, _ => none
  | n + 1, a0, a1, a2, a3 => 
    pIf a2
      ((ix a3.list a0).bind fun x0 =>
      (go_ref03_Parts n x0.re).bind fun y1 =>
      go_ref03_Parts_L0 n (IntKind.i64.wrap (a0 + 1)) (IntKind.i64.wrap (a1 + y1)) a3.re)
      (some a1)
end
def k_ref03_Parts : LSh := ⟨[(2, (.d (.int .i64)))], [], 0, 26⟩
noncomputable def I_ref03_Parts : FI dat := FI.of dat 27 26 0 [(.d (.st 1))] [] [(.d (.int .i64))] [] true k_ref03_Parts (R := Int) (fun x => x.1) (fun r => (r, ())) (fun n x => go_ref03_Parts n x.1)
  (fun n => [(0, ⟨⟨[(4, (.d (.int .i64))), (1, (.ptr 0 0)), (3, (.d (.int .i64)))], [(.st 1)], 0, 26⟩, fun x => go_ref03_Parts_L0 n x.1 x.2.1 x.2.2.1⟩), (1, ⟨⟨[(1, (.ptr 0 0)), (4, (.d (.int .i64))), (3, (.d (.int .i64))), (14, (.d .bool))], [(.st 1)], 0, 26⟩, fun x => go_ref03_Parts_L1 n x.1 x.2.1 x.2.2.1 x.2.2.2.1⟩)]) (ann [(8, 0), (12, 1)] (Tryz.f27.body.getD .skip) 0).1
noncomputable def t_ref03_Parts : List (FI dat) := [I_ref03_Parts] ++ []
theorem g_ref03_Parts : (I_ref03_Parts).Good Tryz.prog dat (tb t_ref03_Parts) := FI.of_good (hD := dat_ok _) Tryz.func27 Tryz.ntmps27 Tryz.call27 (by kernel_rfl) (of_decide_eq_true (by kernel_rfl)) (by kernel_rfl) (fun n => by kernel_rfl) (fun x => by kernel_rfl) (fun _ => rfl) ⟨fun _ => rfl, fun _ => rfl, trivial⟩
  (fun n => fun x => (go_ref03_Parts.eq_2 x.1 n).trans (by kernel_rfl))
  (fun n => ⟨fun x => (go_ref03_Parts_L0.eq_2 x.1 x.2.1 x.2.2.1 n).trans (by kernel_rfl),
    fun x => (go_ref03_Parts_L1.eq_2 x.1 x.2.1 x.2.2.1 x.2.2.2.1 n).trans (by kernel_rfl),
    trivial⟩)
  (fun x => .inl rfl)
theorem r_ref03_Parts : OkL Tryz.prog [I_ref03_Parts] := ring_ok (dat_ok _) (bs := []) trivial ⟨g_ref03_Parts, trivial⟩
theorem ok_ref03_Parts : FOk Tryz.prog I_ref03_Parts := r_ref03_Parts.1
def go_ref03_Great : Nat → GValue → Option Bool
  | 0, _ => none
  | n + 1, a0 => 
    (go_ref03_great n a0.re 10).bind fun y0 =>
    pIf y0
      (some true)
      ((go_ref03_Parts n a0.re).bind fun y1 =>
      some (decide (y1 > 150)))
def k_ref03_Great : LSh := ⟨[(2, (.d .bool))], [], 0, 10⟩
noncomputable def I_ref03_Great : FI dat := FI.of dat 6 10 0 [(.d (.st 1))] [] [(.d .bool)] [] true k_ref03_Great (R := Bool) (fun x => x.1) (fun r => (r, ())) (fun n x => go_ref03_Great n x.1)
  (fun n => []) (ann [] (Tryz.f6.body.getD .skip) 0).1
noncomputable def t_ref03_Great : List (FI dat) := [I_ref03_great, I_ref03_Parts]
theorem g_ref03_Great : (I_ref03_Great).Good Tryz.prog dat (tb t_ref03_Great) := FI.of_good (hD := dat_ok _) Tryz.func6 Tryz.ntmps6 Tryz.call6 (by kernel_rfl) (of_decide_eq_true (by kernel_rfl)) (by kernel_rfl) (fun n => by kernel_rfl) (fun x => by kernel_rfl) (fun _ => rfl) trivial
  (fun n => fun x => (go_ref03_Great.eq_2 x.1 n).trans (by kernel_rfl))
  (fun n => trivial)
  (fun x => .inl rfl)
theorem r_ref03_Great : OkL Tryz.prog [I_ref03_Great] := one_ok (dat_ok _) (bs := [I_ref03_great, I_ref03_Parts]) ⟨ok_ref03_great, ok_ref03_Parts, trivial⟩ g_ref03_Great
theorem ok_ref03_Great : FOk Tryz.prog I_ref03_Great := r_ref03_Great.1
mutual
def go_ref04_great : Nat → GExpr → Int → Option Bool
  | 0, _, _ => none
  | n + 1, a0, a1 => 
    pIf (a1 == 0)
      (go_ref04_great_L0 n a1 true a0.re)
      (pIf (decide ((a0.args.length : Int) > 150))
        (go_ref04_great_L0 n a1 true a0.re)
        (pIf (decide ((a0.name.length : Int) > 200))
          (go_ref04_great_L0 n a1 true a0.re)
          ((go_ref03_Great n a0.value.re).bind fun y0 =>
          go_ref04_great_L0 n a1 y0 a0.re)))
def go_ref04_great_L0 : Nat → Int → Bool → GExpr → Option Bool
  | 0, _, _, _ => none
  | n + 1, a0, a1, a2 => 
    pIf a1
      (some true)
      (go_ref04_great_L1 n 0 a0 a2.re)
def go_ref04_great_L1 : Nat → Int → Int → GExpr → Option Bool
  | 0, _, _, _ => none
  | n + 1, a0, a1, a2 => 
    pIf (decide (a0 < (a2.args.length : Int)))
      ((ix a2.args a0).bind fun x1 =>
      (go_ref04_great n x1.re (IntKind.i64.wrap (a1 - 1))).bind fun y2 =>
      pIf y2
        (some true)
        (go_ref04_great_L1 n (IntKind.i64.wrap (a0 + 1)) a1 a2.re))
      (some false)
end
def k_ref04_great : LSh := ⟨[(4, (.d .bool))], [], 0, 40⟩
noncomputable def I_ref04_great : FI dat := FI.of dat 24 40 0 [(.d (.st 2)), (.d (.int .i64))] [] [(.d .bool)] [] true k_ref04_great (R := Bool) (fun x => x.1) (fun r => (r, ())) (fun n x => go_ref04_great n x.1 x.2.1)
  (fun n => [(0, ⟨⟨[(1, (.d (.int .i64))), (2, (.ptr 0 0)), (24, (.d .bool))], [(.st 2)], 0, 40⟩, fun x => go_ref04_great_L0 n x.1 x.2.1 x.2.2.1⟩), (1, ⟨⟨[(5, (.d (.int .i64))), (1, (.d (.int .i64))), (2, (.ptr 0 0))], [(.st 2)], 0, 40⟩, fun x => go_ref04_great_L1 n x.1 x.2.1 x.2.2.1⟩)]) (ann [(5, 0), (14, 1)] (Tryz.f24.body.getD .skip) 0).1
noncomputable def t_ref04_great : List (FI dat) := [I_ref04_great] ++ [I_ref03_Great]
theorem g_ref04_great : (I_ref04_great).Good Tryz.prog dat (tb t_ref04_great) := FI.of_good (hD := dat_ok _) Tryz.func24 Tryz.ntmps24 Tryz.call24 (by kernel_rfl) (of_decide_eq_true (by kernel_rfl)) (by kernel_rfl) (fun n => by kernel_rfl) (fun x => by kernel_rfl) (fun _ => rfl) ⟨fun _ => rfl, fun _ => rfl, trivial⟩
  (fun n => fun x => (go_ref04_great.eq_2 x.1 x.2.1 n).trans (by kernel_rfl))
  (fun n => ⟨fun x => (go_ref04_great_L0.eq_2 x.1 x.2.1 x.2.2.1 n).trans (by kernel_rfl),
    fun x => (go_ref04_great_L1.eq_2 x.1 x.2.1 x.2.2.1 n).trans (by kernel_rfl),
    trivial⟩)
  (fun x => .inl rfl)
theorem r_ref04_great : OkL Tryz.prog [I_ref04_great] := ring_ok (dat_ok _) (bs := [I_ref03_Great]) ⟨ok_ref03_Great, trivial⟩ ⟨g_ref04_great, trivial⟩
theorem ok_ref04_great : FOk Tryz.prog I_ref04_great := r_ref04_great.1
mutual
def go_ref04_Parts : Nat → GExpr → Option Int
  | 0, _ => none
  | n + 1, a0 => 
    go_ref04_Parts_L0 n 0 1 a0.re
def go_ref04_Parts_L0 : Nat → Int → Int → GExpr → Option Int
  | 0, _, _, _ => none
  | n + 1, a0, a1, a2 => 
    pIf (decide (a0 < (a2.args.length : Int)))
      ((ix a2.args a0).bind fun x0 =>
      (go_ref04_Parts n x0.re).bind fun y1 =>
      go_ref04_Parts_L0 n (IntKind.i64.wrap (a0 + 1)) (IntKind.i64.wrap (a1 + y1)) a2.re)
      (some a1)
end
def k_ref04_Parts : LSh := ⟨[(2, (.d (.int .i64)))], [], 0, 21⟩
noncomputable def I_ref04_Parts : FI dat := FI.of dat 25 21 0 [(.d (.st 2))] [] [(.d (.int .i64))] [] true k_ref04_Parts (R := Int) (fun x => x.1) (fun r => (r, ())) (fun n x => go_ref04_Parts n x.1)
  (fun n => [(0, ⟨⟨[(4, (.d (.int .i64))), (1, (.ptr 0 0)), (3, (.d (.int .i64)))], [(.st 2)], 0, 21⟩, fun x => go_ref04_Parts_L0 n x.1 x.2.1 x.2.2.1⟩)]) (ann [(8, 0)] (Tryz.f25.body.getD .skip) 0).1
noncomputable def t_ref04_Parts : List (FI dat) := [I_ref04_Parts] ++ []
theorem g_ref04_Parts : (I_ref04_Parts).Good Tryz.prog dat (tb t_ref04_Parts) := FI.of_good (hD := dat_ok _) Tryz.func25 Tryz.ntmps25 Tryz.call25 (by kernel_rfl) (of_decide_eq_true (by kernel_rfl)) (by kernel_rfl) (fun n => by kernel_rfl) (fun x => by kernel_rfl) (fun _ => rfl) ⟨fun _ => rfl, trivial⟩
  (fun n => fun x => (go_ref04_Parts.eq_2 x.1 n).trans (by kernel_rfl))
  (fun n => ⟨fun x => (go_ref04_Parts_L0.eq_2 x.1 x.2.1 x.2.2.1 n).trans (by kernel_rfl),
    trivial⟩)
  (fun x => .inl rfl)
theorem r_ref04_Parts : OkL Tryz.prog [I_ref04_Parts] := ring_ok (dat_ok _) (bs := []) trivial ⟨g_ref04_Parts, trivial⟩
theorem ok_ref04_Parts : FOk Tryz.prog I_ref04_Parts := r_ref04_Parts.1
def go_ref04_Great : Nat → GExpr → Option Bool
  | 0, _ => none
  | n + 1, a0 => 
    (go_ref04_great n a0.re 16).bind fun y0 =>
    pIf y0
      (some true)
      ((go_ref04_Parts n a0.re).bind fun y1 =>
      some (decide (y1 > 150)))
def k_ref04_Great : LSh := ⟨[(2, (.d .bool))], [], 0, 10⟩
noncomputable def I_ref04_Great : FI dat := FI.of dat 5 10 0 [(.d (.st 2))] [] [(.d .bool)] [] true k_ref04_Great (R := Bool) (fun x => x.1) (fun r => (r, ())) (fun n x => go_ref04_Great n x.1)
  (fun n => []) (ann [] (Tryz.f5.body.getD .skip) 0).1
noncomputable def t_ref04_Great : List (FI dat) := [I_ref04_great, I_ref04_Parts]
theorem g_ref04_Great : (I_ref04_Great).Good Tryz.prog dat (tb t_ref04_Great) := FI.of_good (hD := dat_ok _) Tryz.func5 Tryz.ntmps5 Tryz.call5 (by kernel_rfl) (of_decide_eq_true (by kernel_rfl)) (by kernel_rfl) (fun n => by kernel_rfl) (fun x => by kernel_rfl) (fun _ => rfl) trivial
  (fun n => fun x => (go_ref04_Great.eq_2 x.1 n).trans (by kernel_rfl))
  (fun n => trivial)
  (fun x => .inl rfl)
theorem r_ref04_Great : OkL Tryz.prog [I_ref04_Great] := one_ok (dat_ok _) (bs := [I_ref04_great, I_ref04_Parts]) ⟨ok_ref04_great, ok_ref04_Parts, trivial⟩ g_ref04_Great
theorem ok_ref04_Great : FOk Tryz.prog I_ref04_Great := r_ref04_Great.1
mutual
def go_ref04_GreatBinds : Nat → (List GBind) → Option Bool
  | 0, _ => none
  | n + 1, a0 => 
    go_ref04_GreatBinds_L0 n 0 a0
def go_ref04_GreatBinds_L0 : Nat → Int → (List GBind) → Option Bool
  | 0, _, _ => none
  | n + 1, a0, a1 => 
    pIf (decide (a0 < (a1.length : Int)))
      (go_ref04_GreatBinds_L1 n a1 a0 (decide (a0 < 60)))
      (go_ref04_GreatBinds_L1 n a1 a0 false)
def go_ref04_GreatBinds_L1 : Nat → (List GBind) → Int → Bool → Option Bool
  | 0, _, _, _ => none
  | n + 1, a0, a1, a2 => 
    pIf a2
      ((ix a0 a1).bind fun x0 =>
      pIf (decide ((x0.name.length : Int) > 200))
        (go_ref04_GreatBinds_L2 n a0 a1 true)
        ((ix a0 a1).bind fun x1 =>
        (go_ref03_Great n x1.value.re).bind fun y2 =>
        go_ref04_GreatBinds_L2 n a0 a1 y2))
      (some (decide ((a0.length : Int) > 60)))
def go_ref04_GreatBinds_L2 : Nat → (List GBind) → Int → Bool → Option Bool
  | 0, _, _, _ => none
  | n + 1, a0, a1, a2 => 
    pIf a2
      (some true)
      (go_ref04_GreatBinds_L0 n (IntKind.i64.wrap (a1 + 1)) a0)
end
def k_ref04_GreatBinds : LSh := ⟨[(2, (.d .bool))], [], 0, 32⟩
noncomputable def I_ref04_GreatBinds : FI dat := FI.of dat 16 32 0 [(.d (.sl (.st 3)))] [] [(.d .bool)] [] true k_ref04_GreatBinds (R := Bool) (fun x => x.1) (fun r => (r, ())) (fun n x => go_ref04_GreatBinds n x.1)
  (fun n => [(0, ⟨⟨[(3, (.d (.int .i64))), (0, (.d (.sl (.st 3))))], [], 0, 32⟩, fun x => go_ref04_GreatBinds_L0 n x.1 x.2.1⟩), (1, ⟨⟨[(0, (.d (.sl (.st 3)))), (3, (.d (.int .i64))), (11, (.d .bool))], [], 0, 32⟩, fun x => go_ref04_GreatBinds_L1 n x.1 x.2.1 x.2.2.1⟩), (2, ⟨⟨[(0, (.d (.sl (.st 3)))), (3, (.d (.int .i64))), (28, (.d .bool))], [], 0, 32⟩, fun x => go_ref04_GreatBinds_L2 n x.1 x.2.1 x.2.2.1⟩)]) (ann [(6, 0), (10, 1), (17, 2)] (Tryz.f16.body.getD .skip) 0).1
noncomputable def t_ref04_GreatBinds : List (FI dat) := [I_ref03_Great]
theorem g_ref04_GreatBinds : (I_ref04_GreatBinds).Good Tryz.prog dat (tb t_ref04_GreatBinds) := FI.of_good (hD := dat_ok _) Tryz.func16 Tryz.ntmps16 Tryz.call16 (by kernel_rfl) (of_decide_eq_true (by kernel_rfl)) (by kernel_rfl) (fun n => by kernel_rfl) (fun x => by kernel_rfl) (fun _ => rfl) ⟨fun _ => rfl, fun _ => rfl, fun _ => rfl, trivial⟩
  (fun n => fun x => (go_ref04_GreatBinds.eq_2 x.1 n).trans (by kernel_rfl))
  (fun n => ⟨fun x => (go_ref04_GreatBinds_L0.eq_2 x.1 x.2.1 n).trans (by kernel_rfl),
    fun x => (go_ref04_GreatBinds_L1.eq_2 x.1 x.2.1 x.2.2.1 n).trans (by kernel_rfl),
    fun x => (go_ref04_GreatBinds_L2.eq_2 x.1 x.2.1 x.2.2.1 n).trans (by kernel_rfl),
    trivial⟩)
  (fun x => .inl rfl)
theorem r_ref04_GreatBinds : OkL Tryz.prog [I_ref04_GreatBinds] := one_ok (dat_ok _) (bs := [I_ref03_Great]) ⟨ok_ref03_Great, trivial⟩ g_ref04_GreatBinds
theorem ok_ref04_GreatBinds : FOk Tryz.prog I_ref04_GreatBinds := r_ref04_GreatBinds.1
end Go.Proofs.YtfhpamcehnfhoaaGreat

namespace Go.Proofs.YtfhpamcehnfhoaaGreat
open Go Go.Ab
set_option linter.unusedVariables false
set_option maxRecDepth 100000
mutual
def go_expr_measure : Nat → GExpr → Option (Int × Int)
  | 0, _ => none
  | n + 1, a0 => 
    go_expr_measure_L0 n 0 1 1 a0.args (a0.args.length : Int)
def go_expr_measure_L0 : Nat → Int → Int → Int → (List GExpr) → Int → Option (Int × Int)
  | 0, _, _, _, _, _ => none
  | n + 1, a0, a1, a2, a3, a4 => 
    pIf (decide (a0 < a4))
      ((ix a3 a0).bind fun x0 =>
      (go_expr_measure n x0.re).bind fun y1 =>
      go_expr_measure_L0 n (IntKind.i64.wrap (a0 + 1)) (mxI a1 (IntKind.i64.wrap (y1.2 + 1))) (IntKind.i64.wrap (a2 + y1.1)) a3 a4)
      (some (a2, a1))
end
def k_expr_measure : LSh := ⟨[(2, (.d (.int .i64))), (3, (.d (.int .i64)))], [], 0, 30⟩
noncomputable def I_expr_measure : FI dat := FI.of dat 50 30 0 [(.d (.st 2))] [] [(.d (.int .i64)), (.d (.int .i64))] [] true k_expr_measure (R := Int × Int) (fun x => (x.1, x.2.1)) (fun r => (r.1, r.2, ())) (fun n x => go_expr_measure n x.1)
  (fun n => [(0, ⟨⟨[(11, (.d (.int .i64))), (3, (.d (.int .i64))), (2, (.d (.int .i64))), (9, (.d (.sl (.st 2)))), (10, (.d (.int .i64)))], [], 0, 30⟩, fun x => go_expr_measure_L0 n x.1 x.2.1 x.2.2.1 x.2.2.2.1 x.2.2.2.2.1⟩)]) (ann [(8, 0)] (Tryz.f50.body.getD .skip) 0).1
noncomputable def t_expr_measure : List (FI dat) := [I_expr_measure] ++ []
theorem g_expr_measure : (I_expr_measure).Good Tryz.prog dat (tb t_expr_measure) := FI.of_good (hD := dat_ok _) Tryz.func50 Tryz.ntmps50 Tryz.call50 (by kernel_rfl) (of_decide_eq_true (by kernel_rfl)) (by kernel_rfl) (fun n => by kernel_rfl) (fun x => by kernel_rfl) (fun _ => rfl) ⟨fun _ => rfl, trivial⟩
  (fun n => fun x => (go_expr_measure.eq_2 x.1 n).trans (by kernel_rfl))
  (fun n => ⟨fun x => (go_expr_measure_L0.eq_2 x.1 x.2.1 x.2.2.1 x.2.2.2.1 x.2.2.2.2.1 n).trans (by kernel_rfl),
    trivial⟩)
  (fun x => .inl rfl)
theorem r_expr_measure : OkL Tryz.prog [I_expr_measure] := ring_ok (dat_ok _) (bs := []) trivial ⟨g_expr_measure, trivial⟩
theorem ok_expr_measure : FOk Tryz.prog I_expr_measure := r_expr_measure.1
mutual
def go_expr_count : Nat → Int → Option Int
  | 0, _ => none
  | n + 1, a0 => 
    pIf (a0 == 12)
      (go_expr_count_L5 n 3)
      (pIf (a0 == 3)
        (go_expr_count_L0 n (-2) a0 true)
        (pIf (a0 == 4)
          (go_expr_count_L0 n (-2) a0 true)
          (pIf (a0 == 5)
            (go_expr_count_L0 n (-2) a0 true)
            (pIf (a0 == 6)
              (go_expr_count_L0 n (-2) a0 true)
              (pIf (a0 == 7)
                (go_expr_count_L0 n (-2) a0 true)
                (pIf (a0 == 8)
                  (go_expr_count_L0 n (-2) a0 true)
                  (pIf (a0 == 9)
                    (go_expr_count_L0 n (-2) a0 true)
                    (go_expr_count_L0 n (-2) a0 (a0 == 10)))))))))
def go_expr_count_L0 : Nat → Int → Int → Bool → Option Int
  | 0, _, _, _ => none
  | n + 1, a0, a1, a2 => 
    pIf a2
      (go_expr_count_L4 n )
      (pIf (a1 == 13)
        (go_expr_count_L1 n a0 a1 true)
        (pIf (a1 == 14)
          (go_expr_count_L1 n a0 a1 true)
          (go_expr_count_L1 n a0 a1 (a1 == 17))))
def go_expr_count_L1 : Nat → Int → Int → Bool → Option Int
  | 0, _, _, _ => none
  | n + 1, a0, a1, a2 => 
    pIf a2
      (go_expr_count_L4 n )
      (pIf (a1 == 11)
        (go_expr_count_L2 n a0 a1 true)
        (pIf (a1 == 15)
          (go_expr_count_L2 n a0 a1 true)
          (go_expr_count_L2 n a0 a1 (a1 == 16))))
def go_expr_count_L2 : Nat → Int → Int → Bool → Option Int
  | 0, _, _, _ => none
  | n + 1, a0, a1, a2 => 
    pIf a2
      (go_expr_count_L5 n 1)
      (pIf (a1 == 1)
        (go_expr_count_L3 n a0 a1 true)
        (go_expr_count_L3 n a0 a1 (a1 == 2)))
def go_expr_count_L3 : Nat → Int → Int → Bool → Option Int
  | 0, _, _, _ => none
  | n + 1, a0, a1, a2 => 
    pIf a2
      (go_expr_count_L5 n 0)
      (pIf (a1 == 18)
        (go_expr_count_L5 n (-1))
        (go_expr_count_L5 n a0))
def go_expr_count_L4 : Nat → Option Int
  | 0 => none
  | n + 1 => 
    go_expr_count_L5 n 2
def go_expr_count_L5 : Nat → Int → Option Int
  | 0, _ => none
  | n + 1, a0 => 
    some a0
end
def k_expr_count : LSh := ⟨[(2, (.d (.int .i64)))], [], 0, 30⟩
noncomputable def I_expr_count : FI dat := FI.of dat 69 30 0 [(.d (.int .u8))] [] [(.d (.int .i64))] [] true k_expr_count (R := Int) (fun x => x.1) (fun r => (r, ())) (fun n x => go_expr_count n x.1)
  (fun n => [(0, ⟨⟨[(3, (.d (.int .i64))), (4, (.d (.int .u8))), (7, (.d .bool))], [], 0, 30⟩, fun x => go_expr_count_L0 n x.1 x.2.1 x.2.2.1⟩), (1, ⟨⟨[(3, (.d (.int .i64))), (4, (.d (.int .u8))), (16, (.d .bool))], [], 0, 30⟩, fun x => go_expr_count_L1 n x.1 x.2.1 x.2.2.1⟩), (2, ⟨⟨[(3, (.d (.int .i64))), (4, (.d (.int .u8))), (20, (.d .bool))], [], 0, 30⟩, fun x => go_expr_count_L2 n x.1 x.2.1 x.2.2.1⟩), (3, ⟨⟨[(3, (.d (.int .i64))), (4, (.d (.int .u8))), (24, (.d .bool))], [], 0, 30⟩, fun x => go_expr_count_L3 n x.1 x.2.1 x.2.2.1⟩), (4, ⟨⟨[], [], 0, 30⟩, fun x => go_expr_count_L4 n ⟩), (5, ⟨⟨[(3, (.d (.int .i64)))], [], 0, 30⟩, fun x => go_expr_count_L5 n x.1⟩)]) (ann [(57, 0), (71, 1), (85, 2), (95, 3), (107, 4), (119, 5)] (Tryz.f69.body.getD .skip) 0).1
noncomputable def t_expr_count : List (FI dat) := []
theorem g_expr_count : (I_expr_count).Good Tryz.prog dat (tb t_expr_count) := FI.of_good (hD := dat_ok _) Tryz.func69 Tryz.ntmps69 Tryz.call69 (by kernel_rfl) (of_decide_eq_true (by kernel_rfl)) (by kernel_rfl) (fun n => by kernel_rfl) (fun x => by kernel_rfl) (fun _ => rfl) ⟨fun _ => rfl, fun _ => rfl, fun _ => rfl, fun _ => rfl, fun _ => rfl, fun _ => rfl, trivial⟩
  (fun n => fun x => (go_expr_count.eq_2 x.1 n).trans (by kernel_rfl))
  (fun n => ⟨fun x => (go_expr_count_L0.eq_2 x.1 x.2.1 x.2.2.1 n).trans (by kernel_rfl),
    fun x => (go_expr_count_L1.eq_2 x.1 x.2.1 x.2.2.1 n).trans (by kernel_rfl),
    fun x => (go_expr_count_L2.eq_2 x.1 x.2.1 x.2.2.1 n).trans (by kernel_rfl),
    fun x => (go_expr_count_L3.eq_2 x.1 x.2.1 x.2.2.1 n).trans (by kernel_rfl),
    fun x => (go_expr_count_L4.eq_2  n).trans (by kernel_rfl),
    fun x => (go_expr_count_L5.eq_2 x.1 n).trans (by kernel_rfl),
    trivial⟩)
  (fun x => .inl rfl)
theorem r_expr_count : OkL Tryz.prog [I_expr_count] := one_ok (dat_ok _) (bs := []) trivial g_expr_count
theorem ok_expr_count : FOk Tryz.prog I_expr_count := r_expr_count.1
mutual
def go_value_measure : Nat → GValue → Option (Int × Int)
  | 0, _ => none
  | n + 1, a0 => 
    pIf (a0.kind == 4)
      (go_value_measure_L0 n 0 1 1 a0.list (a0.list.length : Int))
      (go_value_measure_L1 n 1 1)
def go_value_measure_L0 : Nat → Int → Int → Int → (List GValue) → Int → Option (Int × Int)
  | 0, _, _, _, _, _ => none
  | n + 1, a0, a1, a2, a3, a4 => 
    pIf (decide (a0 < a4))
      ((ix a3 a0).bind fun x0 =>
      (go_value_measure n x0.re).bind fun y1 =>
      go_value_measure_L0 n (IntKind.i64.wrap (a0 + 1)) (mxI a1 (IntKind.i64.wrap (y1.2 + 1))) (IntKind.i64.wrap (a2 + y1.1)) a3 a4)
      (go_value_measure_L1 n a1 a2)
def go_value_measure_L1 : Nat → Int → Int → Option (Int × Int)
  | 0, _, _ => none
  | n + 1, a0, a1 => 
    some (a1, a0)
end
def k_value_measure : LSh := ⟨[(2, (.d (.int .i64))), (3, (.d (.int .i64)))], [], 0, 33⟩
noncomputable def I_value_measure : FI dat := FI.of dat 54 33 0 [(.d (.st 1))] [] [(.d (.int .i64)), (.d (.int .i64))] [] true k_value_measure (R := Int × Int) (fun x => (x.1, x.2.1)) (fun r => (r.1, r.2, ())) (fun n x => go_value_measure n x.1)
  (fun n => [(0, ⟨⟨[(14, (.d (.int .i64))), (3, (.d (.int .i64))), (2, (.d (.int .i64))), (12, (.d (.sl (.st 1)))), (13, (.d (.int .i64)))], [], 0, 33⟩, fun x => go_value_measure_L0 n x.1 x.2.1 x.2.2.1 x.2.2.2.1 x.2.2.2.2.1⟩), (1, ⟨⟨[(3, (.d (.int .i64))), (2, (.d (.int .i64)))], [], 0, 33⟩, fun x => go_value_measure_L1 n x.1 x.2.1⟩)]) (ann [(11, 0), (29, 1)] (Tryz.f54.body.getD .skip) 0).1
noncomputable def t_value_measure : List (FI dat) := [I_value_measure] ++ []
theorem g_value_measure : (I_value_measure).Good Tryz.prog dat (tb t_value_measure) := FI.of_good (hD := dat_ok _) Tryz.func54 Tryz.ntmps54 Tryz.call54 (by kernel_rfl) (of_decide_eq_true (by kernel_rfl)) (by kernel_rfl) (fun n => by kernel_rfl) (fun x => by kernel_rfl) (fun _ => rfl) ⟨fun _ => rfl, fun _ => rfl, trivial⟩
  (fun n => fun x => (go_value_measure.eq_2 x.1 n).trans (by kernel_rfl))
  (fun n => ⟨fun x => (go_value_measure_L0.eq_2 x.1 x.2.1 x.2.2.1 x.2.2.2.1 x.2.2.2.2.1 n).trans (by kernel_rfl),
    fun x => (go_value_measure_L1.eq_2 x.1 x.2.1 n).trans (by kernel_rfl),
    trivial⟩)
  (fun x => .inl rfl)
theorem r_value_measure : OkL Tryz.prog [I_value_measure] := ring_ok (dat_ok _) (bs := []) trivial ⟨g_value_measure, trivial⟩
theorem ok_value_measure : FOk Tryz.prog I_value_measure := r_value_measure.1
def go_ratio_size : Nat → Int → Option Int
  | 0, _ => none
  | n + 1, a0 => 
    pIf (decide (a0 < 0))
      (some (IntKind.u64.wrap (0 - (IntKind.u64.wrap a0))))
      (some (IntKind.u64.wrap a0))
def k_ratio_size : LSh := ⟨[(2, (.d (.int .u64)))], [], 0, 10⟩
noncomputable def I_ratio_size : FI dat := FI.of dat 106 10 0 [(.d (.int .i64))] [] [(.d (.int .u64))] [] true k_ratio_size (R := Int) (fun x => x.1) (fun r => (r, ())) (fun n x => go_ratio_size n x.1)
  (fun n => []) (ann [] (Tryz.f106.body.getD .skip) 0).1
noncomputable def t_ratio_size : List (FI dat) := []
theorem g_ratio_size : (I_ratio_size).Good Tryz.prog dat (tb t_ratio_size) := FI.of_good (hD := dat_ok _) Tryz.func106 Tryz.ntmps106 Tryz.call106 (by kernel_rfl) (of_decide_eq_true (by kernel_rfl)) (by kernel_rfl) (fun n => by kernel_rfl) (fun x => by kernel_rfl) (fun _ => rfl) trivial
  (fun n => fun x => (go_ratio_size.eq_2 x.1 n).trans (by kernel_rfl))
  (fun n => trivial)
  (fun x => .inl rfl)
theorem r_ratio_size : OkL Tryz.prog [I_ratio_size] := one_ok (dat_ok _) (bs := []) trivial g_ratio_size
theorem ok_ratio_size : FOk Tryz.prog I_ratio_size := r_ratio_size.1
mutual
def go_ratio_gcd : Nat → Int → Int → Option Int
  | 0, _, _ => none
  | n + 1, a0, a1 => 
    go_ratio_gcd_L0 n a1 a0
def go_ratio_gcd_L0 : Nat → Int → Int → Option Int
  | 0, _, _ => none
  | n + 1, a0, a1 => 
    pIf (a0 != 0)
      ((rem .u64 a1 a0).bind fun x0 =>
      go_ratio_gcd_L0 n x0 a0)
      (some a1)
end
def k_ratio_gcd : LSh := ⟨[(4, (.d (.int .u64)))], [], 0, 12⟩
noncomputable def I_ratio_gcd : FI dat := FI.of dat 107 12 0 [(.d (.int .u64)), (.d (.int .u64))] [] [(.d (.int .u64))] [] true k_ratio_gcd (R := Int) (fun x => x.1) (fun r => (r, ())) (fun n x => go_ratio_gcd n x.1 x.2.1)
  (fun n => [(0, ⟨⟨[(1, (.d (.int .u64))), (0, (.d (.int .u64)))], [], 0, 12⟩, fun x => go_ratio_gcd_L0 n x.1 x.2.1⟩)]) (ann [(4, 0)] (Tryz.f107.body.getD .skip) 0).1
noncomputable def t_ratio_gcd : List (FI dat) := []
theorem g_ratio_gcd : (I_ratio_gcd).Good Tryz.prog dat (tb t_ratio_gcd) := FI.of_good (hD := dat_ok _) Tryz.func107 Tryz.ntmps107 Tryz.call107 (by kernel_rfl) (of_decide_eq_true (by kernel_rfl)) (by kernel_rfl) (fun n => by kernel_rfl) (fun x => by kernel_rfl) (fun _ => rfl) ⟨fun _ => rfl, trivial⟩
  (fun n => fun x => (go_ratio_gcd.eq_2 x.1 x.2.1 n).trans (by kernel_rfl))
  (fun n => ⟨fun x => (go_ratio_gcd_L0.eq_2 x.1 x.2.1 n).trans (by kernel_rfl),
    trivial⟩)
  (fun x => .inl rfl)
theorem r_ratio_gcd : OkL Tryz.prog [I_ratio_gcd] := one_ok (dat_ok _) (bs := []) trivial g_ratio_gcd
theorem ok_ratio_gcd : FOk Tryz.prog I_ratio_gcd := r_ratio_gcd.1
mutual
def go_ratio_Check : Nat → GRatio → Option Int
  | 0, _ => none
  | n + 1, a0 => 
    pIf (decide (a0.den < 1))
      (go_ratio_Check_L0 n true)
      (pIf (decide (a0.den > 1000000000))
        (go_ratio_Check_L0 n true)
        ((go_ratio_size n a0.num).bind fun y0 =>
        pIf (decide (y0 > 1000000000))
          (go_ratio_Check_L0 n true)
          ((go_ratio_size n a0.num).bind fun y1 =>
          (go_ratio_gcd n y1 (IntKind.u64.wrap a0.den)).bind fun y2 =>
          go_ratio_Check_L0 n (y2 != 1))))
def go_ratio_Check_L0 : Nat → Bool → Option Int
  | 0, _ => none
  | n + 1, a0 => 
    pIf a0
      (some 8)
      (some 0)
end
def k_ratio_Check : LSh := ⟨[(2, (.d (.int .i64)))], [], 0, 27⟩
noncomputable def I_ratio_Check : FI dat := FI.of dat 73 27 0 [(.d (.st 0))] [] [(.d (.int .i64))] [] true k_ratio_Check (R := Int) (fun x => x.1) (fun r => (r, ())) (fun n x => go_ratio_Check n x.1)
  (fun n => [(0, ⟨⟨[(26, (.d .bool))], [], 0, 27⟩, fun x => go_ratio_Check_L0 n x.1⟩)]) (ann [(5, 0)] (Tryz.f73.body.getD .skip) 0).1
noncomputable def t_ratio_Check : List (FI dat) := [I_ratio_size, I_ratio_gcd]
theorem g_ratio_Check : (I_ratio_Check).Good Tryz.prog dat (tb t_ratio_Check) := FI.of_good (hD := dat_ok _) Tryz.func73 Tryz.ntmps73 Tryz.call73 (by kernel_rfl) (of_decide_eq_true (by kernel_rfl)) (by kernel_rfl) (fun n => by kernel_rfl) (fun x => by kernel_rfl) (fun _ => rfl) ⟨fun _ => rfl, trivial⟩
  (fun n => fun x => (go_ratio_Check.eq_2 x.1 n).trans (by kernel_rfl))
  (fun n => ⟨fun x => (go_ratio_Check_L0.eq_2 x.1 n).trans (by kernel_rfl),
    trivial⟩)
  (fun x => .inl rfl)
theorem r_ratio_Check : OkL Tryz.prog [I_ratio_Check] := one_ok (dat_ok _) (bs := [I_ratio_size, I_ratio_gcd]) ⟨ok_ratio_size, ok_ratio_gcd, trivial⟩ g_ratio_Check
theorem ok_ratio_Check : FOk Tryz.prog I_ratio_Check := r_ratio_Check.1
mutual
def go_value_fine : Nat → GValue → Option Bool
  | 0, _ => none
  | n + 1, a0 => 
    pIf (a0.kind == 1)
      ((go_ratio_Check n a0.num).bind fun y0 =>
      pIf (y0 != 0)
        (some false)
        (go_value_fine_L3 n (GValue.mk a0.kind (GRatio.mk 0 0) a0.truth a0.str a0.list)))
      (pIf (a0.kind == 2)
        (go_value_fine_L3 n (GValue.mk a0.kind a0.num false a0.str a0.list))
        (pIf (a0.kind == 3)
          (pIf (decide ((a0.str.length : Int) > 60))
            (some false)
            (go_value_fine_L0 n 0 a0.re (GValue.mk a0.kind a0.num a0.truth [] a0.list)))
          (pIf (a0.kind == 4)
            (go_value_fine_L2 n 0 a0.list (a0.list.length : Int) (GValue.mk a0.kind a0.num a0.truth a0.str []))
            (some false))))
def go_value_fine_L0 : Nat → Int → GValue → GValue → Option Bool
  | 0, _, _, _ => none
  | n + 1, a0, a1, a2 => 
    pIf (decide (a0 < (a1.str.length : Int)))
      ((ix a1.str a0).bind fun x1 =>
      pIf (decide ((x1.toNat : Int) < 32))
        (go_value_fine_L1 n a0 true a1.re a2.re)
        ((ix a1.str a0).bind fun x2 =>
        go_value_fine_L1 n a0 (decide ((x2.toNat : Int) > 126)) a1.re a2.re))
      (go_value_fine_L3 n a2.re)
def go_value_fine_L1 : Nat → Int → Bool → GValue → GValue → Option Bool
  | 0, _, _, _, _ => none
  | n + 1, a0, a1, a2, a3 => 
    pIf a1
      (some false)
      (go_value_fine_L0 n (IntKind.i64.wrap (a0 + 1)) a2.re a3.re)
def go_value_fine_L2 : Nat → Int → (List GValue) → Int → GValue → Option Bool
  | 0, _, _, _, _ => none
  | n + 1, a0, a1, a2, a3 => 
    pIf (decide (a0 < a2))
      ((ix a1 a0).bind fun x3 =>
      (go_value_fine n x3.re).bind fun y4 =>
      pIf (!y4)
        (some false)
        (go_value_fine_L2 n (IntKind.i64.wrap (a0 + 1)) a1 a2 a3.re))
      (go_value_fine_L3 n a3.re)
def go_value_fine_L3 : Nat → GValue → Option Bool
  | 0, _ => none
  | n + 1, a0 => 
    pIf ((a0.num.num == 0) && ((a0.num.den == 0) && true))
      (pIf (!a0.truth)
        (pIf (a0.str == [])
          (some ((a0.list.length : Int) == 0))
          (some false))
        (some false))
      (some false)
end
def k_value_fine : LSh := ⟨[(2, (.d .bool))], [], 0, 81⟩
noncomputable def I_value_fine : FI dat := FI.of dat 55 81 0 [(.d (.st 1))] [] [(.d .bool)] [] true k_value_fine (R := Bool) (fun x => x.1) (fun r => (r, ())) (fun n x => go_value_fine n x.1)
  (fun n => [(0, ⟨⟨[(4, (.d (.int .i64))), (1, (.ptr 0 0)), (3, (.ptr 1 0))], [(.st 1), (.st 1)], 0, 81⟩, fun x => go_value_fine_L0 n x.1 x.2.1 x.2.2.1⟩), (1, ⟨⟨[(1, (.ptr 0 0)), (3, (.ptr 1 0)), (4, (.d (.int .i64))), (46, (.d .bool))], [(.st 1), (.st 1)], 0, 81⟩, fun x => go_value_fine_L1 n x.1 x.2.1 x.2.2.1 x.2.2.2.1⟩), (2, ⟨⟨[(53, (.d (.int .i64))), (51, (.d (.sl (.st 1)))), (3, (.ptr 0 0)), (52, (.d (.int .i64)))], [(.st 1)], 0, 81⟩, fun x => go_value_fine_L2 n x.1 x.2.1 x.2.2.1 x.2.2.2.1⟩), (3, ⟨⟨[(3, (.ptr 0 0))], [(.st 1)], 0, 81⟩, fun x => go_value_fine_L3 n x.1⟩)]) (ann [(40, 0), (51, 1), (65, 2), (87, 3)] (Tryz.f55.body.getD .skip) 0).1
noncomputable def t_value_fine : List (FI dat) := [I_value_fine] ++ [I_ratio_Check]
theorem g_value_fine : (I_value_fine).Good Tryz.prog dat (tb t_value_fine) := FI.of_good (hD := dat_ok _) Tryz.func55 Tryz.ntmps55 Tryz.call55 (by kernel_rfl) (of_decide_eq_true (by kernel_rfl)) (by kernel_rfl) (fun n => by kernel_rfl) (fun x => by kernel_rfl) (fun _ => rfl) ⟨fun _ => rfl, fun _ => rfl, fun _ => rfl, fun _ => rfl, trivial⟩
  (fun n => fun x => (go_value_fine.eq_2 x.1 n).trans (by kernel_rfl))
  (fun n => ⟨fun x => (go_value_fine_L0.eq_2 x.1 x.2.1 x.2.2.1 n).trans (by kernel_rfl),
    fun x => (go_value_fine_L1.eq_2 x.1 x.2.1 x.2.2.1 x.2.2.2.1 n).trans (by kernel_rfl),
    fun x => (go_value_fine_L2.eq_2 x.1 x.2.1 x.2.2.1 x.2.2.2.1 n).trans (by kernel_rfl),
    fun x => (go_value_fine_L3.eq_2 x.1 n).trans (by kernel_rfl),
    trivial⟩)
  (fun x => .inl rfl)
theorem r_value_fine : OkL Tryz.prog [I_value_fine] := ring_ok (dat_ok _) (bs := [I_ratio_Check]) ⟨ok_ratio_Check, trivial⟩ ⟨g_value_fine, trivial⟩
theorem ok_value_fine : FOk Tryz.prog I_value_fine := r_value_fine.1
end Go.Proofs.YtfhpamcehnfhoaaGreat

namespace Go.Proofs.YtfhpamcehnfhoaaGreat
open Go Go.Ab
set_option linter.unusedVariables false
set_option maxRecDepth 100000
mutual
def go_value_Check : Nat → GValue → Option Int
  | 0, _ => none
  | n + 1, a0 => 
    (go_value_measure n a0.re).bind fun y0 =>
    pIf (decide (y0.1 > 100))
      (go_value_Check_L0 n true a0.re)
      (go_value_Check_L0 n (decide (y0.2 > 6)) a0.re)
def go_value_Check_L0 : Nat → Bool → GValue → Option Int
  | 0, _, _ => none
  | n + 1, a0, a1 => 
    pIf a0
      (some 4)
      ((go_value_fine n a1.re).bind fun y1 =>
      pIf (!y1)
        (some 8)
        (some 0))
end
def k_value_Check : LSh := ⟨[(2, (.d (.int .i64)))], [], 0, 19⟩
noncomputable def I_value_Check : FI dat := FI.of dat 30 19 0 [(.d (.st 1))] [] [(.d (.int .i64))] [] true k_value_Check (R := Int) (fun x => x.1) (fun r => (r, ())) (fun n x => go_value_Check n x.1)
  (fun n => [(0, ⟨⟨[(1, (.ptr 0 0)), (15, (.d .bool))], [(.st 1)], 0, 19⟩, fun x => go_value_Check_L0 n x.1 x.2.1⟩)]) (ann [(7, 0)] (Tryz.f30.body.getD .skip) 0).1
noncomputable def t_value_Check : List (FI dat) := [I_value_measure, I_value_fine]
theorem g_value_Check : (I_value_Check).Good Tryz.prog dat (tb t_value_Check) := FI.of_good (hD := dat_ok _) Tryz.func30 Tryz.ntmps30 Tryz.call30 (by kernel_rfl) (of_decide_eq_true (by kernel_rfl)) (by kernel_rfl) (fun n => by kernel_rfl) (fun x => by kernel_rfl) (fun _ => rfl) ⟨fun _ => rfl, trivial⟩
  (fun n => fun x => (go_value_Check.eq_2 x.1 n).trans (by kernel_rfl))
  (fun n => ⟨fun x => (go_value_Check_L0.eq_2 x.1 x.2.1 n).trans (by kernel_rfl),
    trivial⟩)
  (fun x => .inl rfl)
theorem r_value_Check : OkL Tryz.prog [I_value_Check] := one_ok (dat_ok _) (bs := [I_value_measure, I_value_fine]) ⟨ok_value_measure, ok_value_fine, trivial⟩ g_value_Check
theorem ok_value_Check : FOk Tryz.prog I_value_Check := r_value_Check.1
mutual
def go_label_Name : Nat → (List UInt8) → Option Bool
  | 0, _ => none
  | n + 1, a0 => 
    pIf ((a0.length : Int) == 0)
      (go_label_Name_L0 n a0 true)
      (go_label_Name_L0 n a0 (decide ((a0.length : Int) > 40)))
def go_label_Name_L0 : Nat → (List UInt8) → Bool → Option Bool
  | 0, _, _ => none
  | n + 1, a0, a1 => 
    pIf a1
      (some false)
      (go_label_Name_L1 n a0 0)
def go_label_Name_L1 : Nat → (List UInt8) → Nat → Option Bool
  | 0, _, _ => none
  | n + 1, a0, a1 => 
    pIf (decide (a1 < a0.length))
      (pIf (decide (((decL a0 a1).1 : Int) ≥ 97))
        (go_label_Name_L2 n ((decL a0 a1).1 : Int) (a1 : Int) (decide (((decL a0 a1).1 : Int) ≤ 122)) a0 (a1 + (decL a0 a1).2))
        (go_label_Name_L2 n ((decL a0 a1).1 : Int) (a1 : Int) false a0 (a1 + (decL a0 a1).2)))
      (some true)
def go_label_Name_L2 : Nat → Int → Int → Bool → (List UInt8) → Nat → Option Bool
  | 0, _, _, _, _, _ => none
  | n + 1, a0, a1, a2, a3, a4 => 
    pIf (!a2)
      (pIf (a1 == 0)
        (go_label_Name_L3 n true a3 a4)
        (pIf (a0 != 45)
          (pIf (decide (a0 < 48))
            (go_label_Name_L3 n true a3 a4)
            (go_label_Name_L3 n (decide (a0 > 57)) a3 a4))
          (go_label_Name_L3 n false a3 a4)))
      (go_label_Name_L3 n false a3 a4)
def go_label_Name_L3 : Nat → Bool → (List UInt8) → Nat → Option Bool
  | 0, _, _, _ => none
  | n + 1, a0, a1, a2 => 
    pIf a0
      (some false)
      (go_label_Name_L1 n a1 a2)
end
def k_label_Name : LSh := ⟨[(2, (.d .bool))], [], 0, 44⟩
noncomputable def I_label_Name : FI dat := FI.of dat 43 44 0 [(.d .str)] [] [(.d .bool)] [] true k_label_Name (R := Bool) (fun x => x.1) (fun r => (r, ())) (fun n x => go_label_Name n x.1)
  (fun n => [(0, ⟨⟨[(0, (.d .str)), (13, (.d .bool))], [], 0, 44⟩, fun x => go_label_Name_L0 n x.1 x.2.1⟩), (1, ⟨⟨[(15, (.ptr 0 0))], [.siter], 0, 44⟩, fun x => go_label_Name_L1 n x.1 x.2.1⟩), (2, ⟨⟨[(15, (.ptr 0 0)), (4, (.d (.int .i32))), (3, (.d (.int .i64))), (5, (.d .bool))], [.siter], 0, 44⟩, fun x => go_label_Name_L2 n x.1 x.2.1 x.2.2.1 x.2.2.2.1 x.2.2.2.2.1⟩), (3, ⟨⟨[(15, (.ptr 0 0)), (43, (.d .bool))], [.siter], 0, 44⟩, fun x => go_label_Name_L3 n x.1 x.2.1 x.2.2.1⟩)]) (ann [(5, 0), (14, 1), (26, 2), (28, 3)] (Tryz.f43.body.getD .skip) 0).1
noncomputable def t_label_Name : List (FI dat) := []
theorem g_label_Name : (I_label_Name).Good Tryz.prog dat (tb t_label_Name) := FI.of_good (hD := dat_ok _) Tryz.func43 Tryz.ntmps43 Tryz.call43 (by kernel_rfl) (of_decide_eq_true (by kernel_rfl)) (by kernel_rfl) (fun n => by kernel_rfl) (fun x => by kernel_rfl) (fun _ => rfl) ⟨fun _ => rfl, fun _ => rfl, fun _ => rfl, fun _ => rfl, trivial⟩
  (fun n => fun x => (go_label_Name.eq_2 x.1 n).trans (by kernel_rfl))
  (fun n => ⟨fun x => (go_label_Name_L0.eq_2 x.1 x.2.1 n).trans (by kernel_rfl),
    fun x => (go_label_Name_L1.eq_2 x.1 x.2.1 n).trans (by kernel_rfl),
    fun x => (go_label_Name_L2.eq_2 x.1 x.2.1 x.2.2.1 x.2.2.2.1 x.2.2.2.2.1 n).trans (by kernel_rfl),
    fun x => (go_label_Name_L3.eq_2 x.1 x.2.1 x.2.2.1 n).trans (by kernel_rfl),
    trivial⟩)
  (fun x => .inl rfl)
theorem r_label_Name : OkL Tryz.prog [I_label_Name] := one_ok (dat_ok _) (bs := []) trivial g_label_Name
theorem ok_label_Name : FOk Tryz.prog I_label_Name := r_label_Name.1
def go_expr_named : Nat → (List UInt8) → Option Bool
  | 0, _ => none
  | n + 1, a0 => 
    (go_label_Name n a0).bind fun y0 =>
    pIf y0
      (pIf (!(a0 == [116, 114, 117, 101]))
        (some (!(a0 == [102, 97, 108, 115, 101])))
        (some false))
      (some false)
def k_expr_named : LSh := ⟨[(2, (.d .bool))], [], 0, 13⟩
noncomputable def I_expr_named : FI dat := FI.of dat 29 13 0 [(.d .str)] [] [(.d .bool)] [] true k_expr_named (R := Bool) (fun x => x.1) (fun r => (r, ())) (fun n x => go_expr_named n x.1)
  (fun n => []) (ann [] (Tryz.f29.body.getD .skip) 0).1
noncomputable def t_expr_named : List (FI dat) := [I_label_Name]
theorem g_expr_named : (I_expr_named).Good Tryz.prog dat (tb t_expr_named) := FI.of_good (hD := dat_ok _) Tryz.func29 Tryz.ntmps29 Tryz.call29 (by kernel_rfl) (of_decide_eq_true (by kernel_rfl)) (by kernel_rfl) (fun n => by kernel_rfl) (fun x => by kernel_rfl) (fun _ => rfl) trivial
  (fun n => fun x => (go_expr_named.eq_2 x.1 n).trans (by kernel_rfl))
  (fun n => trivial)
  (fun x => .inl rfl)
theorem r_expr_named : OkL Tryz.prog [I_expr_named] := one_ok (dat_ok _) (bs := [I_label_Name]) ⟨ok_label_Name, trivial⟩ g_expr_named
theorem ok_expr_named : FOk Tryz.prog I_expr_named := r_expr_named.1
mutual
def go_value_Same : Nat → GValue → GValue → Option Bool
  | 0, _, _ => none
  | n + 1, a0, a1 => 
    pIf (a0.kind != a1.kind)
      (go_value_Same_L0 n true a1.re a0.re)
      (pIf (!((a0.num.num == a1.num.num) && ((a0.num.den == a1.num.den) && true)))
        (go_value_Same_L0 n true a1.re a0.re)
        (pIf (!(a0.truth == a1.truth))
          (go_value_Same_L0 n true a1.re a0.re)
          (pIf (!(a0.str == a1.str))
            (go_value_Same_L0 n true a1.re a0.re)
            (go_value_Same_L0 n ((a0.list.length : Int) != (a1.list.length : Int)) a1.re a0.re))))
def go_value_Same_L0 : Nat → Bool → GValue → GValue → Option Bool
  | 0, _, _, _ => none
  | n + 1, a0, a1, a2 => 
    pIf a0
      (some false)
      (go_value_Same_L1 n 0 (a2.list.length : Int) a1.re a2.re)
def go_value_Same_L1 : Nat → Int → Int → GValue → GValue → Option Bool
  | 0, _, _, _, _ => none
  | n + 1, a0, a1, a2, a3 => 
    pIf (decide (a0 < a1))
      ((ix a3.list a0).bind fun x0 =>
      (ix a2.list a0).bind fun x1 =>
      (go_value_Same n x0.re x1.re).bind fun y2 =>
      pIf (!y2)
        (some false)
        (go_value_Same_L1 n (IntKind.i64.wrap (a0 + 1)) a1 a2.re a3.re))
      (some true)
end
def k_value_Same : LSh := ⟨[(4, (.d .bool))], [], 0, 60⟩
noncomputable def I_value_Same : FI dat := FI.of dat 41 60 0 [(.d (.st 1)), (.d (.st 1))] [] [(.d .bool)] [] true k_value_Same (R := Bool) (fun x => x.1) (fun r => (r, ())) (fun n x => go_value_Same n x.1 x.2.1)
  (fun n => [(0, ⟨⟨[(3, (.ptr 0 0)), (2, (.ptr 1 0)), (40, (.d .bool))], [(.st 1), (.st 1)], 0, 60⟩, fun x => go_value_Same_L0 n x.1 x.2.1 x.2.2.1⟩), (1, ⟨⟨[(44, (.d (.int .i64))), (3, (.ptr 0 0)), (2, (.ptr 1 0)), (43, (.d (.int .i64)))], [(.st 1), (.st 1)], 0, 60⟩, fun x => go_value_Same_L1 n x.1 x.2.1 x.2.2.1 x.2.2.2.1⟩)]) (ann [(5, 0), (14, 1)] (Tryz.f41.body.getD .skip) 0).1
noncomputable def t_value_Same : List (FI dat) := [I_value_Same] ++ []
theorem g_value_Same : (I_value_Same).Good Tryz.prog dat (tb t_value_Same) := FI.of_good (hD := dat_ok _) Tryz.func41 Tryz.ntmps41 Tryz.call41 (by kernel_rfl) (of_decide_eq_true (by kernel_rfl)) (by kernel_rfl) (fun n => by kernel_rfl) (fun x => by kernel_rfl) (fun _ => rfl) ⟨fun _ => rfl, fun _ => rfl, trivial⟩
  (fun n => fun x => (go_value_Same.eq_2 x.1 x.2.1 n).trans (by kernel_rfl))
  (fun n => ⟨fun x => (go_value_Same_L0.eq_2 x.1 x.2.1 x.2.2.1 n).trans (by kernel_rfl),
    fun x => (go_value_Same_L1.eq_2 x.1 x.2.1 x.2.2.1 x.2.2.2.1 n).trans (by kernel_rfl),
    trivial⟩)
  (fun x => .inl rfl)
theorem r_value_Same : OkL Tryz.prog [I_value_Same] := ring_ok (dat_ok _) (bs := []) trivial ⟨g_value_Same, trivial⟩
theorem ok_value_Same : FOk Tryz.prog I_value_Same := r_value_Same.1
mutual
def go_expr_fine : Nat → GExpr → Option Bool
  | 0, _ => none
  | n + 1, a0 => 
    (go_expr_count n a0.op).bind fun y0 =>
    pIf (y0 == (-2))
      (go_expr_fine_L0 n true a0.re)
      (pIf (decide (y0 ≥ 0))
        (go_expr_fine_L0 n ((a0.args.length : Int) != y0) a0.re)
        (go_expr_fine_L0 n false a0.re))
def go_expr_fine_L0 : Nat → Bool → GExpr → Option Bool
  | 0, _, _ => none
  | n + 1, a0, a1 => 
    pIf a0
      (some false)
      (pIf (a1.op == 1)
        ((go_value_Check n a1.value.re).bind fun y1 =>
        pIf (y1 != 0)
          (go_expr_fine_L1 n true a1.re)
          (pIf (a1.value.kind == 4)
            (go_expr_fine_L1 n true a1.re)
            (go_expr_fine_L1 n (!(a1.name == [])) a1.re)))
        (pIf (a1.op == 2)
          ((go_expr_named n a1.name).bind fun y2 =>
          pIf (!y2)
            (go_expr_fine_L2 n true a1.re)
            ((go_value_Same n a1.value.re (GValue.mk 0 (GRatio.mk 0 0) false [] [])).bind fun y3 =>
            go_expr_fine_L2 n (!y3) a1.re))
          (pIf (!(a1.name == []))
            (go_expr_fine_L3 n true a1.re)
            ((go_value_Same n a1.value.re (GValue.mk 0 (GRatio.mk 0 0) false [] [])).bind fun y4 =>
            go_expr_fine_L3 n (!y4) a1.re))))
def go_expr_fine_L1 : Nat → Bool → GExpr → Option Bool
  | 0, _, _ => none
  | n + 1, a0, a1 => 
    pIf a0
      (some false)
      (go_expr_fine_L4 n a1.re)
def go_expr_fine_L2 : Nat → Bool → GExpr → Option Bool
  | 0, _, _ => none
  | n + 1, a0, a1 => 
    pIf a0
      (some false)
      (go_expr_fine_L4 n a1.re)
def go_expr_fine_L3 : Nat → Bool → GExpr → Option Bool
  | 0, _, _ => none
  | n + 1, a0, a1 => 
    pIf a0
      (some false)
      (go_expr_fine_L4 n a1.re)
def go_expr_fine_L4 : Nat → GExpr → Option Bool
  | 0, _ => none
  | n + 1, a0 => 
    (go_slices_ContainsFunc_api_Expr_api_Expr n a0.args).bind fun y5 =>
    some (!y5)
def go_slices_ContainsFunc_api_Expr_api_Expr : Nat → (List GExpr) → Option Bool
  | 0, _ => none
  | n + 1, a0 => 
    (go_slices_IndexFunc_api_Expr_api_Expr n a0).bind fun y0 =>
    some (decide (y0 ≥ 0))
def go_slices_IndexFunc_api_Expr_api_Expr : Nat → (List GExpr) → Option Int
  | 0, _ => none
  | n + 1, a0 => 
    go_slices_IndexFunc_api_Expr_api_Expr_L0 n 0 a0 (a0.length : Int)
def go_slices_IndexFunc_api_Expr_api_Expr_L0 : Nat → Int → (List GExpr) → Int → Option Int
  | 0, _, _, _ => none
  | n + 1, a0, a1, a2 => 
    pIf (decide (a0 < a2))
      ((ix a1 a0).bind fun x0 =>
      (go_expr_fine_1 n x0.re).bind fun y1 =>
      pIf y1
        (some a0)
        (go_slices_IndexFunc_api_Expr_api_Expr_L0 n (IntKind.i64.wrap (a0 + 1)) a1 a2))
      (some (-1))
def go_expr_fine_1 : Nat → GExpr → Option Bool
  | 0, _ => none
  | n + 1, a0 => 
    (go_expr_fine n a0.re).bind fun y0 =>
    some (!y0)
end
def k_expr_fine : LSh := ⟨[(2, (.d .bool))], [], 0, 66⟩
noncomputable def I_expr_fine : FI dat := FI.of dat 51 66 0 [(.d (.st 2))] [] [(.d .bool)] [] true k_expr_fine (R := Bool) (fun x => x.1) (fun r => (r, ())) (fun n x => go_expr_fine n x.1)
  (fun n => [(0, ⟨⟨[(1, (.ptr 0 0)), (19, (.d .bool))], [(.st 2)], 0, 66⟩, fun x => go_expr_fine_L0 n x.1 x.2.1⟩), (1, ⟨⟨[(1, (.ptr 0 0)), (48, (.d .bool))], [(.st 2)], 0, 66⟩, fun x => go_expr_fine_L1 n x.1 x.2.1⟩), (2, ⟨⟨[(1, (.ptr 0 0)), (61, (.d .bool))], [(.st 2)], 0, 66⟩, fun x => go_expr_fine_L2 n x.1 x.2.1⟩), (3, ⟨⟨[(1, (.ptr 0 0)), (31, (.d .bool))], [(.st 2)], 0, 66⟩, fun x => go_expr_fine_L3 n x.1 x.2.1⟩), (4, ⟨⟨[(1, (.ptr 0 0))], [(.st 2)], 0, 66⟩, fun x => go_expr_fine_L4 n x.1⟩)]) (ann [(7, 0), (21, 1), (31, 2), (38, 3), (43, 4)] (Tryz.f51.body.getD .skip) 0).1
def k_slices_ContainsFunc_api_Expr_api_Expr : LSh := ⟨[(4, (.d .bool))], [], 0, 9⟩
noncomputable def I_slices_ContainsFunc_api_Expr_api_Expr : FI dat := FI.of dat 70 9 0 [(.d (.sl (.st 2))), (.fn 71 [] [])] [] [(.d .bool)] [] true k_slices_ContainsFunc_api_Expr_api_Expr (R := Bool) (fun x => x.1) (fun r => (r, ())) (fun n x => go_slices_ContainsFunc_api_Expr_api_Expr n x.1)
  (fun n => []) (ann [] (Tryz.f70.body.getD .skip) 0).1
def k_slices_IndexFunc_api_Expr_api_Expr : LSh := ⟨[(4, (.d (.int .i64)))], [], 0, 19⟩
noncomputable def I_slices_IndexFunc_api_Expr_api_Expr : FI dat := FI.of dat 105 19 0 [(.d (.sl (.st 2))), (.fn 71 [] [])] [] [(.d (.int .i64))] [] true k_slices_IndexFunc_api_Expr_api_Expr (R := Int) (fun x => x.1) (fun r => (r, ())) (fun n x => go_slices_IndexFunc_api_Expr_api_Expr n x.1)
  (fun n => [(0, ⟨⟨[(8, (.d (.int .i64))), (0, (.d (.sl (.st 2)))), (1, (.fn 71 [] [])), (7, (.d (.int .i64)))], [], 0, 19⟩, fun x => go_slices_IndexFunc_api_Expr_api_Expr_L0 n x.1 x.2.1 x.2.2.1⟩)]) (ann [(6, 0)] (Tryz.f105.body.getD .skip) 0).1
def k_expr_fine_1 : LSh := ⟨[(2, (.d .bool))], [], 0, 6⟩
noncomputable def I_expr_fine_1 : FI dat := FI.of dat 71 6 0 [(.d (.st 2))] [] [(.d .bool)] [] true k_expr_fine_1 (R := Bool) (fun x => x.1) (fun r => (r, ())) (fun n x => go_expr_fine_1 n x.1)
  (fun n => []) (ann [] (Tryz.f71.body.getD .skip) 0).1
noncomputable def t_expr_fine : List (FI dat) := [I_expr_fine, I_slices_ContainsFunc_api_Expr_api_Expr, I_slices_IndexFunc_api_Expr_api_Expr, I_expr_fine_1] ++ [I_expr_count, I_value_Check, I_expr_named, I_value_Same]
theorem g_expr_fine : (I_expr_fine).Good Tryz.prog dat (tb t_expr_fine) := FI.of_good (hD := dat_ok _) Tryz.func51 Tryz.ntmps51 Tryz.call51 (by kernel_rfl) (of_decide_eq_true (by kernel_rfl)) (by kernel_rfl) (fun n => by kernel_rfl) (fun x => by kernel_rfl) (fun _ => rfl) ⟨fun _ => rfl, fun _ => rfl, fun _ => rfl, fun _ => rfl, fun _ => rfl, trivial⟩
  (fun n => fun x => (go_expr_fine.eq_2 x.1 n).trans (by kernel_rfl))
  (fun n => ⟨fun x => (go_expr_fine_L0.eq_2 x.1 x.2.1 n).trans (by kernel_rfl),
    fun x => (go_expr_fine_L1.eq_2 x.1 x.2.1 n).trans (by kernel_rfl),
    fun x => (go_expr_fine_L2.eq_2 x.1 x.2.1 n).trans (by kernel_rfl),
    fun x => (go_expr_fine_L3.eq_2 x.1 x.2.1 n).trans (by kernel_rfl),
    fun x => (go_expr_fine_L4.eq_2 x.1 n).trans (by kernel_rfl),
    trivial⟩)
  (fun x => .inl rfl)
theorem g_slices_ContainsFunc_api_Expr_api_Expr : (I_slices_ContainsFunc_api_Expr_api_Expr).Good Tryz.prog dat (tb t_expr_fine) := FI.of_good (hD := dat_ok _) Tryz.func70 Tryz.ntmps70 Tryz.call70 (by kernel_rfl) (of_decide_eq_true (by kernel_rfl)) (by kernel_rfl) (fun n => by kernel_rfl) (fun x => by kernel_rfl) (fun _ => rfl) trivial
  (fun n => fun x => (go_slices_ContainsFunc_api_Expr_api_Expr.eq_2 x.1 n).trans (by kernel_rfl))
  (fun n => trivial)
  (fun x => .inl rfl)
theorem g_slices_IndexFunc_api_Expr_api_Expr : (I_slices_IndexFunc_api_Expr_api_Expr).Good Tryz.prog dat (tb t_expr_fine) := FI.of_good (hD := dat_ok _) Tryz.func105 Tryz.ntmps105 Tryz.call105 (by kernel_rfl) (of_decide_eq_true (by kernel_rfl)) (by kernel_rfl) (fun n => by kernel_rfl) (fun x => by kernel_rfl) (fun _ => rfl) ⟨fun _ => rfl, trivial⟩
  (fun n => fun x => (go_slices_IndexFunc_api_Expr_api_Expr.eq_2 x.1 n).trans (by kernel_rfl))
  (fun n => ⟨fun x => (go_slices_IndexFunc_api_Expr_api_Expr_L0.eq_2 x.1 x.2.1 x.2.2.1 n).trans (by kernel_rfl),
    trivial⟩)
  (fun x => .inl rfl)
theorem g_expr_fine_1 : (I_expr_fine_1).Good Tryz.prog dat (tb t_expr_fine) := FI.of_good (hD := dat_ok _) Tryz.func71 Tryz.ntmps71 Tryz.call71 (by kernel_rfl) (of_decide_eq_true (by kernel_rfl)) (by kernel_rfl) (fun n => by kernel_rfl) (fun x => by kernel_rfl) (fun _ => rfl) trivial
  (fun n => fun x => (go_expr_fine_1.eq_2 x.1 n).trans (by kernel_rfl))
  (fun n => trivial)
  (fun x => .inl rfl)
theorem r_expr_fine : OkL Tryz.prog [I_expr_fine, I_slices_ContainsFunc_api_Expr_api_Expr, I_slices_IndexFunc_api_Expr_api_Expr, I_expr_fine_1] := ring_ok (dat_ok _) (bs := [I_expr_count, I_value_Check, I_expr_named, I_value_Same]) ⟨ok_expr_count, ok_value_Check, ok_expr_named, ok_value_Same, trivial⟩ ⟨g_expr_fine, g_slices_ContainsFunc_api_Expr_api_Expr, g_slices_IndexFunc_api_Expr_api_Expr, g_expr_fine_1, trivial⟩
theorem ok_expr_fine : FOk Tryz.prog I_expr_fine := r_expr_fine.1
end Go.Proofs.YtfhpamcehnfhoaaGreat

namespace Go.Proofs.YtfhpamcehnfhoaaGreat
open Go Go.Ab
set_option linter.unusedVariables false
set_option maxRecDepth 100000
mutual
def go_expr_Check : Nat → GExpr → Option Int
  | 0, _ => none
  | n + 1, a0 => 
    (go_expr_measure n a0.re).bind fun y0 =>
    pIf (decide (y0.1 > 100))
      (go_expr_Check_L0 n true a0.re)
      (go_expr_Check_L0 n (decide (y0.2 > 12)) a0.re)
def go_expr_Check_L0 : Nat → Bool → GExpr → Option Int
  | 0, _, _ => none
  | n + 1, a0, a1 => 
    pIf a0
      (some 4)
      ((go_expr_fine n a1.re).bind fun y1 =>
      pIf (!y1)
        (some 8)
        (some 0))
end
def k_expr_Check : LSh := ⟨[(2, (.d (.int .i64)))], [], 0, 19⟩
noncomputable def I_expr_Check : FI dat := FI.of dat 21 19 0 [(.d (.st 2))] [] [(.d (.int .i64))] [] true k_expr_Check (R := Int) (fun x => x.1) (fun r => (r, ())) (fun n x => go_expr_Check n x.1)
  (fun n => [(0, ⟨⟨[(1, (.ptr 0 0)), (15, (.d .bool))], [(.st 2)], 0, 19⟩, fun x => go_expr_Check_L0 n x.1 x.2.1⟩)]) (ann [(7, 0)] (Tryz.f21.body.getD .skip) 0).1
noncomputable def t_expr_Check : List (FI dat) := [I_expr_measure, I_expr_fine]
theorem g_expr_Check : (I_expr_Check).Good Tryz.prog dat (tb t_expr_Check) := FI.of_good (hD := dat_ok _) Tryz.func21 Tryz.ntmps21 Tryz.call21 (by kernel_rfl) (of_decide_eq_true (by kernel_rfl)) (by kernel_rfl) (fun n => by kernel_rfl) (fun x => by kernel_rfl) (fun _ => rfl) ⟨fun _ => rfl, trivial⟩
  (fun n => fun x => (go_expr_Check.eq_2 x.1 n).trans (by kernel_rfl))
  (fun n => ⟨fun x => (go_expr_Check_L0.eq_2 x.1 x.2.1 n).trans (by kernel_rfl),
    trivial⟩)
  (fun x => .inl rfl)
theorem r_expr_Check : OkL Tryz.prog [I_expr_Check] := one_ok (dat_ok _) (bs := [I_expr_measure, I_expr_fine]) ⟨ok_expr_measure, ok_expr_fine, trivial⟩ g_expr_Check
theorem ok_expr_Check : FOk Tryz.prog I_expr_Check := r_expr_Check.1
def go_expr_eval_1 : Nat → GBind → Int → Int → Int → Int → Bool → (List UInt8) → (List GValue) → (List UInt8) → (List GExpr) → Option (Bool × Int × Int × Int × Int × Bool × (List UInt8) × (List GValue) × (List UInt8) × (List GExpr))
  | 0, _, _, _, _, _, _, _, _, _, _ => none
  | n + 1, a0, a1, a2, a3, a4, a5, a6, a7, a8, a9 => 
    some ((a0.name == a8), a1, a2, a3, a4, a5, a6, a7, a8, a9)
def k_expr_eval_1 : LSh := ⟨[(3, (.d .bool))], [(.cells [(.d (.int .u8)), (.d (.int .u8)), (.d (.int .i64)), (.d (.int .i64)), (.d .bool), (.d .str), (.d (.sl (.st 1))), (.d .str), (.d (.sl (.st 2)))])], 1, 9⟩
noncomputable def I_expr_eval_1 : FI dat := FI.of dat 78 9 1 [(.d (.st 3)), (.ptr 0 0)] [(.cells [(.d (.int .u8)), (.d (.int .u8)), (.d (.int .i64)), (.d (.int .i64)), (.d .bool), (.d .str), (.d (.sl (.st 1))), (.d .str), (.d (.sl (.st 2)))])] [(.d .bool)] [(.cells [(.d (.int .u8)), (.d (.int .u8)), (.d (.int .i64)), (.d (.int .i64)), (.d .bool), (.d .str), (.d (.sl (.st 1))), (.d .str), (.d (.sl (.st 2)))])] false k_expr_eval_1 (R := Bool × Int × Int × Int × Int × Bool × (List UInt8) × (List GValue) × (List UInt8) × (List GExpr)) (fun x => (x.1, x.2.1, x.2.2.1, x.2.2.2.1, x.2.2.2.2.1, x.2.2.2.2.2.1, x.2.2.2.2.2.2.1, x.2.2.2.2.2.2.2.1, x.2.2.2.2.2.2.2.2.1, x.2.2.2.2.2.2.2.2.2.1)) (fun r => (r.1, r.2.1, r.2.2.1, r.2.2.2.1, r.2.2.2.2.1, r.2.2.2.2.2.1, r.2.2.2.2.2.2.1, r.2.2.2.2.2.2.2.1, r.2.2.2.2.2.2.2.2.1, r.2.2.2.2.2.2.2.2.2, ())) (fun n x => go_expr_eval_1 n x.1 x.2.1 x.2.2.1 x.2.2.2.1 x.2.2.2.2.1 x.2.2.2.2.2.1 x.2.2.2.2.2.2.1 x.2.2.2.2.2.2.2.1 x.2.2.2.2.2.2.2.2.1 x.2.2.2.2.2.2.2.2.2.1)
  (fun n => []) (ann [] (Tryz.f78.body.getD .skip) 0).1
noncomputable def t_expr_eval_1 : List (FI dat) := []
theorem g_expr_eval_1 : (I_expr_eval_1).Good Tryz.prog dat (tb t_expr_eval_1) := FI.of_good (hD := dat_ok _) Tryz.func78 Tryz.ntmps78 Tryz.call78 (by kernel_rfl) (of_decide_eq_true (by kernel_rfl)) (by kernel_rfl) (fun n => by kernel_rfl) (fun x => by kernel_rfl) (fun _ => rfl) trivial
  (fun n => fun x => (go_expr_eval_1.eq_2 x.1 x.2.1 x.2.2.1 x.2.2.2.1 x.2.2.2.2.1 x.2.2.2.2.2.1 x.2.2.2.2.2.2.1 x.2.2.2.2.2.2.2.1 x.2.2.2.2.2.2.2.2.1 x.2.2.2.2.2.2.2.2.2.1 n).trans (by kernel_rfl))
  (fun n => trivial)
  (fun x => .inr (by kernel_rfl))
theorem r_expr_eval_1 : OkL Tryz.prog [I_expr_eval_1] := one_ok (dat_ok _) (bs := []) trivial g_expr_eval_1
theorem ok_expr_eval_1 : FOk Tryz.prog I_expr_eval_1 := r_expr_eval_1.1
mutual
def go_slices_IndexFunc_api_Bind_api_Bind : Nat → (List GBind) → Int → Int → Int → Int → Bool → (List UInt8) → (List GValue) → (List UInt8) → (List GExpr) → Option (Int × Int × Int × Int × Int × Bool × (List UInt8) × (List GValue) × (List UInt8) × (List GExpr))
  | 0, _, _, _, _, _, _, _, _, _, _ => none
  | n + 1, a0, a1, a2, a3, a4, a5, a6, a7, a8, a9 => 
    go_slices_IndexFunc_api_Bind_api_Bind_L0 n 0 a0 (a0.length : Int) a1 a2 a3 a4 a5 a6 a7 a8 a9
def go_slices_IndexFunc_api_Bind_api_Bind_L0 : Nat → Int → (List GBind) → Int → Int → Int → Int → Int → Bool → (List UInt8) → (List GValue) → (List UInt8) → (List GExpr) → Option (Int × Int × Int × Int × Int × Bool × (List UInt8) × (List GValue) × (List UInt8) × (List GExpr))
  | 0, _, _, _, _, _, _, _, _, _, _, _, _ => none
  | n + 1, a0, a1, a2, a3, a4, a5, a6, a7, a8, a9, a10, a11 => 
    pIf (decide (a0 < a2))
      ((ix a1 a0).bind fun x0 =>
      (go_expr_eval_1 n x0.re a3 a4 a5 a6 a7 a8 a9 a10 a11).bind fun y1 =>
      pIf y1.1
        (some (a0, y1.2.1, y1.2.2.1, y1.2.2.2.1, y1.2.2.2.2.1, y1.2.2.2.2.2.1, y1.2.2.2.2.2.2.1, y1.2.2.2.2.2.2.2.1, y1.2.2.2.2.2.2.2.2.1, y1.2.2.2.2.2.2.2.2.2))
        (go_slices_IndexFunc_api_Bind_api_Bind_L0 n (IntKind.i64.wrap (a0 + 1)) a1 a2 y1.2.1 y1.2.2.1 y1.2.2.2.1 y1.2.2.2.2.1 y1.2.2.2.2.2.1 y1.2.2.2.2.2.2.1 y1.2.2.2.2.2.2.2.1 y1.2.2.2.2.2.2.2.2.1 y1.2.2.2.2.2.2.2.2.2))
      (some ((-1), a3, a4, a5, a6, a7, a8, a9, a10, a11))
end
def k_slices_IndexFunc_api_Bind_api_Bind : LSh := ⟨[(4, (.d (.int .i64)))], [(.cells [(.d (.int .u8)), (.d (.int .u8)), (.d (.int .i64)), (.d (.int .i64)), (.d .bool), (.d .str), (.d (.sl (.st 1))), (.d .str), (.d (.sl (.st 2)))])], 1, 19⟩
noncomputable def I_slices_IndexFunc_api_Bind_api_Bind : FI dat := FI.of dat 77 19 1 [(.d (.sl (.st 3))), (.fn 78 [] [(.ptr 0 0)])] [(.cells [(.d (.int .u8)), (.d (.int .u8)), (.d (.int .i64)), (.d (.int .i64)), (.d .bool), (.d .str), (.d (.sl (.st 1))), (.d .str), (.d (.sl (.st 2)))])] [(.d (.int .i64))] [(.cells [(.d (.int .u8)), (.d (.int .u8)), (.d (.int .i64)), (.d (.int .i64)), (.d .bool), (.d .str), (.d (.sl (.st 1))), (.d .str), (.d (.sl (.st 2)))])] false k_slices_IndexFunc_api_Bind_api_Bind (R := Int × Int × Int × Int × Int × Bool × (List UInt8) × (List GValue) × (List UInt8) × (List GExpr)) (fun x => (x.1, x.2.1, x.2.2.1, x.2.2.2.1, x.2.2.2.2.1, x.2.2.2.2.2.1, x.2.2.2.2.2.2.1, x.2.2.2.2.2.2.2.1, x.2.2.2.2.2.2.2.2.1, x.2.2.2.2.2.2.2.2.2.1)) (fun r => (r.1, r.2.1, r.2.2.1, r.2.2.2.1, r.2.2.2.2.1, r.2.2.2.2.2.1, r.2.2.2.2.2.2.1, r.2.2.2.2.2.2.2.1, r.2.2.2.2.2.2.2.2.1, r.2.2.2.2.2.2.2.2.2, ())) (fun n x => go_slices_IndexFunc_api_Bind_api_Bind n x.1 x.2.1 x.2.2.1 x.2.2.2.1 x.2.2.2.2.1 x.2.2.2.2.2.1 x.2.2.2.2.2.2.1 x.2.2.2.2.2.2.2.1 x.2.2.2.2.2.2.2.2.1 x.2.2.2.2.2.2.2.2.2.1)
  (fun n => [(0, ⟨⟨[(8, (.d (.int .i64))), (0, (.d (.sl (.st 3)))), (1, (.fn 78 [] [(.ptr 0 0)])), (7, (.d (.int .i64)))], [(.cells [(.d (.int .u8)), (.d (.int .u8)), (.d (.int .i64)), (.d (.int .i64)), (.d .bool), (.d .str), (.d (.sl (.st 1))), (.d .str), (.d (.sl (.st 2)))])], 1, 19⟩, fun x => go_slices_IndexFunc_api_Bind_api_Bind_L0 n x.1 x.2.1 x.2.2.1 x.2.2.2.1 x.2.2.2.2.1 x.2.2.2.2.2.1 x.2.2.2.2.2.2.1 x.2.2.2.2.2.2.2.1 x.2.2.2.2.2.2.2.2.1 x.2.2.2.2.2.2.2.2.2.1 x.2.2.2.2.2.2.2.2.2.2.1 x.2.2.2.2.2.2.2.2.2.2.2.1⟩)]) (ann [(6, 0)] (Tryz.f77.body.getD .skip) 0).1
noncomputable def t_slices_IndexFunc_api_Bind_api_Bind : List (FI dat) := [I_expr_eval_1]
theorem g_slices_IndexFunc_api_Bind_api_Bind : (I_slices_IndexFunc_api_Bind_api_Bind).Good Tryz.prog dat (tb t_slices_IndexFunc_api_Bind_api_Bind) := FI.of_good (hD := dat_ok _) Tryz.func77 Tryz.ntmps77 Tryz.call77 (by kernel_rfl) (of_decide_eq_true (by kernel_rfl)) (by kernel_rfl) (fun n => by kernel_rfl) (fun x => by kernel_rfl) (fun _ => rfl) ⟨fun _ => rfl, trivial⟩
  (fun n => fun x => (go_slices_IndexFunc_api_Bind_api_Bind.eq_2 x.1 x.2.1 x.2.2.1 x.2.2.2.1 x.2.2.2.2.1 x.2.2.2.2.2.1 x.2.2.2.2.2.2.1 x.2.2.2.2.2.2.2.1 x.2.2.2.2.2.2.2.2.1 x.2.2.2.2.2.2.2.2.2.1 n).trans (by kernel_rfl))
  (fun n => ⟨fun x => (go_slices_IndexFunc_api_Bind_api_Bind_L0.eq_2 x.1 x.2.1 x.2.2.1 x.2.2.2.1 x.2.2.2.2.1 x.2.2.2.2.2.1 x.2.2.2.2.2.2.1 x.2.2.2.2.2.2.2.1 x.2.2.2.2.2.2.2.2.1 x.2.2.2.2.2.2.2.2.2.1 x.2.2.2.2.2.2.2.2.2.2.1 x.2.2.2.2.2.2.2.2.2.2.2.1 n).trans (by kernel_rfl),
    trivial⟩)
  (fun x => .inr (by kernel_rfl))
theorem r_slices_IndexFunc_api_Bind_api_Bind : OkL Tryz.prog [I_slices_IndexFunc_api_Bind_api_Bind] := one_ok (dat_ok _) (bs := [I_expr_eval_1]) ⟨ok_expr_eval_1, trivial⟩ g_slices_IndexFunc_api_Bind_api_Bind
theorem ok_slices_IndexFunc_api_Bind_api_Bind : FOk Tryz.prog I_slices_IndexFunc_api_Bind_api_Bind := r_slices_IndexFunc_api_Bind_api_Bind.1
def go_expr_must : Nat → Int → Option (Res (Int × Unit) Unit)
  | 0, _ => none
  | n + 1, a0 => 
    pIf (a0 != 0)
      (some (Res.pan (a0, ())))
      (some (Res.ok ()))
def k_expr_must : LSh := ⟨[], [], 0, 6⟩
noncomputable def I_expr_must : FI dat := FI.ofP dat 79 6 0 [(.d (.int .i64))] [] [] [] (.iface 33 (.d (.int .i64))) [] [] k_expr_must (R := Unit) (fun x => ()) (fun _ => ()) (fun n x => go_expr_must n x.1)
  (fun n => []) (ann [] (Tryz.f79.body.getD .skip) 0).1
noncomputable def t_expr_must : List (FI dat) := []
theorem g_expr_must : (I_expr_must).Good Tryz.prog dat (tb t_expr_must) := FI.ofP_good (hD := dat_ok _) Tryz.func79 Tryz.ntmps79 Tryz.call79 (by kernel_rfl) (of_decide_eq_true (by kernel_rfl)) (by kernel_rfl) (fun n => by kernel_rfl) trivial (fun x => by kernel_rfl) (fun _ => rfl) trivial
  (fun n => fun x => (go_expr_must.eq_2 x.1 n).trans (by kernel_rfl))
  (fun n => trivial)
  (fun x => by kernel_rfl)
theorem r_expr_must : OkL Tryz.prog [I_expr_must] := one_ok (dat_ok _) (bs := []) trivial g_expr_must
theorem ok_expr_must : FOk Tryz.prog I_expr_must := r_expr_must.1
mutual
def go_expr_kind : Nat → Int → (List GValue) → Option (Res (Int × Unit) Unit)
  | 0, _, _ => none
  | n + 1, a0, a1 => 
    go_expr_kind_L0 n 0 a0 a1 (a1.length : Int)
def go_expr_kind_L0 : Nat → Int → Int → (List GValue) → Int → Option (Res (Int × Unit) Unit)
  | 0, _, _, _, _ => none
  | n + 1, a0, a1, a2, a3 => 
    pIf (decide (a0 < a3))
      ((ix a2 a0).bind fun x0 =>
      pIf (x0.kind != a1)
        ((go_expr_must n 20).bind fun y1 =>
        pRes y1 (fun r2 =>
          go_expr_kind_L1 n a1 a2 a3 a0)
          (fun e3 =>
          some (Res.pan (e3.1, ()))))
        (go_expr_kind_L1 n a1 a2 a3 a0))
      (some (Res.ok ()))
def go_expr_kind_L1 : Nat → Int → (List GValue) → Int → Int → Option (Res (Int × Unit) Unit)
  | 0, _, _, _, _ => none
  | n + 1, a0, a1, a2, a3 => 
    go_expr_kind_L0 n (IntKind.i64.wrap (a3 + 1)) a0 a1 a2
end
def k_expr_kind : LSh := ⟨[], [], 0, 18⟩
noncomputable def I_expr_kind : FI dat := FI.ofP dat 80 18 0 [(.d (.int .u8)), (.d (.sl (.st 1)))] [] [] [] (.iface 33 (.d (.int .i64))) [] [] k_expr_kind (R := Unit) (fun x => ()) (fun _ => ()) (fun n x => go_expr_kind n x.1 x.2.1)
  (fun n => [(0, ⟨⟨[(8, (.d (.int .i64))), (0, (.d (.int .u8))), (6, (.d (.sl (.st 1)))), (7, (.d (.int .i64)))], [], 0, 18⟩, fun x => go_expr_kind_L0 n x.1 x.2.1 x.2.2.1 x.2.2.2.1⟩), (1, ⟨⟨[(0, (.d (.int .u8))), (6, (.d (.sl (.st 1)))), (7, (.d (.int .i64))), (8, (.d (.int .i64)))], [], 0, 18⟩, fun x => go_expr_kind_L1 n x.1 x.2.1 x.2.2.1 x.2.2.2.1⟩)]) (ann [(3, 0), (19, 1)] (Tryz.f80.body.getD .skip) 0).1
noncomputable def t_expr_kind : List (FI dat) := [I_expr_must]
theorem g_expr_kind : (I_expr_kind).Good Tryz.prog dat (tb t_expr_kind) := FI.ofP_good (hD := dat_ok _) Tryz.func80 Tryz.ntmps80 Tryz.call80 (by kernel_rfl) (of_decide_eq_true (by kernel_rfl)) (by kernel_rfl) (fun n => by kernel_rfl) trivial (fun x => by kernel_rfl) (fun _ => rfl) ⟨fun _ => rfl, fun _ => rfl, trivial⟩
  (fun n => fun x => (go_expr_kind.eq_2 x.1 x.2.1 n).trans (by kernel_rfl))
  (fun n => ⟨fun x => (go_expr_kind_L0.eq_2 x.1 x.2.1 x.2.2.1 x.2.2.2.1 n).trans (by kernel_rfl),
    fun x => (go_expr_kind_L1.eq_2 x.1 x.2.1 x.2.2.1 x.2.2.2.1 n).trans (by kernel_rfl),
    trivial⟩)
  (fun x => by kernel_rfl)
theorem r_expr_kind : OkL Tryz.prog [I_expr_kind] := one_ok (dat_ok _) (bs := [I_expr_must]) ⟨ok_expr_must, trivial⟩ g_expr_kind
theorem ok_expr_kind : FOk Tryz.prog I_expr_kind := r_expr_kind.1
def go_value_both : Nat → GValue → GValue → Option Int
  | 0, _, _ => none
  | n + 1, a0, a1 => 
    (go_value_Check n a0.re).bind fun y0 =>
    pIf (y0 != 0)
      (some y0)
      ((go_value_Check n a1.re).bind fun y1 =>
      some y1)
def k_value_both : LSh := ⟨[(4, (.d (.int .i64)))], [], 0, 13⟩
noncomputable def I_value_both : FI dat := FI.of dat 133 13 0 [(.d (.st 1)), (.d (.st 1))] [] [(.d (.int .i64))] [] true k_value_both (R := Int) (fun x => x.1) (fun r => (r, ())) (fun n x => go_value_both n x.1 x.2.1)
  (fun n => []) (ann [] (Tryz.f133.body.getD .skip) 0).1
noncomputable def t_value_both : List (FI dat) := [I_value_Check]
theorem g_value_both : (I_value_both).Good Tryz.prog dat (tb t_value_both) := FI.of_good (hD := dat_ok _) Tryz.func133 Tryz.ntmps133 Tryz.call133 (by kernel_rfl) (of_decide_eq_true (by kernel_rfl)) (by kernel_rfl) (fun n => by kernel_rfl) (fun x => by kernel_rfl) (fun _ => rfl) trivial
  (fun n => fun x => (go_value_both.eq_2 x.1 x.2.1 n).trans (by kernel_rfl))
  (fun n => trivial)
  (fun x => .inl rfl)
theorem r_value_both : OkL Tryz.prog [I_value_both] := one_ok (dat_ok _) (bs := [I_value_Check]) ⟨ok_value_Check, trivial⟩ g_value_both
theorem ok_value_both : FOk Tryz.prog I_value_both := r_value_both.1
mutual
def go_cmp_Or_api_Errno : Nat → (List Int) → Option Int
  | 0, _ => none
  | n + 1, a0 => 
    go_cmp_Or_api_Errno_L0 n 0 0 a0 (a0.length : Int)
def go_cmp_Or_api_Errno_L0 : Nat → Int → Int → (List Int) → Int → Option Int
  | 0, _, _, _, _ => none
  | n + 1, a0, a1, a2, a3 => 
    pIf (decide (a0 < a3))
      ((ix a2 a0).bind fun x0 =>
      pIf (x0 != a1)
        (some x0)
        (go_cmp_Or_api_Errno_L0 n (IntKind.i64.wrap (a0 + 1)) a1 a2 a3))
      (some a1)
end
def k_cmp_Or_api_Errno : LSh := ⟨[(2, (.d (.int .i64)))], [], 0, 18⟩
noncomputable def I_cmp_Or_api_Errno : FI dat := FI.of dat 149 18 0 [(.d (.sl (.int .i64)))] [] [(.d (.int .i64))] [] true k_cmp_Or_api_Errno (R := Int) (fun x => x.1) (fun r => (r, ())) (fun n x => go_cmp_Or_api_Errno n x.1)
  (fun n => [(0, ⟨⟨[(8, (.d (.int .i64))), (3, (.d (.int .i64))), (6, (.d (.sl (.int .i64)))), (7, (.d (.int .i64)))], [], 0, 18⟩, fun x => go_cmp_Or_api_Errno_L0 n x.1 x.2.1 x.2.2.1 x.2.2.2.1⟩)]) (ann [(8, 0)] (Tryz.f149.body.getD .skip) 0).1
noncomputable def t_cmp_Or_api_Errno : List (FI dat) := []
theorem g_cmp_Or_api_Errno : (I_cmp_Or_api_Errno).Good Tryz.prog dat (tb t_cmp_Or_api_Errno) := FI.of_good (hD := dat_ok _) Tryz.func149 Tryz.ntmps149 Tryz.call149 (by kernel_rfl) (of_decide_eq_true (by kernel_rfl)) (by kernel_rfl) (fun n => by kernel_rfl) (fun x => by kernel_rfl) (fun _ => rfl) ⟨fun _ => rfl, trivial⟩
  (fun n => fun x => (go_cmp_Or_api_Errno.eq_2 x.1 n).trans (by kernel_rfl))
  (fun n => ⟨fun x => (go_cmp_Or_api_Errno_L0.eq_2 x.1 x.2.1 x.2.2.1 x.2.2.2.1 n).trans (by kernel_rfl),
    trivial⟩)
  (fun x => .inl rfl)
theorem r_cmp_Or_api_Errno : OkL Tryz.prog [I_cmp_Or_api_Errno] := one_ok (dat_ok _) (bs := []) trivial g_cmp_Or_api_Errno
theorem ok_cmp_Or_api_Errno : FOk Tryz.prog I_cmp_Or_api_Errno := r_cmp_Or_api_Errno.1
end Go.Proofs.YtfhpamcehnfhoaaGreat

namespace Go.Proofs.YtfhpamcehnfhoaaGreat
open Go Go.Ab
set_option linter.unusedVariables false
set_option maxRecDepth 100000
def go_ratio_with : Nat → GRatio → GRatio → Option GCalc
  | 0, _, _ => none
  | n + 1, a0, a1 => 
    (go_ratio_Check n a0).bind fun y0 =>
    (go_ratio_Check n a1).bind fun y1 =>
    (go_cmp_Or_api_Errno n [y0, y1]).bind fun y2 =>
    some (GCalc.mk a0 a1 (GRatio.mk 0 0) y2)
def k_ratio_with : LSh := ⟨[(4, (.ptr 0 0))], [(.st 4)], 0, 14⟩
noncomputable def I_ratio_with : FI dat := FI.of dat 144 14 0 [(.d (.st 0)), (.d (.st 0))] [] [(.d (.st 4))] [] true k_ratio_with (R := GCalc) (fun x => x.1) (fun r => (r, ())) (fun n x => go_ratio_with n x.1 x.2.1)
  (fun n => []) (ann [] (Tryz.f144.body.getD .skip) 0).1
noncomputable def t_ratio_with : List (FI dat) := [I_ratio_Check, I_cmp_Or_api_Errno]
theorem g_ratio_with : (I_ratio_with).Good Tryz.prog dat (tb t_ratio_with) := FI.of_good (hD := dat_ok _) Tryz.func144 Tryz.ntmps144 Tryz.call144 (by kernel_rfl) (of_decide_eq_true (by kernel_rfl)) (by kernel_rfl) (fun n => by kernel_rfl) (fun x => by kernel_rfl) (fun _ => rfl) trivial
  (fun n => fun x => (go_ratio_with.eq_2 x.1 x.2.1 n).trans (by kernel_rfl))
  (fun n => trivial)
  (fun x => .inl rfl)
theorem r_ratio_with : OkL Tryz.prog [I_ratio_with] := one_ok (dat_ok _) (bs := [I_ratio_Check, I_cmp_Or_api_Errno]) ⟨ok_ratio_Check, ok_cmp_Or_api_Errno, trivial⟩ g_ratio_with
theorem ok_ratio_with : FOk Tryz.prog I_ratio_with := r_ratio_with.1
def go_ratio_Add_1 : Nat → GRatio → GRatio → Option (Int × Int)
  | 0, _, _ => none
  | n + 1, a0, a1 => 
    some ((IntKind.i64.wrap ((IntKind.i64.wrap (a0.num * a1.den)) + (IntKind.i64.wrap (a1.num * a0.den)))), (IntKind.i64.wrap (a0.den * a1.den)))
def k_ratio_Add_1 : LSh := ⟨[(4, (.d (.int .i64))), (5, (.d (.int .i64)))], [], 0, 22⟩
noncomputable def I_ratio_Add_1 : FI dat := FI.of dat 143 22 0 [(.d (.st 0)), (.d (.st 0))] [] [(.d (.int .i64)), (.d (.int .i64))] [] true k_ratio_Add_1 (R := Int × Int) (fun x => (x.1, x.2.1)) (fun r => (r.1, r.2, ())) (fun n x => go_ratio_Add_1 n x.1 x.2.1)
  (fun n => []) (ann [] (Tryz.f143.body.getD .skip) 0).1
noncomputable def t_ratio_Add_1 : List (FI dat) := []
theorem g_ratio_Add_1 : (I_ratio_Add_1).Good Tryz.prog dat (tb t_ratio_Add_1) := FI.of_good (hD := dat_ok _) Tryz.func143 Tryz.ntmps143 Tryz.call143 (by kernel_rfl) (of_decide_eq_true (by kernel_rfl)) (by kernel_rfl) (fun n => by kernel_rfl) (fun x => by kernel_rfl) (fun _ => rfl) trivial
  (fun n => fun x => (go_ratio_Add_1.eq_2 x.1 x.2.1 n).trans (by kernel_rfl))
  (fun n => trivial)
  (fun x => .inl rfl)
theorem r_ratio_Add_1 : OkL Tryz.prog [I_ratio_Add_1] := one_ok (dat_ok _) (bs := []) trivial g_ratio_Add_1
theorem ok_ratio_Add_1 : FOk Tryz.prog I_ratio_Add_1 := r_ratio_Add_1.1
mutual
def go_ratio_Make : Nat → Int → Int → Option (Int × GRatio)
  | 0, _, _ => none
  | n + 1, a0, a1 => 
    pIf (a1 == 0)
      (some (18, (GRatio.mk 0 0)))
      ((go_ratio_size n a0).bind fun y0 =>
      (go_ratio_size n a1).bind fun y1 =>
      (go_ratio_gcd n y0 y1).bind fun y2 =>
      (quo .u64 y0 y2).bind fun x3 =>
      (quo .u64 y1 y2).bind fun x4 =>
      pIf (decide (x3 > 1000000000))
        (go_ratio_Make_L0 n a1 a0 x4 x3 true (GRatio.mk 0 0))
        (go_ratio_Make_L0 n a1 a0 x4 x3 (decide (x4 > 1000000000)) (GRatio.mk 0 0)))
def go_ratio_Make_L0 : Nat → Int → Int → Int → Int → Bool → GRatio → Option (Int × GRatio)
  | 0, _, _, _, _, _, _ => none
  | n + 1, a0, a1, a2, a3, a4, a5 => 
    pIf a4
      (some (16, (GRatio.mk 0 0)))
      (pIf (!((decide (a1 < 0)) == (decide (a0 < 0))))
        (go_ratio_Make_L1 n a5 (GRatio.mk (IntKind.i64.wrap (0 - (IntKind.i64.wrap a3))) (IntKind.i64.wrap a2)))
        (go_ratio_Make_L1 n a5 (GRatio.mk (IntKind.i64.wrap a3) (IntKind.i64.wrap a2))))
def go_ratio_Make_L1 : Nat → GRatio → GRatio → Option (Int × GRatio)
  | 0, _, _ => none
  | n + 1, a0, a1 => 
    some (0, a1)
end
def k_ratio_Make : LSh := ⟨[(4, (.ptr 0 0)), (5, (.d (.int .i64)))], [(.st 0)], 0, 48⟩
noncomputable def I_ratio_Make : FI dat := FI.of dat 117 48 0 [(.d (.int .i64)), (.d (.int .i64))] [] [(.d (.st 0)), (.d (.int .i64))] [] true k_ratio_Make (R := Int × GRatio) (fun x => (x.1, x.2.1)) (fun r => (r.2, r.1, ())) (fun n x => go_ratio_Make n x.1 x.2.1)
  (fun n => [(0, ⟨⟨[(4, (.ptr 0 0)), (1, (.d (.int .i64))), (0, (.d (.int .i64))), (7, (.d (.int .u64))), (6, (.d (.int .u64))), (31, (.d .bool))], [(.st 0)], 0, 48⟩, fun x => go_ratio_Make_L0 n x.1 x.2.1 x.2.2.1 x.2.2.2.1 x.2.2.2.2.1 x.2.2.2.2.2.1⟩), (1, ⟨⟨[(4, (.ptr 0 0)), (9, (.ptr 1 0))], [(.st 0), (.st 0)], 0, 48⟩, fun x => go_ratio_Make_L1 n x.1 x.2.1⟩)]) (ann [(19, 0), (32, 1)] (Tryz.f117.body.getD .skip) 0).1
noncomputable def t_ratio_Make : List (FI dat) := [I_ratio_size, I_ratio_gcd]
theorem g_ratio_Make : (I_ratio_Make).Good Tryz.prog dat (tb t_ratio_Make) := FI.of_good (hD := dat_ok _) Tryz.func117 Tryz.ntmps117 Tryz.call117 (by kernel_rfl) (of_decide_eq_true (by kernel_rfl)) (by kernel_rfl) (fun n => by kernel_rfl) (fun x => by kernel_rfl) (fun _ => rfl) ⟨fun _ => rfl, fun _ => rfl, trivial⟩
  (fun n => fun x => (go_ratio_Make.eq_2 x.1 x.2.1 n).trans (by kernel_rfl))
  (fun n => ⟨fun x => (go_ratio_Make_L0.eq_2 x.1 x.2.1 x.2.2.1 x.2.2.2.1 x.2.2.2.2.1 x.2.2.2.2.2.1 n).trans (by kernel_rfl),
    fun x => (go_ratio_Make_L1.eq_2 x.1 x.2.1 n).trans (by kernel_rfl),
    trivial⟩)
  (fun x => .inl rfl)
theorem r_ratio_Make : OkL Tryz.prog [I_ratio_Make] := one_ok (dat_ok _) (bs := [I_ratio_size, I_ratio_gcd]) ⟨ok_ratio_size, ok_ratio_gcd, trivial⟩ g_ratio_Make
theorem ok_ratio_Make : FOk Tryz.prog I_ratio_Make := r_ratio_Make.1
def go_ratio_calc_set : Nat → Int → Int → GCalc → Option GCalc
  | 0, _, _, _ => none
  | n + 1, a0, a1, a2 => 
    pIf (a2.e == 0)
      ((go_ratio_Make n a0 a1).bind fun y0 =>
      some (GCalc.mk a2.a a2.b y0.2 y0.1))
      (some a2)
def k_ratio_calc_set : LSh := ⟨[], [(.st 4)], 1, 23⟩
noncomputable def I_ratio_calc_set : FI dat := FI.of dat 146 23 1 [(.ptr 0 0), (.d (.int .i64)), (.d (.int .i64))] [(.st 4)] [] [(.st 4)] false k_ratio_calc_set (R := GCalc) (fun x => x.1) (fun r => (r, ())) (fun n x => go_ratio_calc_set n x.1 x.2.1 x.2.2.1)
  (fun n => []) (ann [] (Tryz.f146.body.getD .skip) 0).1
noncomputable def t_ratio_calc_set : List (FI dat) := [I_ratio_Make]
theorem g_ratio_calc_set : (I_ratio_calc_set).Good Tryz.prog dat (tb t_ratio_calc_set) := FI.of_good (hD := dat_ok _) Tryz.func146 Tryz.ntmps146 Tryz.call146 (by kernel_rfl) (of_decide_eq_true (by kernel_rfl)) (by kernel_rfl) (fun n => by kernel_rfl) (fun x => by kernel_rfl) (fun _ => rfl) trivial
  (fun n => fun x => (go_ratio_calc_set.eq_2 x.1 x.2.1 x.2.2.1 n).trans (by kernel_rfl))
  (fun n => trivial)
  (fun x => .inr (by kernel_rfl))
theorem r_ratio_calc_set : OkL Tryz.prog [I_ratio_calc_set] := one_ok (dat_ok _) (bs := [I_ratio_Make]) ⟨ok_ratio_Make, trivial⟩ g_ratio_calc_set
theorem ok_ratio_calc_set : FOk Tryz.prog I_ratio_calc_set := r_ratio_calc_set.1
def go_ratio_run_1 : Nat → Int → Int → Int → Int → Int → Int → Int → Int → Int → Int → Option (Int × Int × Int × Int × Int × Int × Int × Int × Int × Int)
  | 0, _, _, _, _, _, _, _, _, _, _ => none
  | n + 1, a0, a1, a2, a3, a4, a5, a6, a7, a8, a9 => 
    some (a0, a1, a2, a3, a4, a5, a6, a4, a5, a6)
def k_ratio_run_1 : LSh := ⟨[], [(.cells [(.d (.int .i64)), (.d (.int .i64)), (.d (.int .i64)), (.d (.int .i64)), (.d (.int .i64)), (.d (.int .i64)), (.d (.int .i64))]), (.cells [(.d (.int .i64)), (.d (.int .i64))]), (.cells [(.d (.int .i64))])], 3, 7⟩
noncomputable def I_ratio_run_1 : FI dat := FI.of dat 145 7 3 [(.ptr 0 0), (.ptr 1 0), (.ptr 2 0)] [(.cells [(.d (.int .i64)), (.d (.int .i64)), (.d (.int .i64)), (.d (.int .i64)), (.d (.int .i64)), (.d (.int .i64)), (.d (.int .i64))]), (.cells [(.d (.int .i64)), (.d (.int .i64))]), (.cells [(.d (.int .i64))])] [] [(.cells [(.d (.int .i64)), (.d (.int .i64)), (.d (.int .i64)), (.d (.int .i64)), (.d (.int .i64)), (.d (.int .i64)), (.d (.int .i64))]), (.cells [(.d (.int .i64)), (.d (.int .i64))]), (.cells [(.d (.int .i64))])] false k_ratio_run_1 (R := Int × Int × Int × Int × Int × Int × Int × Int × Int × Int) (fun x => (x.1, x.2.1, x.2.2.1, x.2.2.2.1, x.2.2.2.2.1, x.2.2.2.2.2.1, x.2.2.2.2.2.2.1, x.2.2.2.2.2.2.2.1, x.2.2.2.2.2.2.2.2.1, x.2.2.2.2.2.2.2.2.2.1)) (fun r => (r.1, r.2.1, r.2.2.1, r.2.2.2.1, r.2.2.2.2.1, r.2.2.2.2.2.1, r.2.2.2.2.2.2.1, r.2.2.2.2.2.2.2.1, r.2.2.2.2.2.2.2.2.1, r.2.2.2.2.2.2.2.2.2, ())) (fun n x => go_ratio_run_1 n x.1 x.2.1 x.2.2.1 x.2.2.2.1 x.2.2.2.2.1 x.2.2.2.2.2.1 x.2.2.2.2.2.2.1 x.2.2.2.2.2.2.2.1 x.2.2.2.2.2.2.2.2.1 x.2.2.2.2.2.2.2.2.2.1)
  (fun n => []) (ann [] (Tryz.f145.body.getD .skip) 0).1
noncomputable def t_ratio_run_1 : List (FI dat) := []
theorem g_ratio_run_1 : (I_ratio_run_1).Good Tryz.prog dat (tb t_ratio_run_1) := FI.of_good (hD := dat_ok _) Tryz.func145 Tryz.ntmps145 Tryz.call145 (by kernel_rfl) (of_decide_eq_true (by kernel_rfl)) (by kernel_rfl) (fun n => by kernel_rfl) (fun x => by kernel_rfl) (fun _ => rfl) trivial
  (fun n => fun x => (go_ratio_run_1.eq_2 x.1 x.2.1 x.2.2.1 x.2.2.2.1 x.2.2.2.2.1 x.2.2.2.2.2.1 x.2.2.2.2.2.2.1 x.2.2.2.2.2.2.2.1 x.2.2.2.2.2.2.2.2.1 x.2.2.2.2.2.2.2.2.2.1 n).trans (by kernel_rfl))
  (fun n => trivial)
  (fun x => .inr (by kernel_rfl))
noncomputable def d_ratio_run_1 : DEnt dat := { f := 145, args := [(.ptr 0 0), (.ptr 1 0), (.ptr 2 0)], aos := [(.cells [(.d (.int .i64)), (.d (.int .i64)), (.d (.int .i64)), (.d (.int .i64)), (.d (.int .i64)), (.d (.int .i64)), (.d (.int .i64))]), (.cells [(.d (.int .i64)), (.d (.int .i64))]), (.cells [(.d (.int .i64))])], m := none, ros := [(.cells [(.d (.int .i64)), (.d (.int .i64)), (.d (.int .i64)), (.d (.int .i64)), (.d (.int .i64)), (.d (.int .i64)), (.d (.int .i64))]), (.cells [(.d (.int .i64)), (.d (.int .i64))]), (.cells [(.d (.int .i64))])], go := fun x _ => (go_ratio_run_1 9 x.1 x.2.1 x.2.2.1 x.2.2.2.1 x.2.2.2.2.1 x.2.2.2.2.2.1 x.2.2.2.2.2.2.1 x.2.2.2.2.2.2.2.1 x.2.2.2.2.2.2.2.2.1 x.2.2.2.2.2.2.2.2.2.1).bind fun r => some (r.1, r.2.1, r.2.2.1, r.2.2.2.1, r.2.2.2.2.1, r.2.2.2.2.2.1, r.2.2.2.2.2.2.1, r.2.2.2.2.2.2.2.1, r.2.2.2.2.2.2.2.2.1, r.2.2.2.2.2.2.2.2.2, ()) }
theorem dok_ratio_run_1 : (d_ratio_run_1).Ok Tryz.prog := dent_flat (args := [(.ptr 0 0), (.ptr 1 0), (.ptr 2 0)]) (aos := [(.cells [(.d (.int .i64)), (.d (.int .i64)), (.d (.int .i64)), (.d (.int .i64)), (.d (.int .i64)), (.d (.int .i64)), (.d (.int .i64))]), (.cells [(.d (.int .i64)), (.d (.int .i64))]), (.cells [(.d (.int .i64))])]) (ros := [(.cells [(.d (.int .i64)), (.d (.int .i64)), (.d (.int .i64)), (.d (.int .i64)), (.d (.int .i64)), (.d (.int .i64)), (.d (.int .i64))]), (.cells [(.d (.int .i64)), (.d (.int .i64))]), (.cells [(.d (.int .i64))])]) (l := k_ratio_run_1) (pack := fun x => (x.1, x.2.1, x.2.2.1, x.2.2.2.1, x.2.2.2.2.1, x.2.2.2.2.2.1, x.2.2.2.2.2.2.1, x.2.2.2.2.2.2.2.1, x.2.2.2.2.2.2.2.2.1, x.2.2.2.2.2.2.2.2.2.1)) (un := fun r => (r.1, r.2.1, r.2.2.1, r.2.2.2.1, r.2.2.2.2.1, r.2.2.2.2.2.1, r.2.2.2.2.2.2.1, r.2.2.2.2.2.2.2.1, r.2.2.2.2.2.2.2.2.1, r.2.2.2.2.2.2.2.2.2, ())) (go := fun x => go_ratio_run_1 9 x.1 x.2.1 x.2.2.1 x.2.2.2.1 x.2.2.2.2.1 x.2.2.2.2.2.1 x.2.2.2.2.2.2.1 x.2.2.2.2.2.2.2.1 x.2.2.2.2.2.2.2.2.1 x.2.2.2.2.2.2.2.2.2.1) (dat_ok _) Tryz.func145 (by kernel_rfl) Tryz.ntmps145 Tryz.call145 (Nat.le_of_ble_eq_true (by kernel_rfl)) (Nat.le_of_ble_eq_true (by kernel_rfl)) (Nat.le_of_ble_eq_true (by kernel_rfl)) (by kernel_rfl) (by kernel_rfl) (fun x => by kernel_rfl) (runs_of (dat_ok _) g_ratio_run_1 trivial 9)
def go_ratio_run_s4 : Nat → GRatio → GRatio → Option (GRatio × Int)
  | 0, _, _ => none
  | n + 1, a0, a1 => 
    (go_ratio_with n a0 a1).bind fun y0 =>
    pIf (y0.e == 0)
      ((go_ratio_Add_1 n y0.a y0.b).bind fun y1 =>
      (go_ratio_calc_set n y1.1 y1.2 y0).bind fun y2 =>
      (((go_ratio_run_1 9 y2.a.num y2.a.den y2.b.num y2.b.den y2.out.num y2.out.den y2.e 0 0 0).bind fun r4 => some (r4.1, r4.2.1, r4.2.2.1, r4.2.2.2.1, r4.2.2.2.2.1, r4.2.2.2.2.2.1, r4.2.2.2.2.2.2.1, r4.2.2.2.2.2.2.2.1, r4.2.2.2.2.2.2.2.2.1, r4.2.2.2.2.2.2.2.2.2, ()))).bind fun y3 =>
      some ((GRatio.mk y3.2.2.2.2.2.2.2.1 y3.2.2.2.2.2.2.2.2.1), y3.2.2.2.2.2.2.2.2.2.1))
      ((((go_ratio_run_1 9 y0.a.num y0.a.den y0.b.num y0.b.den y0.out.num y0.out.den y0.e 0 0 0).bind fun r6 => some (r6.1, r6.2.1, r6.2.2.1, r6.2.2.2.1, r6.2.2.2.2.1, r6.2.2.2.2.2.1, r6.2.2.2.2.2.2.1, r6.2.2.2.2.2.2.2.1, r6.2.2.2.2.2.2.2.2.1, r6.2.2.2.2.2.2.2.2.2, ()))).bind fun y5 =>
      some ((GRatio.mk y5.2.2.2.2.2.2.2.1 y5.2.2.2.2.2.2.2.2.1), y5.2.2.2.2.2.2.2.2.2.1))
def k_ratio_run_s4 : LSh := ⟨[(6, (.ptr 0 0)), (7, (.ptr 1 0))], [(.st 0), (.cells [(.d (.int .i64))])], 0, 27⟩
noncomputable def I_ratio_run_s4 : FI dat := FI.ofD dat 135 27 0 [(.d (.st 0)), (.d (.st 0)), (.fn 143 [] [])] [] [(.d (.st 0)), (.d (.int .i64))] [(.st 0), (.cells [(.d (.int .i64))])] [d_ratio_run_1] k_ratio_run_s4 (R := GRatio × Int) (fun x => (x.1, x.2.1)) (fun r => (r.1, r.2, r.1, r.2, ())) (fun n x => go_ratio_run_s4 n x.1 x.2.1)
  (fun n => []) (ann [] (Tryz.f135.body.getD .skip) 0).1
noncomputable def t_ratio_run_s4 : List (FI dat) := [I_ratio_with, I_ratio_Add_1, I_ratio_calc_set]
theorem g_ratio_run_s4 : (I_ratio_run_s4).Good Tryz.prog dat (tb t_ratio_run_s4) := FI.ofD_good (hD := dat_ok _) Tryz.func135 Tryz.ntmps135 Tryz.call135 (by kernel_rfl) (of_decide_eq_true (by kernel_rfl)) (by kernel_rfl) (fun n => by kernel_rfl) ⟨dok_ratio_run_1, trivial⟩ (fun x => by kernel_rfl) (fun _ => rfl) trivial
  (fun n => fun x => (go_ratio_run_s4.eq_2 x.1 x.2.1 n).trans (by kernel_rfl))
  (fun n => trivial)
  (fun x => by kernel_rfl)
theorem r_ratio_run_s4 : OkL Tryz.prog [I_ratio_run_s4] := one_ok (dat_ok _) (bs := [I_ratio_with, I_ratio_Add_1, I_ratio_calc_set]) ⟨ok_ratio_with, ok_ratio_Add_1, ok_ratio_calc_set, trivial⟩ g_ratio_run_s4
theorem ok_ratio_run_s4 : FOk Tryz.prog I_ratio_run_s4 := r_ratio_run_s4.1
def go_ratio_Add : Nat → GRatio → GRatio → Option (Int × GRatio)
  | 0, _, _ => none
  | n + 1, a0, a1 => 
    (go_ratio_run_s4 n a0 a1).bind fun y0 =>
    some (y0.2, y0.1)
def k_ratio_Add : LSh := ⟨[(4, (.ptr 0 0)), (5, (.d (.int .i64)))], [(.st 0)], 0, 11⟩
noncomputable def I_ratio_Add : FI dat := FI.of dat 134 11 0 [(.d (.st 0)), (.d (.st 0))] [] [(.d (.st 0)), (.d (.int .i64))] [] true k_ratio_Add (R := Int × GRatio) (fun x => (x.1, x.2.1)) (fun r => (r.2, r.1, ())) (fun n x => go_ratio_Add n x.1 x.2.1)
  (fun n => []) (ann [] (Tryz.f134.body.getD .skip) 0).1
noncomputable def t_ratio_Add : List (FI dat) := [I_ratio_run_s4]
theorem g_ratio_Add : (I_ratio_Add).Good Tryz.prog dat (tb t_ratio_Add) := FI.of_good (hD := dat_ok _) Tryz.func134 Tryz.ntmps134 Tryz.call134 (by kernel_rfl) (of_decide_eq_true (by kernel_rfl)) (by kernel_rfl) (fun n => by kernel_rfl) (fun x => by kernel_rfl) (fun _ => rfl) trivial
  (fun n => fun x => (go_ratio_Add.eq_2 x.1 x.2.1 n).trans (by kernel_rfl))
  (fun n => trivial)
  (fun x => .inl rfl)
theorem r_ratio_Add : OkL Tryz.prog [I_ratio_Add] := one_ok (dat_ok _) (bs := [I_ratio_run_s4]) ⟨ok_ratio_run_s4, trivial⟩ g_ratio_Add
theorem ok_ratio_Add : FOk Tryz.prog I_ratio_Add := r_ratio_Add.1
end Go.Proofs.YtfhpamcehnfhoaaGreat

namespace Go.Proofs.YtfhpamcehnfhoaaGreat
open Go Go.Ab
set_option linter.unusedVariables false
set_option maxRecDepth 100000
mutual
def go_value_Twin_1 : Nat → GValue → Option GValue
  | 0, _ => none
  | n + 1, a0 => 
    go_value_Twin_1_L0 n 0 a0.list (a0.list.length : Int) [] 0 0 0 false [] a0.re []
def go_value_Twin_1_L0 : Nat → Int → (List GValue) → Int → (List GValue) → Int → Int → Int → Bool → (List UInt8) → GValue → (List GValue) → Option GValue
  | 0, _, _, _, _, _, _, _, _, _, _, _ => none
  | n + 1, a0, a1, a2, a3, a4, a5, a6, a7, a8, a9, a10 => 
    pIf (decide (a0 < a2))
      ((ix a1 a0).bind fun x0 =>
      (go_value_Twin_1 n x0.re).bind fun y1 =>
      (ext a3 [y1.re]).bind fun x2 =>
      go_value_Twin_1_L0 n (IntKind.i64.wrap (a0 + 1)) a1 a2 x2 a4 a5 a6 a7 a8 a9.re a10)
      (some (GValue.mk a9.kind a9.num a9.truth a9.str a3))
end
def k_value_Twin_1 : LSh := ⟨[(3, (.ptr 1 0))], [(.cells [(.fn 60 [] [(.ptr 0 0)])]), (.st 1)], 1, 24⟩
noncomputable def I_value_Twin_1 : FI dat := FI.of dat 60 24 1 [(.d (.st 1)), (.ptr 0 0)] [(.cells [(.fn 60 [] [(.ptr 0 0)])])] [(.d (.st 1))] [(.cells [(.fn 60 [] [(.ptr 0 0)])]), (.st 1)] false k_value_Twin_1 (R := GValue) (fun x => x.1) (fun r => (r, r, ())) (fun n x => go_value_Twin_1 n x.1)
  (fun n => [(0, ⟨⟨[(10, (.d (.int .i64))), (1, (.ptr 0 0)), (4, (.own 1)), (8, (.d (.sl (.st 1)))), (3, (.ptr 2 0)), (2, (.ptr 3 0)), (9, (.d (.int .i64)))], [(.cells [(.fn 60 [] [(.ptr 0 0)])]), (.acc 26 (.st 1) true), (.cells [(.d (.int .u8)), (.d (.int .i64)), (.d (.int .i64)), (.d .bool), (.d .str), (.own 4)]), (.st 1), (.acc 26 (.st 1) true)], 1, 24⟩, fun x => go_value_Twin_1_L0 n x.1 x.2.1 x.2.2.1 x.2.2.2.1 x.2.2.2.2.1 x.2.2.2.2.2.1 x.2.2.2.2.2.2.1 x.2.2.2.2.2.2.2.1 x.2.2.2.2.2.2.2.2.1 x.2.2.2.2.2.2.2.2.2.1 x.2.2.2.2.2.2.2.2.2.2.1⟩)]) (ann [(8, 0)] (Tryz.f60.body.getD .skip) 0).1
noncomputable def t_value_Twin_1 : List (FI dat) := [I_value_Twin_1] ++ []
theorem g_value_Twin_1 : (I_value_Twin_1).Good Tryz.prog dat (tb t_value_Twin_1) := FI.of_good (hD := dat_ok _) Tryz.func60 Tryz.ntmps60 Tryz.call60 (by kernel_rfl) (of_decide_eq_true (by kernel_rfl)) (by kernel_rfl) (fun n => by kernel_rfl) (fun x => by kernel_rfl) (fun _ => rfl) ⟨fun _ => rfl, trivial⟩
  (fun n => fun x => (go_value_Twin_1.eq_2 x.1 n).trans (by kernel_rfl))
  (fun n => ⟨fun x => (go_value_Twin_1_L0.eq_2 x.1 x.2.1 x.2.2.1 x.2.2.2.1 x.2.2.2.2.1 x.2.2.2.2.2.1 x.2.2.2.2.2.2.1 x.2.2.2.2.2.2.2.1 x.2.2.2.2.2.2.2.2.1 x.2.2.2.2.2.2.2.2.2.1 x.2.2.2.2.2.2.2.2.2.2.1 n).trans (by kernel_rfl),
    trivial⟩)
  (fun x => .inr (by kernel_rfl))
theorem r_value_Twin_1 : OkL Tryz.prog [I_value_Twin_1] := ring_ok (dat_ok _) (bs := []) trivial ⟨g_value_Twin_1, trivial⟩
theorem ok_value_Twin_1 : FOk Tryz.prog I_value_Twin_1 := r_value_Twin_1.1
mutual
def go_value_Twin_1_s2 : Nat → GValue → Option (Int × Int × Int × Bool × (List UInt8) × (List GValue))
  | 0, _ => none
  | n + 1, a0 => 
    go_value_Twin_1_s2_L0 n 0 a0.list (a0.list.length : Int) [] 0 0 0 false [] a0.re []
def go_value_Twin_1_s2_L0 : Nat → Int → (List GValue) → Int → (List GValue) → Int → Int → Int → Bool → (List UInt8) → GValue → (List GValue) → Option (Int × Int × Int × Bool × (List UInt8) × (List GValue))
  | 0, _, _, _, _, _, _, _, _, _, _, _ => none
  | n + 1, a0, a1, a2, a3, a4, a5, a6, a7, a8, a9, a10 => 
    pIf (decide (a0 < a2))
      ((ix a1 a0).bind fun x0 =>
      (go_value_Twin_1 n x0.re).bind fun y1 =>
      (ext a3 [y1.re]).bind fun x2 =>
      go_value_Twin_1_s2_L0 n (IntKind.i64.wrap (a0 + 1)) a1 a2 x2 a4 a5 a6 a7 a8 a9.re a10)
      (some (a9.kind, a9.num.num, a9.num.den, a9.truth, a9.str, a3))
end
def k_value_Twin_1_s2 : LSh := ⟨[(3, (.ptr 1 0))], [(.cells [(.fn 60 [] [(.ptr 0 0)])]), (.cells [(.d (.int .u8)), (.d (.int .i64)), (.d (.int .i64)), (.d .bool), (.d .str), (.own 2)]), (.acc 26 (.st 1) true)], 1, 24⟩
noncomputable def I_value_Twin_1_s2 : FI dat := FI.of dat 60 24 1 [(.d (.st 1)), (.ptr 0 0)] [(.cells [(.fn 60 [] [(.ptr 0 0)])])] [(.agg [(.d (.int .u8)), (.d (.int .i64)), (.d (.int .i64)), (.d .bool), (.d .str), (.own 2)])] [(.cells [(.fn 60 [] [(.ptr 0 0)])]), (.cells [(.d (.int .u8)), (.d (.int .i64)), (.d (.int .i64)), (.d .bool), (.d .str), (.own 2)]), (.acc 26 (.st 1) true)] false k_value_Twin_1_s2 (R := Int × Int × Int × Bool × (List UInt8) × (List GValue)) (fun x => (x.1, x.2.1, x.2.2.1, x.2.2.2.1, x.2.2.2.2.1, x.2.2.2.2.2.1)) (fun r => (r.1, r.2.1, r.2.2.1, r.2.2.2.1, r.2.2.2.2.1, r.1, r.2.1, r.2.2.1, r.2.2.2.1, r.2.2.2.2.1, r.2.2.2.2.2, ())) (fun n x => go_value_Twin_1_s2 n x.1)
  (fun n => [(0, ⟨⟨[(10, (.d (.int .i64))), (1, (.ptr 0 0)), (4, (.own 1)), (8, (.d (.sl (.st 1)))), (3, (.ptr 2 0)), (2, (.ptr 3 0)), (9, (.d (.int .i64)))], [(.cells [(.fn 60 [] [(.ptr 0 0)])]), (.acc 26 (.st 1) true), (.cells [(.d (.int .u8)), (.d (.int .i64)), (.d (.int .i64)), (.d .bool), (.d .str), (.own 4)]), (.st 1), (.acc 26 (.st 1) true)], 1, 24⟩, fun x => go_value_Twin_1_s2_L0 n x.1 x.2.1 x.2.2.1 x.2.2.2.1 x.2.2.2.2.1 x.2.2.2.2.2.1 x.2.2.2.2.2.2.1 x.2.2.2.2.2.2.2.1 x.2.2.2.2.2.2.2.2.1 x.2.2.2.2.2.2.2.2.2.1 x.2.2.2.2.2.2.2.2.2.2.1⟩)]) (ann [(8, 0)] (Tryz.f60.body.getD .skip) 0).1
noncomputable def t_value_Twin_1_s2 : List (FI dat) := [I_value_Twin_1]
theorem g_value_Twin_1_s2 : (I_value_Twin_1_s2).Good Tryz.prog dat (tb t_value_Twin_1_s2) := FI.of_good (hD := dat_ok _) Tryz.func60 Tryz.ntmps60 Tryz.call60 (by kernel_rfl) (of_decide_eq_true (by kernel_rfl)) (by kernel_rfl) (fun n => by kernel_rfl) (fun x => by kernel_rfl) (fun _ => rfl) ⟨fun _ => rfl, trivial⟩
  (fun n => fun x => (go_value_Twin_1_s2.eq_2 x.1 n).trans (by kernel_rfl))
  (fun n => ⟨fun x => (go_value_Twin_1_s2_L0.eq_2 x.1 x.2.1 x.2.2.1 x.2.2.2.1 x.2.2.2.2.1 x.2.2.2.2.2.1 x.2.2.2.2.2.2.1 x.2.2.2.2.2.2.2.1 x.2.2.2.2.2.2.2.2.1 x.2.2.2.2.2.2.2.2.2.1 x.2.2.2.2.2.2.2.2.2.2.1 n).trans (by kernel_rfl),
    trivial⟩)
  (fun x => .inr (by kernel_rfl))
theorem r_value_Twin_1_s2 : OkL Tryz.prog [I_value_Twin_1_s2] := one_ok (dat_ok _) (bs := [I_value_Twin_1]) ⟨ok_value_Twin_1, trivial⟩ g_value_Twin_1_s2
theorem ok_value_Twin_1_s2 : FOk Tryz.prog I_value_Twin_1_s2 := r_value_Twin_1_s2.1
def go_value_Twin_s2 : Nat → GValue → Option (Int × Int × Int × Bool × (List UInt8) × (List GValue))
  | 0, _ => none
  | n + 1, a0 => 
    (go_value_Twin_1_s2 n a0.re).bind fun y0 =>
    some (y0.1, y0.2.1, y0.2.2.1, y0.2.2.2.1, y0.2.2.2.2.1, y0.2.2.2.2.2)
def k_value_Twin_s2 : LSh := ⟨[(2, (.ptr 0 0))], [(.cells [(.d (.int .u8)), (.d (.int .i64)), (.d (.int .i64)), (.d .bool), (.d .str), (.own 1)]), (.acc 26 (.st 1) true)], 0, 8⟩
noncomputable def I_value_Twin_s2 : FI dat := FI.of dat 40 8 0 [(.d (.st 1))] [] [(.agg [(.d (.int .u8)), (.d (.int .i64)), (.d (.int .i64)), (.d .bool), (.d .str), (.own 1)])] [(.cells [(.d (.int .u8)), (.d (.int .i64)), (.d (.int .i64)), (.d .bool), (.d .str), (.own 1)]), (.acc 26 (.st 1) true)] false k_value_Twin_s2 (R := Int × Int × Int × Bool × (List UInt8) × (List GValue)) (fun x => (x.1, x.2.1, x.2.2.1, x.2.2.2.1, x.2.2.2.2.1, x.2.2.2.2.2.1)) (fun r => (r.1, r.2.1, r.2.2.1, r.2.2.2.1, r.2.2.2.2.1, r.1, r.2.1, r.2.2.1, r.2.2.2.1, r.2.2.2.2.1, r.2.2.2.2.2, ())) (fun n x => go_value_Twin_s2 n x.1)
  (fun n => []) (ann [] (Tryz.f40.body.getD .skip) 0).1
noncomputable def t_value_Twin_s2 : List (FI dat) := [I_value_Twin_1_s2]
theorem g_value_Twin_s2 : (I_value_Twin_s2).Good Tryz.prog dat (tb t_value_Twin_s2) := FI.of_good (hD := dat_ok _) Tryz.func40 Tryz.ntmps40 Tryz.call40 (by kernel_rfl) (of_decide_eq_true (by kernel_rfl)) (by kernel_rfl) (fun n => by kernel_rfl) (fun x => by kernel_rfl) (fun _ => rfl) trivial
  (fun n => fun x => (go_value_Twin_s2.eq_2 x.1 n).trans (by kernel_rfl))
  (fun n => trivial)
  (fun x => .inr (by kernel_rfl))
theorem r_value_Twin_s2 : OkL Tryz.prog [I_value_Twin_s2] := one_ok (dat_ok _) (bs := [I_value_Twin_1_s2]) ⟨ok_value_Twin_1_s2, trivial⟩ g_value_Twin_s2
theorem ok_value_Twin_s2 : FOk Tryz.prog I_value_Twin_s2 := r_value_Twin_s2.1
mutual
def go_value_Add : Nat → GValue → GValue → Option (Int × GValue)
  | 0, _, _ => none
  | n + 1, a0, a1 => 
    (go_value_both n a0.re a1.re).bind fun y0 =>
    pIf (y0 != 0)
      (some (y0, (GValue.mk 0 (GRatio.mk 0 0) false [] [])))
      (pIf (a0.kind != a1.kind)
        (some (20, (GValue.mk 0 (GRatio.mk 0 0) false [] [])))
        (pIf (a0.kind == 1)
          ((go_ratio_Add n a0.num a1.num).bind fun y1 =>
          pIf (y1.1 != 0)
            (some (y1.1, (GValue.mk 0 (GRatio.mk 0 0) false [] [])))
            (go_value_Add_L0 n 0 0 0 false [] a0.kind y1.2.num y1.2.den false [] [] []))
          (pIf (a0.kind == 3)
            ((cat a0.str a1.str).bind fun x2 =>
            pIf (decide ((x2.length : Int) > 60))
              (some (4, (GValue.mk 0 (GRatio.mk 0 0) false [] [])))
              (go_value_Add_L0 n 0 0 0 false [] a0.kind 0 0 false x2 [] []))
            (pIf (a0.kind == 4)
              ((go_value_measure n a0.re).bind fun y3 =>
              (go_value_measure n a1.re).bind fun y4 =>
              pIf (decide ((IntKind.i64.wrap ((IntKind.i64.wrap (y3.1 + y4.1)) - 1)) > 100))
                (some (4, (GValue.mk 0 (GRatio.mk 0 0) false [] [])))
                ((go_value_Twin_s2 n a0.re).bind fun y5 =>
                (go_value_Twin_s2 n a1.re).bind fun y6 =>
                (ext y5.2.2.2.2.2 y6.2.2.2.2.2).bind fun x7 =>
                go_value_Add_L0 n 0 0 0 false [] a0.kind 0 0 false [] [] x7))
              (some (20, (GValue.mk 0 (GRatio.mk 0 0) false [] [])))))))
def go_value_Add_L0 : Nat → Int → Int → Int → Bool → (List UInt8) → Int → Int → Int → Bool → (List UInt8) → (List GValue) → (List GValue) → Option (Int × GValue)
  | 0, _, _, _, _, _, _, _, _, _, _, _, _ => none
  | n + 1, a0, a1, a2, a3, a4, a5, a6, a7, a8, a9, a10, a11 => 
    some (0, (GValue.mk a5 (GRatio.mk a6 a7) a8 a9 a11))
end
def k_value_Add : LSh := ⟨[(4, (.ptr 0 0)), (5, (.d (.int .i64)))], [(.st 1)], 0, 89⟩
noncomputable def I_value_Add : FI dat := FI.of dat 109 89 0 [(.d (.st 1)), (.d (.st 1))] [] [(.d (.st 1)), (.d (.int .i64))] [] true k_value_Add (R := Int × GValue) (fun x => (x.1, x.2.1)) (fun r => (r.2, r.1, ())) (fun n x => go_value_Add n x.1 x.2.1)
  (fun n => [(0, ⟨⟨[(4, (.ptr 0 0)), (7, (.ptr 1 0))], [(.cells [(.d (.int .u8)), (.d (.int .i64)), (.d (.int .i64)), (.d .bool), (.d .str), (.own 2)]), (.cells [(.d (.int .u8)), (.d (.int .i64)), (.d (.int .i64)), (.d .bool), (.d .str), (.own 3)]), (.acc 26 (.st 1) true), (.acc 26 (.st 1) true)], 0, 89⟩, fun x => go_value_Add_L0 n x.1 x.2.1 x.2.2.1 x.2.2.2.1 x.2.2.2.2.1 x.2.2.2.2.2.1 x.2.2.2.2.2.2.1 x.2.2.2.2.2.2.2.1 x.2.2.2.2.2.2.2.2.1 x.2.2.2.2.2.2.2.2.2.1 x.2.2.2.2.2.2.2.2.2.2.1 x.2.2.2.2.2.2.2.2.2.2.2.1⟩)]) (ann [(71, 0)] (Tryz.f109.body.getD .skip) 0).1
noncomputable def t_value_Add : List (FI dat) := [I_value_both, I_ratio_Add, I_value_measure, I_value_Twin_s2]
theorem g_value_Add : (I_value_Add).Good Tryz.prog dat (tb t_value_Add) := FI.of_good (hD := dat_ok _) Tryz.func109 Tryz.ntmps109 Tryz.call109 (by kernel_rfl) (of_decide_eq_true (by kernel_rfl)) (by kernel_rfl) (fun n => by kernel_rfl) (fun x => by kernel_rfl) (fun _ => rfl) ⟨fun _ => rfl, trivial⟩
  (fun n => fun x => (go_value_Add.eq_2 x.1 x.2.1 n).trans (by kernel_rfl))
  (fun n => ⟨fun x => (go_value_Add_L0.eq_2 x.1 x.2.1 x.2.2.1 x.2.2.2.1 x.2.2.2.2.1 x.2.2.2.2.2.1 x.2.2.2.2.2.2.1 x.2.2.2.2.2.2.2.1 x.2.2.2.2.2.2.2.2.1 x.2.2.2.2.2.2.2.2.2.1 x.2.2.2.2.2.2.2.2.2.2.1 x.2.2.2.2.2.2.2.2.2.2.2.1 n).trans (by kernel_rfl),
    trivial⟩)
  (fun x => .inl rfl)
theorem r_value_Add : OkL Tryz.prog [I_value_Add] := one_ok (dat_ok _) (bs := [I_value_both, I_ratio_Add, I_value_measure, I_value_Twin_s2]) ⟨ok_value_both, ok_ratio_Add, ok_value_measure, ok_value_Twin_s2, trivial⟩ g_value_Add
theorem ok_value_Add : FOk Tryz.prog I_value_Add := r_value_Add.1
def go_ratio_Sub_1 : Nat → GRatio → GRatio → Option (Int × Int)
  | 0, _, _ => none
  | n + 1, a0, a1 => 
    some ((IntKind.i64.wrap ((IntKind.i64.wrap (a0.num * a1.den)) - (IntKind.i64.wrap (a1.num * a0.den)))), (IntKind.i64.wrap (a0.den * a1.den)))
def k_ratio_Sub_1 : LSh := ⟨[(4, (.d (.int .i64))), (5, (.d (.int .i64)))], [], 0, 22⟩
noncomputable def I_ratio_Sub_1 : FI dat := FI.of dat 136 22 0 [(.d (.st 0)), (.d (.st 0))] [] [(.d (.int .i64)), (.d (.int .i64))] [] true k_ratio_Sub_1 (R := Int × Int) (fun x => (x.1, x.2.1)) (fun r => (r.1, r.2, ())) (fun n x => go_ratio_Sub_1 n x.1 x.2.1)
  (fun n => []) (ann [] (Tryz.f136.body.getD .skip) 0).1
noncomputable def t_ratio_Sub_1 : List (FI dat) := []
theorem g_ratio_Sub_1 : (I_ratio_Sub_1).Good Tryz.prog dat (tb t_ratio_Sub_1) := FI.of_good (hD := dat_ok _) Tryz.func136 Tryz.ntmps136 Tryz.call136 (by kernel_rfl) (of_decide_eq_true (by kernel_rfl)) (by kernel_rfl) (fun n => by kernel_rfl) (fun x => by kernel_rfl) (fun _ => rfl) trivial
  (fun n => fun x => (go_ratio_Sub_1.eq_2 x.1 x.2.1 n).trans (by kernel_rfl))
  (fun n => trivial)
  (fun x => .inl rfl)
theorem r_ratio_Sub_1 : OkL Tryz.prog [I_ratio_Sub_1] := one_ok (dat_ok _) (bs := []) trivial g_ratio_Sub_1
theorem ok_ratio_Sub_1 : FOk Tryz.prog I_ratio_Sub_1 := r_ratio_Sub_1.1
def go_ratio_run : Nat → GRatio → GRatio → Option (GRatio × Int)
  | 0, _, _ => none
  | n + 1, a0, a1 => 
    (go_ratio_with n a0 a1).bind fun y0 =>
    pIf (y0.e == 0)
      ((go_ratio_Sub_1 n y0.a y0.b).bind fun y1 =>
      (go_ratio_calc_set n y1.1 y1.2 y0).bind fun y2 =>
      (((go_ratio_run_1 9 y2.a.num y2.a.den y2.b.num y2.b.den y2.out.num y2.out.den y2.e 0 0 0).bind fun r4 => some (r4.1, r4.2.1, r4.2.2.1, r4.2.2.2.1, r4.2.2.2.2.1, r4.2.2.2.2.2.1, r4.2.2.2.2.2.2.1, r4.2.2.2.2.2.2.2.1, r4.2.2.2.2.2.2.2.2.1, r4.2.2.2.2.2.2.2.2.2, ()))).bind fun y3 =>
      some ((GRatio.mk y3.2.2.2.2.2.2.2.1 y3.2.2.2.2.2.2.2.2.1), y3.2.2.2.2.2.2.2.2.2.1))
      ((((go_ratio_run_1 9 y0.a.num y0.a.den y0.b.num y0.b.den y0.out.num y0.out.den y0.e 0 0 0).bind fun r6 => some (r6.1, r6.2.1, r6.2.2.1, r6.2.2.2.1, r6.2.2.2.2.1, r6.2.2.2.2.2.1, r6.2.2.2.2.2.2.1, r6.2.2.2.2.2.2.2.1, r6.2.2.2.2.2.2.2.2.1, r6.2.2.2.2.2.2.2.2.2, ()))).bind fun y5 =>
      some ((GRatio.mk y5.2.2.2.2.2.2.2.1 y5.2.2.2.2.2.2.2.2.1), y5.2.2.2.2.2.2.2.2.2.1))
def k_ratio_run : LSh := ⟨[(6, (.ptr 0 0)), (7, (.ptr 1 0))], [(.st 0), (.cells [(.d (.int .i64))])], 0, 27⟩
noncomputable def I_ratio_run : FI dat := FI.ofD dat 135 27 0 [(.d (.st 0)), (.d (.st 0)), (.fn 136 [] [])] [] [(.d (.st 0)), (.d (.int .i64))] [(.st 0), (.cells [(.d (.int .i64))])] [d_ratio_run_1] k_ratio_run (R := GRatio × Int) (fun x => (x.1, x.2.1)) (fun r => (r.1, r.2, r.1, r.2, ())) (fun n x => go_ratio_run n x.1 x.2.1)
  (fun n => []) (ann [] (Tryz.f135.body.getD .skip) 0).1
noncomputable def t_ratio_run : List (FI dat) := [I_ratio_with, I_ratio_Sub_1, I_ratio_calc_set]
theorem g_ratio_run : (I_ratio_run).Good Tryz.prog dat (tb t_ratio_run) := FI.ofD_good (hD := dat_ok _) Tryz.func135 Tryz.ntmps135 Tryz.call135 (by kernel_rfl) (of_decide_eq_true (by kernel_rfl)) (by kernel_rfl) (fun n => by kernel_rfl) ⟨dok_ratio_run_1, trivial⟩ (fun x => by kernel_rfl) (fun _ => rfl) trivial
  (fun n => fun x => (go_ratio_run.eq_2 x.1 x.2.1 n).trans (by kernel_rfl))
  (fun n => trivial)
  (fun x => by kernel_rfl)
theorem r_ratio_run : OkL Tryz.prog [I_ratio_run] := one_ok (dat_ok _) (bs := [I_ratio_with, I_ratio_Sub_1, I_ratio_calc_set]) ⟨ok_ratio_with, ok_ratio_Sub_1, ok_ratio_calc_set, trivial⟩ g_ratio_run
theorem ok_ratio_run : FOk Tryz.prog I_ratio_run := r_ratio_run.1
end Go.Proofs.YtfhpamcehnfhoaaGreat

namespace Go.Proofs.YtfhpamcehnfhoaaGreat
open Go Go.Ab
set_option linter.unusedVariables false
set_option maxRecDepth 100000
def go_ratio_Sub : Nat → GRatio → GRatio → Option (Int × GRatio)
  | 0, _, _ => none
  | n + 1, a0, a1 => 
    (go_ratio_run n a0 a1).bind fun y0 =>
    some (y0.2, y0.1)
def k_ratio_Sub : LSh := ⟨[(4, (.ptr 0 0)), (5, (.d (.int .i64)))], [(.st 0)], 0, 11⟩
noncomputable def I_ratio_Sub : FI dat := FI.of dat 111 11 0 [(.d (.st 0)), (.d (.st 0))] [] [(.d (.st 0)), (.d (.int .i64))] [] true k_ratio_Sub (R := Int × GRatio) (fun x => (x.1, x.2.1)) (fun r => (r.2, r.1, ())) (fun n x => go_ratio_Sub n x.1 x.2.1)
  (fun n => []) (ann [] (Tryz.f111.body.getD .skip) 0).1
noncomputable def t_ratio_Sub : List (FI dat) := [I_ratio_run]
theorem g_ratio_Sub : (I_ratio_Sub).Good Tryz.prog dat (tb t_ratio_Sub) := FI.of_good (hD := dat_ok _) Tryz.func111 Tryz.ntmps111 Tryz.call111 (by kernel_rfl) (of_decide_eq_true (by kernel_rfl)) (by kernel_rfl) (fun n => by kernel_rfl) (fun x => by kernel_rfl) (fun _ => rfl) trivial
  (fun n => fun x => (go_ratio_Sub.eq_2 x.1 x.2.1 n).trans (by kernel_rfl))
  (fun n => trivial)
  (fun x => .inl rfl)
theorem r_ratio_Sub : OkL Tryz.prog [I_ratio_Sub] := one_ok (dat_ok _) (bs := [I_ratio_run]) ⟨ok_ratio_run, trivial⟩ g_ratio_Sub
theorem ok_ratio_Sub : FOk Tryz.prog I_ratio_Sub := r_ratio_Sub.1
def go_expr_number : Nat → GRatio → Int → Option (Res (Int × Unit) GValue)
  | 0, _, _ => none
  | n + 1, a0, a1 => 
    (go_expr_must n a1).bind fun y0 =>
    pRes y0 (fun r1 =>
      some (Res.ok (GValue.mk 1 a0 false [] [])))
      (fun e2 =>
      some (Res.pan (e2.1, ())))
def k_expr_number : LSh := ⟨[(4, (.ptr 0 0))], [(.st 1)], 0, 9⟩
noncomputable def I_expr_number : FI dat := FI.ofP dat 110 9 0 [(.d (.st 0)), (.d (.int .i64))] [] [(.d (.st 1))] [(.st 1)] (.iface 33 (.d (.int .i64))) [] [] k_expr_number (R := GValue) (fun x => x.1) (fun r => (r, r, ())) (fun n x => go_expr_number n x.1 x.2.1)
  (fun n => []) (ann [] (Tryz.f110.body.getD .skip) 0).1
noncomputable def t_expr_number : List (FI dat) := [I_expr_must]
theorem g_expr_number : (I_expr_number).Good Tryz.prog dat (tb t_expr_number) := FI.ofP_good (hD := dat_ok _) Tryz.func110 Tryz.ntmps110 Tryz.call110 (by kernel_rfl) (of_decide_eq_true (by kernel_rfl)) (by kernel_rfl) (fun n => by kernel_rfl) trivial (fun x => by kernel_rfl) (fun _ => rfl) trivial
  (fun n => fun x => (go_expr_number.eq_2 x.1 x.2.1 n).trans (by kernel_rfl))
  (fun n => trivial)
  (fun x => by kernel_rfl)
theorem r_expr_number : OkL Tryz.prog [I_expr_number] := one_ok (dat_ok _) (bs := [I_expr_must]) ⟨ok_expr_must, trivial⟩ g_expr_number
theorem ok_expr_number : FOk Tryz.prog I_expr_number := r_expr_number.1
def go_ratio_Mul_1 : Nat → GRatio → GRatio → Option (Int × Int)
  | 0, _, _ => none
  | n + 1, a0, a1 => 
    some ((IntKind.i64.wrap (a0.num * a1.num)), (IntKind.i64.wrap (a0.den * a1.den)))
def k_ratio_Mul_1 : LSh := ⟨[(4, (.d (.int .i64))), (5, (.d (.int .i64)))], [], 0, 16⟩
noncomputable def I_ratio_Mul_1 : FI dat := FI.of dat 137 16 0 [(.d (.st 0)), (.d (.st 0))] [] [(.d (.int .i64)), (.d (.int .i64))] [] true k_ratio_Mul_1 (R := Int × Int) (fun x => (x.1, x.2.1)) (fun r => (r.1, r.2, ())) (fun n x => go_ratio_Mul_1 n x.1 x.2.1)
  (fun n => []) (ann [] (Tryz.f137.body.getD .skip) 0).1
noncomputable def t_ratio_Mul_1 : List (FI dat) := []
theorem g_ratio_Mul_1 : (I_ratio_Mul_1).Good Tryz.prog dat (tb t_ratio_Mul_1) := FI.of_good (hD := dat_ok _) Tryz.func137 Tryz.ntmps137 Tryz.call137 (by kernel_rfl) (of_decide_eq_true (by kernel_rfl)) (by kernel_rfl) (fun n => by kernel_rfl) (fun x => by kernel_rfl) (fun _ => rfl) trivial
  (fun n => fun x => (go_ratio_Mul_1.eq_2 x.1 x.2.1 n).trans (by kernel_rfl))
  (fun n => trivial)
  (fun x => .inl rfl)
theorem r_ratio_Mul_1 : OkL Tryz.prog [I_ratio_Mul_1] := one_ok (dat_ok _) (bs := []) trivial g_ratio_Mul_1
theorem ok_ratio_Mul_1 : FOk Tryz.prog I_ratio_Mul_1 := r_ratio_Mul_1.1
def go_ratio_run_s2 : Nat → GRatio → GRatio → Option (GRatio × Int)
  | 0, _, _ => none
  | n + 1, a0, a1 => 
    (go_ratio_with n a0 a1).bind fun y0 =>
    pIf (y0.e == 0)
      ((go_ratio_Mul_1 n y0.a y0.b).bind fun y1 =>
      (go_ratio_calc_set n y1.1 y1.2 y0).bind fun y2 =>
      (((go_ratio_run_1 9 y2.a.num y2.a.den y2.b.num y2.b.den y2.out.num y2.out.den y2.e 0 0 0).bind fun r4 => some (r4.1, r4.2.1, r4.2.2.1, r4.2.2.2.1, r4.2.2.2.2.1, r4.2.2.2.2.2.1, r4.2.2.2.2.2.2.1, r4.2.2.2.2.2.2.2.1, r4.2.2.2.2.2.2.2.2.1, r4.2.2.2.2.2.2.2.2.2, ()))).bind fun y3 =>
      some ((GRatio.mk y3.2.2.2.2.2.2.2.1 y3.2.2.2.2.2.2.2.2.1), y3.2.2.2.2.2.2.2.2.2.1))
      ((((go_ratio_run_1 9 y0.a.num y0.a.den y0.b.num y0.b.den y0.out.num y0.out.den y0.e 0 0 0).bind fun r6 => some (r6.1, r6.2.1, r6.2.2.1, r6.2.2.2.1, r6.2.2.2.2.1, r6.2.2.2.2.2.1, r6.2.2.2.2.2.2.1, r6.2.2.2.2.2.2.2.1, r6.2.2.2.2.2.2.2.2.1, r6.2.2.2.2.2.2.2.2.2, ()))).bind fun y5 =>
      some ((GRatio.mk y5.2.2.2.2.2.2.2.1 y5.2.2.2.2.2.2.2.2.1), y5.2.2.2.2.2.2.2.2.2.1))
def k_ratio_run_s2 : LSh := ⟨[(6, (.ptr 0 0)), (7, (.ptr 1 0))], [(.st 0), (.cells [(.d (.int .i64))])], 0, 27⟩
noncomputable def I_ratio_run_s2 : FI dat := FI.ofD dat 135 27 0 [(.d (.st 0)), (.d (.st 0)), (.fn 137 [] [])] [] [(.d (.st 0)), (.d (.int .i64))] [(.st 0), (.cells [(.d (.int .i64))])] [d_ratio_run_1] k_ratio_run_s2 (R := GRatio × Int) (fun x => (x.1, x.2.1)) (fun r => (r.1, r.2, r.1, r.2, ())) (fun n x => go_ratio_run_s2 n x.1 x.2.1)
  (fun n => []) (ann [] (Tryz.f135.body.getD .skip) 0).1
noncomputable def t_ratio_run_s2 : List (FI dat) := [I_ratio_with, I_ratio_Mul_1, I_ratio_calc_set]
theorem g_ratio_run_s2 : (I_ratio_run_s2).Good Tryz.prog dat (tb t_ratio_run_s2) := FI.ofD_good (hD := dat_ok _) Tryz.func135 Tryz.ntmps135 Tryz.call135 (by kernel_rfl) (of_decide_eq_true (by kernel_rfl)) (by kernel_rfl) (fun n => by kernel_rfl) ⟨dok_ratio_run_1, trivial⟩ (fun x => by kernel_rfl) (fun _ => rfl) trivial
  (fun n => fun x => (go_ratio_run_s2.eq_2 x.1 x.2.1 n).trans (by kernel_rfl))
  (fun n => trivial)
  (fun x => by kernel_rfl)
theorem r_ratio_run_s2 : OkL Tryz.prog [I_ratio_run_s2] := one_ok (dat_ok _) (bs := [I_ratio_with, I_ratio_Mul_1, I_ratio_calc_set]) ⟨ok_ratio_with, ok_ratio_Mul_1, ok_ratio_calc_set, trivial⟩ g_ratio_run_s2
theorem ok_ratio_run_s2 : FOk Tryz.prog I_ratio_run_s2 := r_ratio_run_s2.1
def go_ratio_Mul : Nat → GRatio → GRatio → Option (Int × GRatio)
  | 0, _, _ => none
  | n + 1, a0, a1 => 
    (go_ratio_run_s2 n a0 a1).bind fun y0 =>
    some (y0.2, y0.1)
def k_ratio_Mul : LSh := ⟨[(4, (.ptr 0 0)), (5, (.d (.int .i64)))], [(.st 0)], 0, 11⟩
noncomputable def I_ratio_Mul : FI dat := FI.of dat 112 11 0 [(.d (.st 0)), (.d (.st 0))] [] [(.d (.st 0)), (.d (.int .i64))] [] true k_ratio_Mul (R := Int × GRatio) (fun x => (x.1, x.2.1)) (fun r => (r.2, r.1, ())) (fun n x => go_ratio_Mul n x.1 x.2.1)
  (fun n => []) (ann [] (Tryz.f112.body.getD .skip) 0).1
noncomputable def t_ratio_Mul : List (FI dat) := [I_ratio_run_s2]
theorem g_ratio_Mul : (I_ratio_Mul).Good Tryz.prog dat (tb t_ratio_Mul) := FI.of_good (hD := dat_ok _) Tryz.func112 Tryz.ntmps112 Tryz.call112 (by kernel_rfl) (of_decide_eq_true (by kernel_rfl)) (by kernel_rfl) (fun n => by kernel_rfl) (fun x => by kernel_rfl) (fun _ => rfl) trivial
  (fun n => fun x => (go_ratio_Mul.eq_2 x.1 x.2.1 n).trans (by kernel_rfl))
  (fun n => trivial)
  (fun x => .inl rfl)
theorem r_ratio_Mul : OkL Tryz.prog [I_ratio_Mul] := one_ok (dat_ok _) (bs := [I_ratio_run_s2]) ⟨ok_ratio_run_s2, trivial⟩ g_ratio_Mul
theorem ok_ratio_Mul : FOk Tryz.prog I_ratio_Mul := r_ratio_Mul.1
def go_ratio_Div_1 : Nat → GRatio → GRatio → Option (Int × Int)
  | 0, _, _ => none
  | n + 1, a0, a1 => 
    some ((IntKind.i64.wrap (a0.num * a1.den)), (IntKind.i64.wrap (a0.den * a1.num)))
def k_ratio_Div_1 : LSh := ⟨[(4, (.d (.int .i64))), (5, (.d (.int .i64)))], [], 0, 16⟩
noncomputable def I_ratio_Div_1 : FI dat := FI.of dat 138 16 0 [(.d (.st 0)), (.d (.st 0))] [] [(.d (.int .i64)), (.d (.int .i64))] [] true k_ratio_Div_1 (R := Int × Int) (fun x => (x.1, x.2.1)) (fun r => (r.1, r.2, ())) (fun n x => go_ratio_Div_1 n x.1 x.2.1)
  (fun n => []) (ann [] (Tryz.f138.body.getD .skip) 0).1
noncomputable def t_ratio_Div_1 : List (FI dat) := []
theorem g_ratio_Div_1 : (I_ratio_Div_1).Good Tryz.prog dat (tb t_ratio_Div_1) := FI.of_good (hD := dat_ok _) Tryz.func138 Tryz.ntmps138 Tryz.call138 (by kernel_rfl) (of_decide_eq_true (by kernel_rfl)) (by kernel_rfl) (fun n => by kernel_rfl) (fun x => by kernel_rfl) (fun _ => rfl) trivial
  (fun n => fun x => (go_ratio_Div_1.eq_2 x.1 x.2.1 n).trans (by kernel_rfl))
  (fun n => trivial)
  (fun x => .inl rfl)
theorem r_ratio_Div_1 : OkL Tryz.prog [I_ratio_Div_1] := one_ok (dat_ok _) (bs := []) trivial g_ratio_Div_1
theorem ok_ratio_Div_1 : FOk Tryz.prog I_ratio_Div_1 := r_ratio_Div_1.1
def go_ratio_run_s3 : Nat → GRatio → GRatio → Option (GRatio × Int)
  | 0, _, _ => none
  | n + 1, a0, a1 => 
    (go_ratio_with n a0 a1).bind fun y0 =>
    pIf (y0.e == 0)
      ((go_ratio_Div_1 n y0.a y0.b).bind fun y1 =>
      (go_ratio_calc_set n y1.1 y1.2 y0).bind fun y2 =>
      (((go_ratio_run_1 9 y2.a.num y2.a.den y2.b.num y2.b.den y2.out.num y2.out.den y2.e 0 0 0).bind fun r4 => some (r4.1, r4.2.1, r4.2.2.1, r4.2.2.2.1, r4.2.2.2.2.1, r4.2.2.2.2.2.1, r4.2.2.2.2.2.2.1, r4.2.2.2.2.2.2.2.1, r4.2.2.2.2.2.2.2.2.1, r4.2.2.2.2.2.2.2.2.2, ()))).bind fun y3 =>
      some ((GRatio.mk y3.2.2.2.2.2.2.2.1 y3.2.2.2.2.2.2.2.2.1), y3.2.2.2.2.2.2.2.2.2.1))
      ((((go_ratio_run_1 9 y0.a.num y0.a.den y0.b.num y0.b.den y0.out.num y0.out.den y0.e 0 0 0).bind fun r6 => some (r6.1, r6.2.1, r6.2.2.1, r6.2.2.2.1, r6.2.2.2.2.1, r6.2.2.2.2.2.1, r6.2.2.2.2.2.2.1, r6.2.2.2.2.2.2.2.1, r6.2.2.2.2.2.2.2.2.1, r6.2.2.2.2.2.2.2.2.2, ()))).bind fun y5 =>
      some ((GRatio.mk y5.2.2.2.2.2.2.2.1 y5.2.2.2.2.2.2.2.2.1), y5.2.2.2.2.2.2.2.2.2.1))
def k_ratio_run_s3 : LSh := ⟨[(6, (.ptr 0 0)), (7, (.ptr 1 0))], [(.st 0), (.cells [(.d (.int .i64))])], 0, 27⟩
noncomputable def I_ratio_run_s3 : FI dat := FI.ofD dat 135 27 0 [(.d (.st 0)), (.d (.st 0)), (.fn 138 [] [])] [] [(.d (.st 0)), (.d (.int .i64))] [(.st 0), (.cells [(.d (.int .i64))])] [d_ratio_run_1] k_ratio_run_s3 (R := GRatio × Int) (fun x => (x.1, x.2.1)) (fun r => (r.1, r.2, r.1, r.2, ())) (fun n x => go_ratio_run_s3 n x.1 x.2.1)
  (fun n => []) (ann [] (Tryz.f135.body.getD .skip) 0).1
noncomputable def t_ratio_run_s3 : List (FI dat) := [I_ratio_with, I_ratio_Div_1, I_ratio_calc_set]
theorem g_ratio_run_s3 : (I_ratio_run_s3).Good Tryz.prog dat (tb t_ratio_run_s3) := FI.ofD_good (hD := dat_ok _) Tryz.func135 Tryz.ntmps135 Tryz.call135 (by kernel_rfl) (of_decide_eq_true (by kernel_rfl)) (by kernel_rfl) (fun n => by kernel_rfl) ⟨dok_ratio_run_1, trivial⟩ (fun x => by kernel_rfl) (fun _ => rfl) trivial
  (fun n => fun x => (go_ratio_run_s3.eq_2 x.1 x.2.1 n).trans (by kernel_rfl))
  (fun n => trivial)
  (fun x => by kernel_rfl)
theorem r_ratio_run_s3 : OkL Tryz.prog [I_ratio_run_s3] := one_ok (dat_ok _) (bs := [I_ratio_with, I_ratio_Div_1, I_ratio_calc_set]) ⟨ok_ratio_with, ok_ratio_Div_1, ok_ratio_calc_set, trivial⟩ g_ratio_run_s3
theorem ok_ratio_run_s3 : FOk Tryz.prog I_ratio_run_s3 := r_ratio_run_s3.1
def go_ratio_Div : Nat → GRatio → GRatio → Option (Int × GRatio)
  | 0, _, _ => none
  | n + 1, a0, a1 => 
    (go_ratio_run_s3 n a0 a1).bind fun y0 =>
    some (y0.2, y0.1)
def k_ratio_Div : LSh := ⟨[(4, (.ptr 0 0)), (5, (.d (.int .i64)))], [(.st 0)], 0, 11⟩
noncomputable def I_ratio_Div : FI dat := FI.of dat 113 11 0 [(.d (.st 0)), (.d (.st 0))] [] [(.d (.st 0)), (.d (.int .i64))] [] true k_ratio_Div (R := Int × GRatio) (fun x => (x.1, x.2.1)) (fun r => (r.2, r.1, ())) (fun n x => go_ratio_Div n x.1 x.2.1)
  (fun n => []) (ann [] (Tryz.f113.body.getD .skip) 0).1
noncomputable def t_ratio_Div : List (FI dat) := [I_ratio_run_s3]
theorem g_ratio_Div : (I_ratio_Div).Good Tryz.prog dat (tb t_ratio_Div) := FI.of_good (hD := dat_ok _) Tryz.func113 Tryz.ntmps113 Tryz.call113 (by kernel_rfl) (of_decide_eq_true (by kernel_rfl)) (by kernel_rfl) (fun n => by kernel_rfl) (fun x => by kernel_rfl) (fun _ => rfl) trivial
  (fun n => fun x => (go_ratio_Div.eq_2 x.1 x.2.1 n).trans (by kernel_rfl))
  (fun n => trivial)
  (fun x => .inl rfl)
theorem r_ratio_Div : OkL Tryz.prog [I_ratio_Div] := one_ok (dat_ok _) (bs := [I_ratio_run_s3]) ⟨ok_ratio_run_s3, trivial⟩ g_ratio_Div
theorem ok_ratio_Div : FOk Tryz.prog I_ratio_Div := r_ratio_Div.1
def go_expr_truth : Nat → Bool → Option GValue
  | 0, _ => none
  | n + 1, a0 => 
    some (GValue.mk 2 (GRatio.mk 0 0) a0 [] [])
def k_expr_truth : LSh := ⟨[(2, (.ptr 0 0))], [(.st 1)], 0, 5⟩
noncomputable def I_expr_truth : FI dat := FI.of dat 114 5 0 [(.d .bool)] [] [(.d (.st 1))] [] true k_expr_truth (R := GValue) (fun x => x.1) (fun r => (r, ())) (fun n x => go_expr_truth n x.1)
  (fun n => []) (ann [] (Tryz.f114.body.getD .skip) 0).1
noncomputable def t_expr_truth : List (FI dat) := []
theorem g_expr_truth : (I_expr_truth).Good Tryz.prog dat (tb t_expr_truth) := FI.of_good (hD := dat_ok _) Tryz.func114 Tryz.ntmps114 Tryz.call114 (by kernel_rfl) (of_decide_eq_true (by kernel_rfl)) (by kernel_rfl) (fun n => by kernel_rfl) (fun x => by kernel_rfl) (fun _ => rfl) trivial
  (fun n => fun x => (go_expr_truth.eq_2 x.1 n).trans (by kernel_rfl))
  (fun n => trivial)
  (fun x => .inl rfl)
theorem r_expr_truth : OkL Tryz.prog [I_expr_truth] := one_ok (dat_ok _) (bs := []) trivial g_expr_truth
theorem ok_expr_truth : FOk Tryz.prog I_expr_truth := r_expr_truth.1
def go_cmp_isNaN_int64 : Nat → Int → Option Bool
  | 0, _ => none
  | n + 1, a0 => 
    some (a0 != a0)
def k_cmp_isNaN_int64 : LSh := ⟨[(2, (.d .bool))], [], 0, 6⟩
noncomputable def I_cmp_isNaN_int64 : FI dat := FI.of dat 152 6 0 [(.d (.int .i64))] [] [(.d .bool)] [] true k_cmp_isNaN_int64 (R := Bool) (fun x => x.1) (fun r => (r, ())) (fun n x => go_cmp_isNaN_int64 n x.1)
  (fun n => []) (ann [] (Tryz.f152.body.getD .skip) 0).1
noncomputable def t_cmp_isNaN_int64 : List (FI dat) := []
theorem g_cmp_isNaN_int64 : (I_cmp_isNaN_int64).Good Tryz.prog dat (tb t_cmp_isNaN_int64) := FI.of_good (hD := dat_ok _) Tryz.func152 Tryz.ntmps152 Tryz.call152 (by kernel_rfl) (of_decide_eq_true (by kernel_rfl)) (by kernel_rfl) (fun n => by kernel_rfl) (fun x => by kernel_rfl) (fun _ => rfl) trivial
  (fun n => fun x => (go_cmp_isNaN_int64.eq_2 x.1 n).trans (by kernel_rfl))
  (fun n => trivial)
  (fun x => .inl rfl)
theorem r_cmp_isNaN_int64 : OkL Tryz.prog [I_cmp_isNaN_int64] := one_ok (dat_ok _) (bs := []) trivial g_cmp_isNaN_int64
theorem ok_cmp_isNaN_int64 : FOk Tryz.prog I_cmp_isNaN_int64 := r_cmp_isNaN_int64.1
end Go.Proofs.YtfhpamcehnfhoaaGreat
