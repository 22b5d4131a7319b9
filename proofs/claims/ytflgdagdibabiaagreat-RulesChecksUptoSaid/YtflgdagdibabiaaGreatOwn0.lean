/-
  THE GO STRUCTS AS LEAN STRUCTURES, by a program of this repo (types.py).
-/
import Derived.Test.YtflgdagdibabiaaGreatLib2
import Derived.Test.YtflgdagdibabiaaGreatLib3
import Derived.Test.YtflgdagdibabiaaGreatLib6
import Derived.Shelf.Sort.Plain
import Derived.Shelf.Slices.CompactS
import Derived.Shelf.Slices.In.SortNone
import Derived.Test.YtflgdagdibabiaaGreatProg
import Derived.Test.YtflgdagdibabiaaGreatLib7
import Derived.KernelRfl
namespace Go.Ab
open Go
set_option linter.unusedVariables false
set_option linter.unusedSimpArgs false
structure yz6 where
 num : Int
 den : Int
def yz6.el (x : yz6) : V := .agg [.int .i64 x.num, .int .i64 x.den]
def yz6.size (x : yz6) : Nat := 1 + 1 + 1
def yz6.wf (x : yz6) : Prop := (IntKind.i64.min ≤ x.num ∧ x.num ≤ IntKind.i64.max) ∧ (IntKind.i64.min ≤ x.den ∧ x.den ≤ IntKind.i64.max)
theorem yz6.yz5 (x : yz6) : x.el = .agg [.int .i64 x.num, .int .i64 x.den] := by rw [yz6.el]
theorem yz6.size_eq (x : yz6) : x.size = 1 + 1 + 1 := by rw [yz6.size]
theorem yz6.z3m (x : yz6) : x.wf = ((IntKind.i64.min ≤ x.num ∧ x.num ≤ IntKind.i64.max) ∧ (IntKind.i64.min ≤ x.den ∧ x.den ≤ IntKind.i64.max)) := by rw [yz6.wf]
theorem yz6.z0p (x : yz6) : x.el.cells.length = 2 := by rw [yz6.yz5]; rfl
theorem yz6.zl0 (x : yz6) : x.el = .agg x.el.cells := by rw [yz6.yz5]; rfl
theorem yz6.kin {D : Nat → Nat → Prop} (x : yz6) : V.kin D x.el := by rw [yz6.yz5]; simp only [V.kin, V.zdo, and_true, true_and]
def yz6.ty : Ty yz6 := ⟨yz6.el, 2, yz6.size, yz6.wf, yz6.z0p⟩
structure yz1 where
 kind : Int
 num : yz6
 truth : Bool
 str : List UInt8
 list : List yz1
theorem yz1.zvj {x y : yz1} (h : y ∈ x.list) : SizeOf.sizeOf y < SizeOf.sizeOf x := by cases x; have := List.sizeOf_lt_of_mem h; simp at this ⊢; omega
def yz1.el (x : yz1) : V := .agg [.int .u8 x.kind, .int .i64 x.num.num, .int .i64 x.num.den, .bool x.truth, .str x.str, .sl 6 (x.list.map yz1.el) false]
 termination_by x
 decreasing_by all_goals first | exact yz1.zvj ‹_›
def yz1.size (x : yz1) : Nat := 1 + x.num.size + 1 + (x.str.length + 1) + ((x.list.map yz1.size).sum + 1) + 1
 termination_by x
 decreasing_by all_goals first | exact yz1.zvj ‹_›
def yz1.wf (x : yz1) : Prop := (IntKind.u8.min ≤ x.kind ∧ x.kind ≤ IntKind.u8.max) ∧ x.num.wf ∧ True ∧ True ∧ (∀ y ∈ x.list, y.wf)
 termination_by x
 decreasing_by all_goals first | exact yz1.zvj ‹_›
theorem yz1.yz5 (x : yz1) : x.el = .agg [.int .u8 x.kind, .int .i64 x.num.num, .int .i64 x.num.den, .bool x.truth, .str x.str, .sl 6 (x.list.map yz1.el) false] := by rw [yz1.el]
theorem yz1.size_eq (x : yz1) : x.size = 1 + x.num.size + 1 + (x.str.length + 1) + ((x.list.map yz1.size).sum + 1) + 1 := by rw [yz1.size]
theorem yz1.z3m (x : yz1) : x.wf = ((IntKind.u8.min ≤ x.kind ∧ x.kind ≤ IntKind.u8.max) ∧ x.num.wf ∧ True ∧ True ∧ (∀ y ∈ x.list, y.wf)) := by rw [yz1.wf]
theorem yz1.z0p (x : yz1) : x.el.cells.length = 6 := by rw [yz1.yz5]; rfl
theorem yz1.zl0 (x : yz1) : x.el = .agg x.el.cells := by rw [yz1.yz5]; rfl
theorem yz1.kin {D : Nat → Nat → Prop} (x : yz1) : V.kin D x.el := by rw [yz1.yz5]; simp only [V.kin, V.zdo, and_true, true_and]; exact z8y fun y hy => yz1.kin y
 termination_by x
 decreasing_by all_goals first | exact yz1.zvj ‹_›
def yz1.ty : Ty yz1 := ⟨yz1.el, 6, yz1.size, yz1.wf, yz1.z0p⟩
structure zz1 where
 op : Int
 value : yz1
 name : List UInt8
 args : List zz1
theorem zz1.zwp {x y : zz1} (h : y ∈ x.args) : SizeOf.sizeOf y < SizeOf.sizeOf x := by cases x; have := List.sizeOf_lt_of_mem h; simp at this ⊢; omega
def zz1.el (x : zz1) : V := .agg [.int .u8 x.op, .int .u8 x.value.kind, .int .i64 x.value.num.num, .int .i64 x.value.num.den, .bool x.value.truth, .str x.value.str, .sl 6 (x.value.list.map yz1.el) false, .str x.name, .sl 9 (x.args.map zz1.el) false]
 termination_by x
 decreasing_by all_goals first | exact zz1.zwp ‹_›
def zz1.size (x : zz1) : Nat := 1 + x.value.size + (x.name.length + 1) + ((x.args.map zz1.size).sum + 1) + 1
 termination_by x
 decreasing_by all_goals first | exact zz1.zwp ‹_›
def zz1.wf (x : zz1) : Prop := (IntKind.u8.min ≤ x.op ∧ x.op ≤ IntKind.u8.max) ∧ x.value.wf ∧ True ∧ (∀ y ∈ x.args, y.wf)
 termination_by x
 decreasing_by all_goals first | exact zz1.zwp ‹_›
theorem zz1.yz5 (x : zz1) : x.el = .agg [.int .u8 x.op, .int .u8 x.value.kind, .int .i64 x.value.num.num, .int .i64 x.value.num.den, .bool x.value.truth, .str x.value.str, .sl 6 (x.value.list.map yz1.el) false, .str x.name, .sl 9 (x.args.map zz1.el) false] := by rw [zz1.el]
theorem zz1.size_eq (x : zz1) : x.size = 1 + x.value.size + (x.name.length + 1) + ((x.args.map zz1.size).sum + 1) + 1 := by rw [zz1.size]
theorem zz1.z3m (x : zz1) : x.wf = ((IntKind.u8.min ≤ x.op ∧ x.op ≤ IntKind.u8.max) ∧ x.value.wf ∧ True ∧ (∀ y ∈ x.args, y.wf)) := by rw [zz1.wf]
theorem zz1.z0p (x : zz1) : x.el.cells.length = 9 := by rw [zz1.yz5]; rfl
theorem zz1.zl0 (x : zz1) : x.el = .agg x.el.cells := by rw [zz1.yz5]; rfl
theorem zz1.kin {D : Nat → Nat → Prop} (x : zz1) : V.kin D x.el := by rw [zz1.yz5]; simp only [V.kin, V.zdo, and_true, true_and]; exact ⟨z8y fun y hy => yz1.kin y, z8y fun y hy => zz1.kin y⟩
 termination_by x
 decreasing_by all_goals first | exact zz1.zwp ‹_›
def zz1.ty : Ty zz1 := ⟨zz1.el, 9, zz1.size, zz1.wf, zz1.z0p⟩
structure kz9 where
 name : List UInt8
 value : zz1
def kz9.el (x : kz9) : V := .agg [.str x.name, .int .u8 x.value.op, .int .u8 x.value.value.kind, .int .i64 x.value.value.num.num, .int .i64 x.value.value.num.den, .bool x.value.value.truth, .str x.value.value.str, .sl 6 (x.value.value.list.map yz1.el) false, .str x.value.name, .sl 9 (x.value.args.map zz1.el) false]
def kz9.size (x : kz9) : Nat := (x.name.length + 1) + x.value.size + 1
def kz9.wf (x : kz9) : Prop := True ∧ x.value.wf
theorem kz9.yz5 (x : kz9) : x.el = .agg [.str x.name, .int .u8 x.value.op, .int .u8 x.value.value.kind, .int .i64 x.value.value.num.num, .int .i64 x.value.value.num.den, .bool x.value.value.truth, .str x.value.value.str, .sl 6 (x.value.value.list.map yz1.el) false, .str x.value.name, .sl 9 (x.value.args.map zz1.el) false] := by rw [kz9.el]
theorem kz9.size_eq (x : kz9) : x.size = (x.name.length + 1) + x.value.size + 1 := by rw [kz9.size]
theorem kz9.z3m (x : kz9) : x.wf = (True ∧ x.value.wf) := by rw [kz9.wf]
theorem kz9.z0p (x : kz9) : x.el.cells.length = 10 := by rw [kz9.yz5]; rfl
theorem kz9.zl0 (x : kz9) : x.el = .agg x.el.cells := by rw [kz9.yz5]; rfl
theorem kz9.kin {D : Nat → Nat → Prop} (x : kz9) : V.kin D x.el := by rw [kz9.yz5]; simp only [V.kin, V.zdo, and_true, true_and]; exact ⟨z8y fun y hy => yz1.kin y, z8y fun y hy => zz1.kin y⟩
def kz9.ty : Ty kz9 := ⟨kz9.el, 10, kz9.size, kz9.wf, kz9.z0p⟩
structure zza where
 kind : Int
 name : List UInt8
 args : List zz1
def zza.el (x : zza) : V := .agg [.int .u8 x.kind, .str x.name, .sl 9 (x.args.map zz1.el) false]
def zza.size (x : zza) : Nat := 1 + (x.name.length + 1) + ((x.args.map zz1.size).sum + 1) + 1
def zza.wf (x : zza) : Prop := (IntKind.u8.min ≤ x.kind ∧ x.kind ≤ IntKind.u8.max) ∧ True ∧ (∀ y ∈ x.args, y.wf)
theorem zza.yz5 (x : zza) : x.el = .agg [.int .u8 x.kind, .str x.name, .sl 9 (x.args.map zz1.el) false] := by rw [zza.el]
theorem zza.size_eq (x : zza) : x.size = 1 + (x.name.length + 1) + ((x.args.map zz1.size).sum + 1) + 1 := by rw [zza.size]
theorem zza.z3m (x : zza) : x.wf = ((IntKind.u8.min ≤ x.kind ∧ x.kind ≤ IntKind.u8.max) ∧ True ∧ (∀ y ∈ x.args, y.wf)) := by rw [zza.wf]
theorem zza.z0p (x : zza) : x.el.cells.length = 3 := by rw [zza.yz5]; rfl
theorem zza.zl0 (x : zza) : x.el = .agg x.el.cells := by rw [zza.yz5]; rfl
theorem zza.kin {D : Nat → Nat → Prop} (x : zza) : V.kin D x.el := by rw [zza.yz5]; simp only [V.kin, V.zdo, and_true, true_and]; exact z8y fun y hy => zz1.kin y
def zza.ty : Ty zza := ⟨zza.el, 3, zza.size, zza.wf, zza.z0p⟩
structure zz3 where
 kind : Int
 axis : Int
 name : List UInt8
 args : List zz1
 items : List zza
def zz3.el (x : zz3) : V := .agg [.int .u8 x.kind, .int .u8 x.axis, .str x.name, .sl 9 (x.args.map zz1.el) false, .sl 3 (x.items.map zza.el) false]
def zz3.size (x : zz3) : Nat := 1 + 1 + (x.name.length + 1) + ((x.args.map zz1.size).sum + 1) + ((x.items.map zza.size).sum + 1) + 1
def zz3.wf (x : zz3) : Prop := (IntKind.u8.min ≤ x.kind ∧ x.kind ≤ IntKind.u8.max) ∧ (IntKind.u8.min ≤ x.axis ∧ x.axis ≤ IntKind.u8.max) ∧ True ∧ (∀ y ∈ x.args, y.wf) ∧ (∀ y ∈ x.items, y.wf)
theorem zz3.yz5 (x : zz3) : x.el = .agg [.int .u8 x.kind, .int .u8 x.axis, .str x.name, .sl 9 (x.args.map zz1.el) false, .sl 3 (x.items.map zza.el) false] := by rw [zz3.el]
theorem zz3.size_eq (x : zz3) : x.size = 1 + 1 + (x.name.length + 1) + ((x.args.map zz1.size).sum + 1) + ((x.items.map zza.size).sum + 1) + 1 := by rw [zz3.size]
theorem zz3.z3m (x : zz3) : x.wf = ((IntKind.u8.min ≤ x.kind ∧ x.kind ≤ IntKind.u8.max) ∧ (IntKind.u8.min ≤ x.axis ∧ x.axis ≤ IntKind.u8.max) ∧ True ∧ (∀ y ∈ x.args, y.wf) ∧ (∀ y ∈ x.items, y.wf)) := by rw [zz3.wf]
theorem zz3.z0p (x : zz3) : x.el.cells.length = 5 := by rw [zz3.yz5]; rfl
theorem zz3.zl0 (x : zz3) : x.el = .agg x.el.cells := by rw [zz3.yz5]; rfl
theorem zz3.kin {D : Nat → Nat → Prop} (x : zz3) : V.kin D x.el := by rw [zz3.yz5]; simp only [V.kin, V.zdo, and_true, true_and]; exact ⟨z8y fun y hy => zz1.kin y, z8y fun y hy => zza.kin y⟩
def zz3.ty : Ty zz3 := ⟨zz3.el, 5, zz3.size, zz3.wf, zz3.z0p⟩
structure zz5 where
 weight : Int
 when_ : zz1
 do_ : List zz3
def zz5.el (x : zz5) : V := .agg [.int .i64 x.weight, .int .u8 x.when_.op, .int .u8 x.when_.value.kind, .int .i64 x.when_.value.num.num, .int .i64 x.when_.value.num.den, .bool x.when_.value.truth, .str x.when_.value.str, .sl 6 (x.when_.value.list.map yz1.el) false, .str x.when_.name, .sl 9 (x.when_.args.map zz1.el) false, .sl 5 (x.do_.map zz3.el) false]
def zz5.size (x : zz5) : Nat := 1 + x.when_.size + ((x.do_.map zz3.size).sum + 1) + 1
def zz5.wf (x : zz5) : Prop := (IntKind.i64.min ≤ x.weight ∧ x.weight ≤ IntKind.i64.max) ∧ x.when_.wf ∧ (∀ y ∈ x.do_, y.wf)
theorem zz5.yz5 (x : zz5) : x.el = .agg [.int .i64 x.weight, .int .u8 x.when_.op, .int .u8 x.when_.value.kind, .int .i64 x.when_.value.num.num, .int .i64 x.when_.value.num.den, .bool x.when_.value.truth, .str x.when_.value.str, .sl 6 (x.when_.value.list.map yz1.el) false, .str x.when_.name, .sl 9 (x.when_.args.map zz1.el) false, .sl 5 (x.do_.map zz3.el) false] := by rw [zz5.el]
theorem zz5.size_eq (x : zz5) : x.size = 1 + x.when_.size + ((x.do_.map zz3.size).sum + 1) + 1 := by rw [zz5.size]
theorem zz5.z3m (x : zz5) : x.wf = ((IntKind.i64.min ≤ x.weight ∧ x.weight ≤ IntKind.i64.max) ∧ x.when_.wf ∧ (∀ y ∈ x.do_, y.wf)) := by rw [zz5.wf]
theorem zz5.z0p (x : zz5) : x.el.cells.length = 11 := by rw [zz5.yz5]; rfl
theorem zz5.zl0 (x : zz5) : x.el = .agg x.el.cells := by rw [zz5.yz5]; rfl
theorem zz5.kin {D : Nat → Nat → Prop} (x : zz5) : V.kin D x.el := by rw [zz5.yz5]; simp only [V.kin, V.zdo, and_true, true_and]; exact ⟨z8y fun y hy => yz1.kin y, z8y fun y hy => zz1.kin y, z8y fun y hy => zz3.kin y⟩
def zz5.ty : Ty zz5 := ⟨zz5.el, 11, zz5.size, zz5.wf, zz5.z0p⟩
structure kz4 where
 name : List UInt8
 params : List (List UInt8)
 cases : List zz5
def kz4.el (x : kz4) : V := .agg [.str x.name, .sl 1 (x.params.map V.str) false, .sl 11 (x.cases.map zz5.el) false]
def kz4.size (x : kz4) : Nat := (x.name.length + 1) + ((x.params.map (fun s => s.length + 1)).sum + 1) + ((x.cases.map zz5.size).sum + 1) + 1
def kz4.wf (x : kz4) : Prop := True ∧ (∀ y ∈ x.params, True) ∧ (∀ y ∈ x.cases, y.wf)
theorem kz4.yz5 (x : kz4) : x.el = .agg [.str x.name, .sl 1 (x.params.map V.str) false, .sl 11 (x.cases.map zz5.el) false] := by rw [kz4.el]
theorem kz4.size_eq (x : kz4) : x.size = (x.name.length + 1) + ((x.params.map (fun s => s.length + 1)).sum + 1) + ((x.cases.map zz5.size).sum + 1) + 1 := by rw [kz4.size]
theorem kz4.z3m (x : kz4) : x.wf = (True ∧ (∀ y ∈ x.params, True) ∧ (∀ y ∈ x.cases, y.wf)) := by rw [kz4.wf]
theorem kz4.z0p (x : kz4) : x.el.cells.length = 3 := by rw [kz4.yz5]; rfl
theorem kz4.zl0 (x : kz4) : x.el = .agg x.el.cells := by rw [kz4.yz5]; rfl
theorem kz4.kin {D : Nat → Nat → Prop} (x : kz4) : V.kin D x.el := by rw [kz4.yz5]; simp only [V.kin, V.zdo, and_true, true_and]; exact ⟨z8y fun _ _ => by simp [V.kin], z8y fun y hy => zz5.kin y⟩
def kz4.ty : Ty kz4 := ⟨kz4.el, 3, kz4.size, kz4.wf, kz4.z0p⟩
structure yz0 where
 attrs : List kz9
 rules : List kz4
def yz0.el (x : yz0) : V := .agg [.sl 10 (x.attrs.map kz9.el) false, .sl 3 (x.rules.map kz4.el) false]
def yz0.size (x : yz0) : Nat := ((x.attrs.map kz9.size).sum + 1) + ((x.rules.map kz4.size).sum + 1) + 1
def yz0.wf (x : yz0) : Prop := (∀ y ∈ x.attrs, y.wf) ∧ (∀ y ∈ x.rules, y.wf)
theorem yz0.yz5 (x : yz0) : x.el = .agg [.sl 10 (x.attrs.map kz9.el) false, .sl 3 (x.rules.map kz4.el) false] := by rw [yz0.el]
theorem yz0.size_eq (x : yz0) : x.size = ((x.attrs.map kz9.size).sum + 1) + ((x.rules.map kz4.size).sum + 1) + 1 := by rw [yz0.size]
theorem yz0.z3m (x : yz0) : x.wf = ((∀ y ∈ x.attrs, y.wf) ∧ (∀ y ∈ x.rules, y.wf)) := by rw [yz0.wf]
theorem yz0.z0p (x : yz0) : x.el.cells.length = 2 := by rw [yz0.yz5]; rfl
theorem yz0.zl0 (x : yz0) : x.el = .agg x.el.cells := by rw [yz0.yz5]; rfl
theorem yz0.kin {D : Nat → Nat → Prop} (x : yz0) : V.kin D x.el := by rw [yz0.yz5]; simp only [V.kin, V.zdo, and_true, true_and]; exact ⟨z8y fun y hy => kz9.kin y, z8y fun y hy => kz4.kin y⟩
def yz0.ty : Ty yz0 := ⟨yz0.el, 2, yz0.size, yz0.wf, yz0.z0p⟩
structure kzk where
 name : List UInt8
 many : Int
def kzk.el (x : kzk) : V := .agg [.str x.name, .int .i64 x.many]
def kzk.size (x : kzk) : Nat := (x.name.length + 1) + 1 + 1
def kzk.wf (x : kzk) : Prop := True ∧ (IntKind.i64.min ≤ x.many ∧ x.many ≤ IntKind.i64.max)
theorem kzk.yz5 (x : kzk) : x.el = .agg [.str x.name, .int .i64 x.many] := by rw [kzk.el]
theorem kzk.size_eq (x : kzk) : x.size = (x.name.length + 1) + 1 + 1 := by rw [kzk.size]
theorem kzk.z3m (x : kzk) : x.wf = (True ∧ (IntKind.i64.min ≤ x.many ∧ x.many ≤ IntKind.i64.max)) := by rw [kzk.wf]
theorem kzk.z0p (x : kzk) : x.el.cells.length = 2 := by rw [kzk.yz5]; rfl
theorem kzk.zl0 (x : kzk) : x.el = .agg x.el.cells := by rw [kzk.yz5]; rfl
theorem kzk.kin {D : Nat → Nat → Prop} (x : kzk) : V.kin D x.el := by rw [kzk.yz5]; simp only [V.kin, V.zdo, and_true, true_and]
def kzk.ty : Ty kzk := ⟨kzk.el, 2, kzk.size, kzk.wf, kzk.z0p⟩
structure yzy where
 name : List UInt8
 many : Int
def yzy.el (x : yzy) : V := .agg [.str x.name, .int .i64 x.many]
def yzy.size (x : yzy) : Nat := (x.name.length + 1) + 1 + 1
def yzy.wf (x : yzy) : Prop := True ∧ (IntKind.i64.min ≤ x.many ∧ x.many ≤ IntKind.i64.max)
theorem yzy.yz5 (x : yzy) : x.el = .agg [.str x.name, .int .i64 x.many] := by rw [yzy.el]
theorem yzy.size_eq (x : yzy) : x.size = (x.name.length + 1) + 1 + 1 := by rw [yzy.size]
theorem yzy.z3m (x : yzy) : x.wf = (True ∧ (IntKind.i64.min ≤ x.many ∧ x.many ≤ IntKind.i64.max)) := by rw [yzy.wf]
theorem yzy.z0p (x : yzy) : x.el.cells.length = 2 := by rw [yzy.yz5]; rfl
theorem yzy.zl0 (x : yzy) : x.el = .agg x.el.cells := by rw [yzy.yz5]; rfl
theorem yzy.kin {D : Nat → Nat → Prop} (x : yzy) : V.kin D x.el := by rw [yzy.yz5]; simp only [V.kin, V.zdo, and_true, true_and]
def yzy.ty : Ty yzy := ⟨yzy.el, 2, yzy.size, yzy.wf, yzy.z0p⟩
end Go.Ab


namespace Go.Ab
open Go
set_option linter.unusedVariables false
def yz1.re (x : yz1) : yz1 := ⟨x.kind, x.num, x.truth, x.str, x.list⟩
@[simp] theorem yz1.yz4 (x : yz1) : x.re = x := by cases x; simp [yz1.re]
def zz1.re (x : zz1) : zz1 := ⟨x.op, x.value.re, x.name, x.args⟩
@[simp] theorem zz1.yz4 (x : zz1) : x.re = x := by cases x; simp [zz1.re]
def kz9.re (x : kz9) : kz9 := ⟨x.name, x.value.re⟩
@[simp] theorem kz9.yz4 (x : kz9) : x.re = x := by cases x; simp [kz9.re]
def zz5.re (x : zz5) : zz5 := ⟨x.weight, x.when_.re, x.do_⟩
@[simp] theorem zz5.yz4 (x : zz5) : x.re = x := by cases x; simp [zz5.re]
def datT : Nat → Type
 | 0 => yz6
 | 1 => yz1
 | 2 => zz1
 | 3 => kz9
 | 4 => zza
 | 5 => zz3
 | 6 => zz5
 | 7 => kz4
 | 8 => yz0
 | 9 => kzk
 | 10 => yzy
 | _ => Unit
def zqj : Nat → List DTy
 | 0 => [.int .i64, .int .i64]
 | 1 => [.int .u8, .int .i64, .int .i64, .bool, .str, .sl (.st 1)]
 | 2 => [.int .u8, .int .u8, .int .i64, .int .i64, .bool, .str, .sl (.st 1), .str, .sl (.st 2)]
 | 3 => [.str, .int .u8, .int .u8, .int .i64, .int .i64, .bool, .str, .sl (.st 1), .str, .sl (.st 2)]
 | 4 => [.int .u8, .str, .sl (.st 2)]
 | 5 => [.int .u8, .int .u8, .str, .sl (.st 2), .sl (.st 4)]
 | 6 => [.int .i64, .int .u8, .int .u8, .int .i64, .int .i64, .bool, .str, .sl (.st 1), .str, .sl (.st 2), .sl (.st 5)]
 | 7 => [.str, .sl .str, .sl (.st 6)]
 | 8 => [.sl (.st 3), .sl (.st 7)]
 | 9 => [.str, .int .i64]
 | 10 => [.str, .int .i64]
 | _ => []
def yro : List (Nat × DTy) := [(2, .int .i64), (3, .int .i64), (4, .bool), (5, .int .u8), (6, .int .u8), (9, .str), (10, .str), (11, .str), (12, .int .u64), (21, .int .i32), (22, .sl (.st 3)), (23, .sl (.st 7)), (25, .st 8), (27, .sl .str), (28, .int .i64), (40, .st 0), (41, .sl (.st 1)), (43, .st 1), (44, .sl (.st 2)), (46, .st 2), (48, .st 3), (49, .sl (.st 6)), (51, .st 7), (53, .sl (.st 5)), (55, .st 6), (57, .sl (.st 9)), (60, .st 9), (65, .sl (.st 10)), (69, .st 10), (86, .sl (.st 4)), (88, .st 5), (90, .st 4), (96, .int .u64), (113, .int .i64), (121, .int .u32), (123, .int .u64), (137, .int .u64), (161, .int .u8), (162, .int .u8), (165, .int .i32), (166, .int .i32)]
def dat : Dat where
 T := datT
 fl := zqj
 get := fun i => match i with
  | 0 => fun (x : yz6) => (x.num, x.den, ())
  | 1 => fun (x : yz1) => (x.kind, x.num.num, x.num.den, x.truth, x.str, x.list, ())
  | 2 => fun (x : zz1) => (x.op, x.value.kind, x.value.num.num, x.value.num.den, x.value.truth, x.value.str, x.value.list, x.name, x.args, ())
  | 3 => fun (x : kz9) => (x.name, x.value.op, x.value.value.kind, x.value.value.num.num, x.value.value.num.den, x.value.value.truth, x.value.value.str, x.value.value.list, x.value.name, x.value.args, ())
  | 4 => fun (x : zza) => (x.kind, x.name, x.args, ())
  | 5 => fun (x : zz3) => (x.kind, x.axis, x.name, x.args, x.items, ())
  | 6 => fun (x : zz5) => (x.weight, x.when_.op, x.when_.value.kind, x.when_.value.num.num, x.when_.value.num.den, x.when_.value.truth, x.when_.value.str, x.when_.value.list, x.when_.name, x.when_.args, x.do_, ())
  | 7 => fun (x : kz4) => (x.name, x.params, x.cases, ())
  | 8 => fun (x : yz0) => (x.attrs, x.rules, ())
  | 9 => fun (x : kzk) => (x.name, x.many, ())
  | 10 => fun (x : yzy) => (x.name, x.many, ())
  | _ + 11 => fun _ => ()
 make := fun i => match i with
  | 0 => fun x => yz6.mk x.1 x.2.1
  | 1 => fun x => yz1.mk x.1 (yz6.mk x.2.1 x.2.2.1) x.2.2.2.1 x.2.2.2.2.1 x.2.2.2.2.2.1
  | 2 => fun x => zz1.mk x.1 (yz1.mk x.2.1 (yz6.mk x.2.2.1 x.2.2.2.1) x.2.2.2.2.1 x.2.2.2.2.2.1 x.2.2.2.2.2.2.1) x.2.2.2.2.2.2.2.1 x.2.2.2.2.2.2.2.2.1
  | 3 => fun x => kz9.mk x.1 (zz1.mk x.2.1 (yz1.mk x.2.2.1 (yz6.mk x.2.2.2.1 x.2.2.2.2.1) x.2.2.2.2.2.1 x.2.2.2.2.2.2.1 x.2.2.2.2.2.2.2.1) x.2.2.2.2.2.2.2.2.1 x.2.2.2.2.2.2.2.2.2.1)
  | 4 => fun x => zza.mk x.1 x.2.1 x.2.2.1
  | 5 => fun x => zz3.mk x.1 x.2.1 x.2.2.1 x.2.2.2.1 x.2.2.2.2.1
  | 6 => fun x => zz5.mk x.1 (zz1.mk x.2.1 (yz1.mk x.2.2.1 (yz6.mk x.2.2.2.1 x.2.2.2.2.1) x.2.2.2.2.2.1 x.2.2.2.2.2.2.1 x.2.2.2.2.2.2.2.1) x.2.2.2.2.2.2.2.2.1 x.2.2.2.2.2.2.2.2.2.1) x.2.2.2.2.2.2.2.2.2.2.1
  | 7 => fun x => kz4.mk x.1 x.2.1 x.2.2.1
  | 8 => fun x => yz0.mk x.1 x.2.1
  | 9 => fun x => kzk.mk x.1 x.2.1
  | 10 => fun x => yzy.mk x.1 x.2.1
  | _ + 11 => fun _ => ()
 enc := fun i => match i with
  | 0 => yz6.el
  | 1 => yz1.el
  | 2 => zz1.el
  | 3 => kz9.el
  | 4 => zza.el
  | 5 => zz3.el
  | 6 => zz5.el
  | 7 => kz4.el
  | 8 => yz0.el
  | 9 => kzk.el
  | 10 => yzy.el
  | _ + 11 => fun _ => .agg []
 ty := fnd yro
end Go.Ab


namespace Go.Ab
open Go
set_option linter.unusedVariables false
theorem yz2 (P : Program) : dat.Ok P where
 enc := fun i => match i with
  | 0 => fun x => yz6.yz5 x
  | 1 => fun x => yz1.yz5 x
  | 2 => fun x => zz1.yz5 x
  | 3 => fun x => kz9.yz5 x
  | 4 => fun x => zza.yz5 x
  | 5 => fun x => zz3.yz5 x
  | 6 => fun x => zz5.yz5 x
  | 7 => fun x => kz4.yz5 x
  | 8 => fun x => yz0.yz5 x
  | 9 => fun x => kzk.yz5 x
  | 10 => fun x => yzy.yz5 x
  | _ + 11 => fun _ => rfl
 getMake := fun i => match i with
  | 0 => fun x => rfl
  | 1 => fun x => rfl
  | 2 => fun x => rfl
  | 3 => fun x => rfl
  | 4 => fun x => rfl
  | 5 => fun x => rfl
  | 6 => fun x => rfl
  | 7 => fun x => rfl
  | 8 => fun x => rfl
  | 9 => fun x => rfl
  | 10 => fun x => rfl
  | _ + 11 => fun _ => rfl
 flat := fun i => match i with
  | 0 => fun t h => by simp only [dat, zqj, List.mem_cons, List.not_mem_nil, or_false] at h; rcases h with rfl | rfl <;> trivial
  | 1 => fun t h => by simp only [dat, zqj, List.mem_cons, List.not_mem_nil, or_false] at h; rcases h with rfl | rfl | rfl | rfl | rfl | rfl <;> trivial
  | 2 => fun t h => by simp only [dat, zqj, List.mem_cons, List.not_mem_nil, or_false] at h; rcases h with rfl | rfl | rfl | rfl | rfl | rfl | rfl | rfl | rfl <;> trivial
  | 3 => fun t h => by simp only [dat, zqj, List.mem_cons, List.not_mem_nil, or_false] at h; rcases h with rfl | rfl | rfl | rfl | rfl | rfl | rfl | rfl | rfl | rfl <;> trivial
  | 4 => fun t h => by simp only [dat, zqj, List.mem_cons, List.not_mem_nil, or_false] at h; rcases h with rfl | rfl | rfl <;> trivial
  | 5 => fun t h => by simp only [dat, zqj, List.mem_cons, List.not_mem_nil, or_false] at h; rcases h with rfl | rfl | rfl | rfl | rfl <;> trivial
  | 6 => fun t h => by simp only [dat, zqj, List.mem_cons, List.not_mem_nil, or_false] at h; rcases h with rfl | rfl | rfl | rfl | rfl | rfl | rfl | rfl | rfl | rfl | rfl <;> trivial
  | 7 => fun t h => by simp only [dat, zqj, List.mem_cons, List.not_mem_nil, or_false] at h; rcases h with rfl | rfl | rfl <;> trivial
  | 8 => fun t h => by simp only [dat, zqj, List.mem_cons, List.not_mem_nil, or_false] at h; rcases h with rfl | rfl <;> trivial
  | 9 => fun t h => by simp only [dat, zqj, List.mem_cons, List.not_mem_nil, or_false] at h; rcases h with rfl | rfl <;> trivial
  | 10 => fun t h => by simp only [dat, zqj, List.mem_cons, List.not_mem_nil, or_false] at h; rcases h with rfl | rfl <;> trivial
  | _ + 11 => fun t h => by cases h
 ty := fun e t h => by
  have := zcu h
  simp only [yro, List.mem_cons, Prod.mk.injEq, List.not_mem_nil, or_false] at this
  rcases this with ⟨_, rfl⟩ | ⟨_, rfl⟩ | ⟨_, rfl⟩ | ⟨_, rfl⟩ | ⟨_, rfl⟩ | ⟨_, rfl⟩ | ⟨_, rfl⟩ | ⟨_, rfl⟩ | ⟨_, rfl⟩ | ⟨_, rfl⟩ | ⟨_, rfl⟩ | ⟨_, rfl⟩ | ⟨_, rfl⟩ | ⟨_, rfl⟩ | ⟨_, rfl⟩ | ⟨_, rfl⟩ | ⟨_, rfl⟩ | ⟨_, rfl⟩ | ⟨_, rfl⟩ | ⟨_, rfl⟩ | ⟨_, rfl⟩ | ⟨_, rfl⟩ | ⟨_, rfl⟩ | ⟨_, rfl⟩ | ⟨_, rfl⟩ | ⟨_, rfl⟩ | ⟨_, rfl⟩ | ⟨_, rfl⟩ | ⟨_, rfl⟩ | ⟨_, rfl⟩ | ⟨_, rfl⟩ | ⟨_, rfl⟩ | ⟨_, rfl⟩ | ⟨_, rfl⟩ | ⟨_, rfl⟩ | ⟨_, rfl⟩ | ⟨_, rfl⟩ | ⟨_, rfl⟩ | ⟨_, rfl⟩ | ⟨_, rfl⟩ | ⟨_, rfl⟩ <;> simp
 kin := fun i => match i with
  | 0 => fun x _ => yz6.kin x
  | 1 => fun x _ => yz1.kin x
  | 2 => fun x _ => zz1.kin x
  | 3 => fun x _ => kz9.kin x
  | 4 => fun x _ => zza.kin x
  | 5 => fun x _ => zz3.kin x
  | 6 => fun x _ => zz5.kin x
  | 7 => fun x _ => kz4.kin x
  | 8 => fun x _ => yz0.kin x
  | 9 => fun x _ => kzk.kin x
  | 10 => fun x _ => yzy.kin x
  | _ + 11 => fun _ _ => by simp only [dat, V.kin, V.zdo]
end Go.Ab


namespace Go.Proofs
open Go.Shelf
def Tryz.ykw : Go.Shelf.Ren := ⟨fun | 190 => 18 | 125 => 52 | 258 => 51 | 128 => 87 | 129 => 88 | 302 => 78 | 303 => 79 | 304 => 80 | 305 => 81 | 306 => 82 | 307 => 83 | 308 => 84 | 309 => 85 | 310 => 86 | 333 => 108 | 329 => 109 | 330 => 110 | 334 => 111 | 335 => 112 | 336 => 113 | 344 => 125 | n => n, fun | 31 => 27 | 9 => 9 | 3 => 3 | 46 => 96 | 0 => 0 | 51 => 121 | 53 => 123 | 4 => 4 | 183 => 114 | 182 => 113 | 131 => 73 | 5 => 5 | 218 => 137 | 222 => 141 | 228 => 146 | 229 => 126 | n => n, fun | n => n⟩
theorem Tryz.yoh : Go.Proofs.Lays.n190 Tryz.prog Tryz.ykw := {
 mixed := by kernel_rfl
 f125 := Tryz.func52.trans (congrArg some (by kernel_rfl))
 f128 := Tryz.func87.trans (congrArg some (by kernel_rfl))
 f129 := Tryz.func88.trans (congrArg some (by kernel_rfl))
 f190 := Tryz.func18.trans (congrArg some (by kernel_rfl))
 f258 := Tryz.func51.trans (congrArg some (by kernel_rfl))
 f302 := Tryz.func78.trans (congrArg some (by kernel_rfl))
 f303 := Tryz.func79.trans (congrArg some (by kernel_rfl))
 f304 := Tryz.func80.trans (congrArg some (by kernel_rfl))
 f305 := Tryz.func81.trans (congrArg some (by kernel_rfl))
 f306 := Tryz.func82.trans (congrArg some (by kernel_rfl))
 f307 := Tryz.func83.trans (congrArg some (by kernel_rfl))
 f308 := Tryz.func84.trans (congrArg some (by kernel_rfl))
 f309 := Tryz.func85.trans (congrArg some (by kernel_rfl))
 f310 := Tryz.func86.trans (congrArg some (by kernel_rfl))
 f329 := Tryz.func109.trans (congrArg some (by kernel_rfl))
 f330 := Tryz.func110.trans (congrArg some (by kernel_rfl))
 f333 := Tryz.func108.trans (congrArg some (by kernel_rfl))
 f334 := Tryz.func111.trans (congrArg some (by kernel_rfl))
 f335 := Tryz.func112.trans (congrArg some (by kernel_rfl))
 f336 := Tryz.func113.trans (congrArg some (by kernel_rfl))
 f344 := Tryz.func125.trans (congrArg some (by kernel_rfl))
 t0 := Tryz.underlying0
 a0 := Tryz.isAgg0
 z0 := Tryz.sizeOf0
 v0 := Tryz.zeroValue0
 t3 := Tryz.underlying3
 a3 := Tryz.isAgg3
 z3 := Tryz.sizeOf3
 v3 := Tryz.zeroValue3
 t4 := Tryz.underlying4
 a4 := Tryz.isAgg4
 z4 := Tryz.sizeOf4
 v4 := Tryz.zeroValue4
 t5 := Tryz.underlying5
 a5 := Tryz.isAgg5
 z5 := Tryz.sizeOf5
 v5 := Tryz.zeroValue5
 t9 := Tryz.underlying9
 a9 := Tryz.isAgg9
 z9 := Tryz.sizeOf9
 v9 := Tryz.zeroValue9
 t31 := Tryz.underlying27
 a31 := Tryz.isAgg27
 z31 := Tryz.sizeOf27
 v31 := Tryz.zeroValue27
 t46 := Tryz.underlying96
 a46 := Tryz.isAgg96
 z46 := Tryz.sizeOf96
 v46 := Tryz.zeroValue96
 t51 := Tryz.underlying121
 a51 := Tryz.isAgg121
 z51 := Tryz.sizeOf121
 v51 := Tryz.zeroValue121
 t53 := Tryz.underlying123
 a53 := Tryz.isAgg123
 z53 := Tryz.sizeOf123
 v53 := Tryz.zeroValue123
 t131 := Tryz.underlying73
 a131 := Tryz.isAgg73
 z131 := Tryz.sizeOf73
 v131 := Tryz.zeroValue73
 t182 := Tryz.underlying113
 a182 := Tryz.isAgg113
 z182 := Tryz.sizeOf113
 v182 := Tryz.zeroValue113
 t183 := Tryz.underlying114
 a183 := Tryz.isAgg114
 z183 := Tryz.sizeOf114
 v183 := Tryz.zeroValue114
 t218 := Tryz.underlying137
 a218 := Tryz.isAgg137
 z218 := Tryz.sizeOf137
 v218 := Tryz.zeroValue137
 t222 := Tryz.underlying141
 a222 := Tryz.isAgg141
 z222 := Tryz.sizeOf141
 v222 := Tryz.zeroValue141
 t228 := Tryz.underlying146
 a228 := Tryz.isAgg146
 z228 := Tryz.sizeOf146
 v228 := Tryz.zeroValue146
 t229 := Tryz.underlying126
 a229 := Tryz.isAgg126
 z229 := Tryz.sizeOf126
 v229 := Tryz.zeroValue126 }
def Tryz.yiv : Go.Shelf.Ren := ⟨fun | 194 => 19 | n => n, fun | 31 => 27 | 9 => 9 | 3 => 3 | 4 => 4 | 0 => 0 | n => n, fun | n => n⟩
theorem Tryz.yog : Go.Proofs.Lays.n194 Tryz.prog Tryz.yiv := {
 mixed := by kernel_rfl
 f194 := Tryz.func19.trans (congrArg some (by kernel_rfl))
 t0 := Tryz.underlying0
 a0 := Tryz.isAgg0
 z0 := Tryz.sizeOf0
 v0 := Tryz.zeroValue0
 t3 := Tryz.underlying3
 a3 := Tryz.isAgg3
 z3 := Tryz.sizeOf3
 v3 := Tryz.zeroValue3
 t4 := Tryz.underlying4
 a4 := Tryz.isAgg4
 z4 := Tryz.sizeOf4
 v4 := Tryz.zeroValue4
 t9 := Tryz.underlying9
 a9 := Tryz.isAgg9
 z9 := Tryz.sizeOf9
 v9 := Tryz.zeroValue9
 t31 := Tryz.underlying27
 a31 := Tryz.isAgg27
 z31 := Tryz.sizeOf27
 v31 := Tryz.zeroValue27 }
end Go.Proofs


namespace Go.Proofs.YtflgdagdibabiaaGreat
open Go Go.Ab
set_option linter.unusedVariables false
def kzp : Nat → List (List UInt8) → Option (List (List UInt8)) := fun _ xs => if xs.length < 4611686018427387904 then some (z2f xs) else none
noncomputable def zzs : FI dat := ym2 dat 18 9 kzp
theorem z7t : FOk Tryz.prog zzs :=
 yto (fun _ _ => Tryz.call18 _ _) (fun blk cap ss w h1 h2 h3 => Any.slices_Sort_string Tryz.yoh blk 0 cap ss w h1 h2 h3) (fun p cap w => Any.slices_Sort_string_none Tryz.yoh p cap w)
def z5a : Nat → List (List UInt8) → Option (List (List UInt8)) := fun _ xs => if xs.length ≤ 9223372036854775807 then some (zqg xs) else none
noncomputable def z5z : FI dat := zyi dat 19 9 z5a
theorem zhn : FOk Tryz.prog z5z :=
 ynu (fun _ _ => Tryz.call19 _ _) (fun blk cap zs w h1 h2 h3 => Any.slices_Compact_string Tryz.yog blk 0 cap zs w h1 h2 h3) (fun p cap w => Any.slices_Compact_string_empty Tryz.yog p cap w)
end Go.Proofs.YtflgdagdibabiaaGreat


namespace Go.Proofs.YtflgdagdibabiaaGreat
open Go Go.Ab
set_option linter.unusedVariables false
set_option maxRecDepth 100000
set_option maxHeartbeats 4000000
mutual
def z9b : Nat → yz1 → Int → Option Bool
 | 0, _, _ => none
 | n + 1, a0, a1 =>
   pIf (a1 == 0)
     (z26 n a1 true a0.re)
     (pIf (decide ((a0.str.length : Int) > 200))
       (z26 n a1 true a0.re)
       (z26 n a1 (decide ((a0.list.length : Int) > 150)) a0.re))
def z26 : Nat → Int → Bool → yz1 → Option Bool
 | 0, _, _, _ => none
 | n + 1, a0, a1, a2 =>
   pIf a1
     (some true)
     (z50 n 0 a0 a2.re)
def z50 : Nat → Int → Int → yz1 → Option Bool
 | 0, _, _, _ => none
 | n + 1, a0, a1, a2 =>
   pIf (decide (a0 < (a2.list.length : Int)))
     ((ix a2.list a0).bind fun x0 =>
     (z9b n x0.re (IntKind.i64.wrap (a1 - 1))).bind fun y1 =>
     pIf y1
       (some true)
       (z50 n (IntKind.i64.wrap (a0 + 1)) a1 a2.re))
     (some false)
end
def y92 : LSh := ⟨[(4, (.d .bool))], [], 0, 35⟩
noncomputable def zcf : FI dat := FI.of dat 106 35 0 [(.d (.st 1)), (.d (.int .i64))] [] [(.d .bool)] [] true y92 (R := Bool) (fun x => x.1) (fun r => (r, ())) (fun n x => z9b n x.1 x.2.1)
 (fun n => [(0, ⟨⟨[(1, (.d (.int .i64))), (2, (.ptr 0 0)), (19, (.d .bool))], [(.st 1)], 0, 35⟩, fun x => z26 n x.1 x.2.1 x.2.2.1⟩), (1, ⟨⟨[(5, (.d (.int .i64))), (1, (.d (.int .i64))), (2, (.ptr 0 0))], [(.st 1)], 0, 35⟩, fun x => z50 n x.1 x.2.1 x.2.2.1⟩)]) (ann [(5, 0), (14, 1)] (Tryz.f106.body.getD .skip) 0).1
noncomputable def y7x : List (FI dat) := [zcf] ++ []
theorem y8z : (zcf).Good Tryz.prog dat (tb y7x) := FI.zz4 (hD := yz2 _) Tryz.func106 Tryz.ntmps106 Tryz.call106 (by kernel_rfl) (of_decide_eq_true (by kernel_rfl)) (by kernel_rfl) (fun n => by kernel_rfl) (fun x => by kernel_rfl) (fun _ => rfl) ⟨fun _ => rfl, fun _ => rfl, trivial⟩
 (fun n => fun x => (z9b.eq_2 x.1 x.2.1 n).trans (by kernel_rfl))
 (fun n => ⟨fun x => (z26.eq_2 x.1 x.2.1 x.2.2.1 n).trans (by kernel_rfl),
  fun x => (z50.eq_2 x.1 x.2.1 x.2.2.1 n).trans (by kernel_rfl),
  trivial⟩)
 (fun x => .inl rfl)
theorem yc8 : OkL Tryz.prog [zcf] := z9e (yz2 _) (bs := []) trivial ⟨y8z, trivial⟩
theorem y6u : FOk Tryz.prog zcf := yc8.1
mutual
def z6x : Nat → yz1 → Option Int
 | 0, _ => none
 | n + 1, a0 =>
   z3w n 0 1 a0.re
def z3w : Nat → Int → Int → yz1 → Option Int
 | 0, _, _, _ => none
 | n + 1, a0, a1, a2 =>
   pIf (decide (a0 < (a2.list.length : Int)))
     (z4l n a0 a1 (a2.kind == 4) a2.re)
     (z4l n a0 a1 false a2.re)
def z4l : Nat → Int → Int → Bool → yz1 → Option Int
 | 0, _, _, _, _ => none
 | n + 1, a0, a1, a2, a3 =>
   pIf a2
     ((ix a3.list a0).bind fun x0 =>
     (z6x n x0.re).bind fun y1 =>
     z3w n (IntKind.i64.wrap (a0 + 1)) (IntKind.i64.wrap (a1 + y1)) a3.re)
     (some a1)
end
def y9r : LSh := ⟨[(2, (.d (.int .i64)))], [], 0, 26⟩
noncomputable def z8n : FI dat := FI.of dat 107 26 0 [(.d (.st 1))] [] [(.d (.int .i64))] [] true y9r (R := Int) (fun x => x.1) (fun r => (r, ())) (fun n x => z6x n x.1)
 (fun n => [(0, ⟨⟨[(4, (.d (.int .i64))), (1, (.ptr 0 0)), (3, (.d (.int .i64)))], [(.st 1)], 0, 26⟩, fun x => z3w n x.1 x.2.1 x.2.2.1⟩), (1, ⟨⟨[(1, (.ptr 0 0)), (4, (.d (.int .i64))), (3, (.d (.int .i64))), (14, (.d .bool))], [(.st 1)], 0, 26⟩, fun x => z4l n x.1 x.2.1 x.2.2.1 x.2.2.2.1⟩)]) (ann [(8, 0), (12, 1)] (Tryz.f107.body.getD .skip) 0).1
noncomputable def y9q : List (FI dat) := [z8n] ++ []
theorem yc9 : (z8n).Good Tryz.prog dat (tb y9q) := FI.zz4 (hD := yz2 _) Tryz.func107 Tryz.ntmps107 Tryz.call107 (by kernel_rfl) (of_decide_eq_true (by kernel_rfl)) (by kernel_rfl) (fun n => by kernel_rfl) (fun x => by kernel_rfl) (fun _ => rfl) ⟨fun _ => rfl, fun _ => rfl, trivial⟩
 (fun n => fun x => (z6x.eq_2 x.1 n).trans (by kernel_rfl))
 (fun n => ⟨fun x => (z3w.eq_2 x.1 x.2.1 x.2.2.1 n).trans (by kernel_rfl),
  fun x => (z4l.eq_2 x.1 x.2.1 x.2.2.1 x.2.2.2.1 n).trans (by kernel_rfl),
  trivial⟩)
 (fun x => .inl rfl)
theorem y7z : OkL Tryz.prog [z8n] := z9e (yz2 _) (bs := []) trivial ⟨yc9, trivial⟩
theorem zrw : FOk Tryz.prog z8n := y7z.1
def zbe : Nat → yz1 → Option Bool
 | 0, _ => none
 | n + 1, a0 =>
   (z9b n a0.re 10).bind fun y0 =>
   pIf y0
     (some true)
     ((z6x n a0.re).bind fun y1 =>
     some (decide (y1 > 150)))
def y9f : LSh := ⟨[(2, (.d .bool))], [], 0, 10⟩
noncomputable def zfh : FI dat := FI.of dat 77 10 0 [(.d (.st 1))] [] [(.d .bool)] [] true y9f (R := Bool) (fun x => x.1) (fun r => (r, ())) (fun n x => zbe n x.1)
 (fun n => []) (ann [] (Tryz.f77.body.getD .skip) 0).1
noncomputable def y83 : List (FI dat) := [zcf, z8n]
theorem ybm : (zfh).Good Tryz.prog dat (tb y83) := FI.zz4 (hD := yz2 _) Tryz.func77 Tryz.ntmps77 Tryz.call77 (by kernel_rfl) (of_decide_eq_true (by kernel_rfl)) (by kernel_rfl) (fun n => by kernel_rfl) (fun x => by kernel_rfl) (fun _ => rfl) trivial
 (fun n => fun x => (zbe.eq_2 x.1 n).trans (by kernel_rfl))
 (fun n => trivial)
 (fun x => .inl rfl)
theorem yax : OkL Tryz.prog [zfh] := yz7 (yz2 _) (bs := [zcf, z8n]) ⟨y6u, zrw, trivial⟩ ybm
theorem y5r : FOk Tryz.prog zfh := yax.1
mutual
def z9c : Nat → zz1 → Int → Option Bool
 | 0, _, _ => none
 | n + 1, a0, a1 =>
   pIf (a1 == 0)
     (z15 n a1 true a0.re)
     (pIf (decide ((a0.args.length : Int) > 150))
       (z15 n a1 true a0.re)
       (pIf (decide ((a0.name.length : Int) > 200))
         (z15 n a1 true a0.re)
         ((zbe n a0.value.re).bind fun y0 =>
         z15 n a1 y0 a0.re)))
def z15 : Nat → Int → Bool → zz1 → Option Bool
 | 0, _, _, _ => none
 | n + 1, a0, a1, a2 =>
   pIf a1
     (some true)
     (z4d n 0 a0 a2.re)
def z4d : Nat → Int → Int → zz1 → Option Bool
 | 0, _, _, _ => none
 | n + 1, a0, a1, a2 =>
   pIf (decide (a0 < (a2.args.length : Int)))
     ((ix a2.args a0).bind fun x1 =>
     (z9c n x1.re (IntKind.i64.wrap (a1 - 1))).bind fun y2 =>
     pIf y2
       (some true)
       (z4d n (IntKind.i64.wrap (a0 + 1)) a1 a2.re))
     (some false)
end
def y8v : LSh := ⟨[(4, (.d .bool))], [], 0, 40⟩
noncomputable def zch : FI dat := FI.of dat 45 40 0 [(.d (.st 2)), (.d (.int .i64))] [] [(.d .bool)] [] true y8v (R := Bool) (fun x => x.1) (fun r => (r, ())) (fun n x => z9c n x.1 x.2.1)
 (fun n => [(0, ⟨⟨[(1, (.d (.int .i64))), (2, (.ptr 0 0)), (24, (.d .bool))], [(.st 2)], 0, 40⟩, fun x => z15 n x.1 x.2.1 x.2.2.1⟩), (1, ⟨⟨[(5, (.d (.int .i64))), (1, (.d (.int .i64))), (2, (.ptr 0 0))], [(.st 2)], 0, 40⟩, fun x => z4d n x.1 x.2.1 x.2.2.1⟩)]) (ann [(5, 0), (14, 1)] (Tryz.f45.body.getD .skip) 0).1
noncomputable def y9t : List (FI dat) := [zch] ++ [zfh]
theorem yaa : (zch).Good Tryz.prog dat (tb y9t) := FI.zz4 (hD := yz2 _) Tryz.func45 Tryz.ntmps45 Tryz.call45 (by kernel_rfl) (of_decide_eq_true (by kernel_rfl)) (by kernel_rfl) (fun n => by kernel_rfl) (fun x => by kernel_rfl) (fun _ => rfl) ⟨fun _ => rfl, fun _ => rfl, trivial⟩
 (fun n => fun x => (z9c.eq_2 x.1 x.2.1 n).trans (by kernel_rfl))
 (fun n => ⟨fun x => (z15.eq_2 x.1 x.2.1 x.2.2.1 n).trans (by kernel_rfl),
  fun x => (z4d.eq_2 x.1 x.2.1 x.2.2.1 n).trans (by kernel_rfl),
  trivial⟩)
 (fun x => .inl rfl)
theorem ya7 : OkL Tryz.prog [zch] := z9e (yz2 _) (bs := [zfh]) ⟨y5r, trivial⟩ ⟨yaa, trivial⟩
theorem y6w : FOk Tryz.prog zch := ya7.1
mutual
def z6u : Nat → zz1 → Option Int
 | 0, _ => none
 | n + 1, a0 =>
   z3x n 0 1 a0.re
def z3x : Nat → Int → Int → zz1 → Option Int
 | 0, _, _, _ => none
 | n + 1, a0, a1, a2 =>
   pIf (decide (a0 < (a2.args.length : Int)))
     ((ix a2.args a0).bind fun x0 =>
     (z6u n x0.re).bind fun y1 =>
     z3x n (IntKind.i64.wrap (a0 + 1)) (IntKind.i64.wrap (a1 + y1)) a2.re)
     (some a1)
end
def y89 : LSh := ⟨[(2, (.d (.int .i64)))], [], 0, 21⟩
noncomputable def z8p : FI dat := FI.of dat 46 21 0 [(.d (.st 2))] [] [(.d (.int .i64))] [] true y89 (R := Int) (fun x => x.1) (fun r => (r, ())) (fun n x => z6u n x.1)
 (fun n => [(0, ⟨⟨[(4, (.d (.int .i64))), (1, (.ptr 0 0)), (3, (.d (.int .i64)))], [(.st 2)], 0, 21⟩, fun x => z3x n x.1 x.2.1 x.2.2.1⟩)]) (ann [(8, 0)] (Tryz.f46.body.getD .skip) 0).1
noncomputable def y7y : List (FI dat) := [z8p] ++ []
theorem ybu : (z8p).Good Tryz.prog dat (tb y7y) := FI.zz4 (hD := yz2 _) Tryz.func46 Tryz.ntmps46 Tryz.call46 (by kernel_rfl) (of_decide_eq_true (by kernel_rfl)) (by kernel_rfl) (fun n => by kernel_rfl) (fun x => by kernel_rfl) (fun _ => rfl) ⟨fun _ => rfl, trivial⟩
 (fun n => fun x => (z6u.eq_2 x.1 n).trans (by kernel_rfl))
 (fun n => ⟨fun x => (z3x.eq_2 x.1 x.2.1 x.2.2.1 n).trans (by kernel_rfl),
  trivial⟩)
 (fun x => .inl rfl)
theorem ycw : OkL Tryz.prog [z8p] := z9e (yz2 _) (bs := []) trivial ⟨ybu, trivial⟩
theorem zqq : FOk Tryz.prog z8p := ycw.1
def z3p : Nat → zz1 → Option Bool
 | 0, _ => none
 | n + 1, a0 =>
   (z9c n a0.re 16).bind fun y0 =>
   pIf y0
     (some true)
     ((z6u n a0.re).bind fun y1 =>
     some (decide (y1 > 150)))
def yb4 : LSh := ⟨[(2, (.d .bool))], [], 0, 10⟩
noncomputable def zah : FI dat := FI.of dat 14 10 0 [(.d (.st 2))] [] [(.d .bool)] [] true yb4 (R := Bool) (fun x => x.1) (fun r => (r, ())) (fun n x => z3p n x.1)
 (fun n => []) (ann [] (Tryz.f14.body.getD .skip) 0).1
noncomputable def ycu : List (FI dat) := [zch, z8p]
theorem y9e : (zah).Good Tryz.prog dat (tb ycu) := FI.zz4 (hD := yz2 _) Tryz.func14 Tryz.ntmps14 Tryz.call14 (by kernel_rfl) (of_decide_eq_true (by kernel_rfl)) (by kernel_rfl) (fun n => by kernel_rfl) (fun x => by kernel_rfl) (fun _ => rfl) trivial
 (fun n => fun x => (z3p.eq_2 x.1 n).trans (by kernel_rfl))
 (fun n => trivial)
 (fun x => .inl rfl)
theorem ybz : OkL Tryz.prog [zah] := yz7 (yz2 _) (bs := [zch, z8p]) ⟨y6w, zqq, trivial⟩ y9e
theorem zqx : FOk Tryz.prog zah := ybz.1
def z0a : Nat → (List zz1) → Option zz1
 | 0, _ => none
 | n + 1, a0 =>
   some (zz1.mk 18 (yz1.mk 0 (yz6.mk 0 0) false [] []) [] a0)
def ygo : LSh := ⟨[(2, (.ptr 0 0))], [(.st 2)], 0, 5⟩
noncomputable def z8l : FI dat := FI.of dat 47 5 0 [(.d (.sl (.st 2)))] [] [(.d (.st 2))] [] true ygo (R := zz1) (fun x => x.1) (fun r => (r, ())) (fun n x => z0a n x.1)
 (fun n => []) (ann [] (Tryz.f47.body.getD .skip) 0).1
noncomputable def yg6 : List (FI dat) := []
theorem yha : (z8l).Good Tryz.prog dat (tb yg6) := FI.zz4 (hD := yz2 _) Tryz.func47 Tryz.ntmps47 Tryz.call47 (by kernel_rfl) (of_decide_eq_true (by kernel_rfl)) (by kernel_rfl) (fun n => by kernel_rfl) (fun x => by kernel_rfl) (fun _ => rfl) trivial
 (fun n => fun x => (z0a.eq_2 x.1 n).trans (by kernel_rfl))
 (fun n => trivial)
 (fun x => .inl rfl)
theorem yf6 : OkL Tryz.prog [z8l] := yz7 (yz2 _) (bs := []) trivial yha
theorem znk : FOk Tryz.prog z8l := yf6.1
mutual
def z6b : Nat → zz5 → Option Bool
 | 0, _ => none
 | n + 1, a0 =>
   pIf (decide ((a0.do_.length : Int) > 15))
     (z0x n true a0.re)
     ((z3p n a0.when_.re).bind fun y0 =>
     z0x n y0 a0.re)
def z0x : Nat → Bool → zz5 → Option Bool
 | 0, _, _ => none
 | n + 1, a0, a1 =>
   pIf a0
     (some true)
     (kzz n 0 a1.re)
def kzz : Nat → Int → zz5 → Option Bool
 | 0, _, _ => none
 | n + 1, a0, a1 =>
   pIf (decide (a0 < (a1.do_.length : Int)))
     ((ix a1.do_ a0).bind fun x1 =>
     (z0a n x1.args).bind fun y2 =>
     (z3p n y2.re).bind fun y3 =>
     pIf y3
       (z01 n a0 true a1.re)
       ((ix a1.do_ a0).bind fun x4 =>
       pIf (decide ((x4.items.length : Int) > 15))
         (z01 n a0 true a1.re)
         ((ix a1.do_ a0).bind fun x5 =>
         z01 n a0 (decide ((x5.name.length : Int) > 100)) a1.re)))
     (some false)
def z01 : Nat → Int → Bool → zz5 → Option Bool
 | 0, _, _, _ => none
 | n + 1, a0, a1, a2 =>
   pIf a1
     (some true)
     (z02 n 0 a0 a2.re)
def z02 : Nat → Int → Int → zz5 → Option Bool
 | 0, _, _, _ => none
 | n + 1, a0, a1, a2 =>
   (ix a2.do_ a1).bind fun x6 =>
   pIf (decide (a0 < (x6.items.length : Int)))
     ((ix a2.do_ a1).bind fun x7 =>
     (ix x7.items a0).bind fun x8 =>
     (z0a n x8.args).bind fun y9 =>
     (z3p n y9.re).bind fun y10 =>
     pIf y10
       (z0z n a1 a0 true a2.re)
       ((ix a2.do_ a1).bind fun x11 =>
       (ix x11.items a0).bind fun x12 =>
       z0z n a1 a0 (decide ((x12.name.length : Int) > 100)) a2.re))
     (kzz n (IntKind.i64.wrap (a1 + 1)) a2.re)
def z0z : Nat → Int → Int → Bool → zz5 → Option Bool
 | 0, _, _, _, _ => none
 | n + 1, a0, a1, a2, a3 =>
   pIf a2
     (some true)
     (z02 n (IntKind.i64.wrap (a1 + 1)) a0 a3.re)
end
def zvl : LSh := ⟨[(2, (.d .bool))], [], 0, 86⟩
noncomputable def za0 : FI dat := FI.of dat 15 86 0 [(.d (.st 6))] [] [(.d .bool)] [] true zvl (R := Bool) (fun x => x.1) (fun r => (r, ())) (fun n x => z6b n x.1)
 (fun n => [(0, ⟨⟨[(1, (.ptr 0 0)), (13, (.d .bool))], [(.st 6)], 0, 86⟩, fun x => z0x n x.1 x.2.1⟩), (1, ⟨⟨[(3, (.d (.int .i64))), (1, (.ptr 0 0))], [(.st 6)], 0, 86⟩, fun x => kzz n x.1 x.2.1⟩), (2, ⟨⟨[(3, (.d (.int .i64))), (1, (.ptr 0 0)), (48, (.d .bool))], [(.st 6)], 0, 86⟩, fun x => z01 n x.1 x.2.1 x.2.2.1⟩), (3, ⟨⟨[(4, (.d (.int .i64))), (3, (.d (.int .i64))), (1, (.ptr 0 0))], [(.st 6)], 0, 86⟩, fun x => z02 n x.1 x.2.1 x.2.2.1⟩), (4, ⟨⟨[(3, (.d (.int .i64))), (1, (.ptr 0 0)), (4, (.d (.int .i64))), (85, (.d .bool))], [(.st 6)], 0, 86⟩, fun x => z0z n x.1 x.2.1 x.2.2.1 x.2.2.2.1⟩)]) (ann [(5, 0), (14, 1), (26, 2), (34, 3), (45, 4)] (Tryz.f15.body.getD .skip) 0).1
noncomputable def zwf : List (FI dat) := [zah, z8l]
theorem zvy : (za0).Good Tryz.prog dat (tb zwf) := FI.zz4 (hD := yz2 _) Tryz.func15 Tryz.ntmps15 Tryz.call15 (by kernel_rfl) (of_decide_eq_true (by kernel_rfl)) (by kernel_rfl) (fun n => by kernel_rfl) (fun x => by kernel_rfl) (fun _ => rfl) ⟨fun _ => rfl, fun _ => rfl, fun _ => rfl, fun _ => rfl, fun _ => rfl, trivial⟩
 (fun n => fun x => (z6b.eq_2 x.1 n).trans (by kernel_rfl))
 (fun n => ⟨fun x => (z0x.eq_2 x.1 x.2.1 n).trans (by kernel_rfl),
  fun x => (kzz.eq_2 x.1 x.2.1 n).trans (by kernel_rfl),
  fun x => (z01.eq_2 x.1 x.2.1 x.2.2.1 n).trans (by kernel_rfl),
  fun x => (z02.eq_2 x.1 x.2.1 x.2.2.1 n).trans (by kernel_rfl),
  fun x => (z0z.eq_2 x.1 x.2.1 x.2.2.1 x.2.2.2.1 n).trans (by kernel_rfl),
  trivial⟩)
 (fun x => .inl rfl)
theorem zvb : OkL Tryz.prog [za0] := yz7 (yz2 _) (bs := [zah, z8l]) ⟨zqx, znk, trivial⟩ zvy
theorem zuu : FOk Tryz.prog za0 := zvb.1
mutual
def z96 : Nat → yz0 → Option Bool
 | 0, _ => none
 | n + 1, a0 =>
   pIf (decide ((a0.attrs.length : Int) > 25))
     (z4r n true a0)
     (z4r n (decide ((a0.rules.length : Int) > 45)) a0)
def z4r : Nat → Bool → yz0 → Option Bool
 | 0, _, _ => none
 | n + 1, a0, a1 =>
   pIf a0
     (some true)
     (z1z n 0 a1)
def z1z : Nat → Int → yz0 → Option Bool
 | 0, _, _ => none
 | n + 1, a0, a1 =>
   pIf (decide (a0 < (a1.attrs.length : Int)))
     ((ix a1.attrs a0).bind fun x0 =>
     (z3p n x0.value.re).bind fun y1 =>
     pIf y1
       (z4n n a0 true a1)
       ((ix a1.attrs a0).bind fun x2 =>
       z4n n a0 (decide ((x2.name.length : Int) > 100)) a1))
     (z1y n 0 a1)
def z4n : Nat → Int → Bool → yz0 → Option Bool
 | 0, _, _, _ => none
 | n + 1, a0, a1, a2 =>
   pIf a1
     (some true)
     (z1z n (IntKind.i64.wrap (a0 + 1)) a2)
def z1y : Nat → Int → yz0 → Option Bool
 | 0, _, _ => none
 | n + 1, a0, a1 =>
   pIf (decide (a0 < (a1.rules.length : Int)))
     ((ix a1.rules a0).bind fun x3 =>
     pIf (decide ((x3.params.length : Int) > 10))
       (z25 n a0 true x3 a1)
       (pIf (decide ((x3.cases.length : Int) > 10))
         (z25 n a0 true x3 a1)
         (z25 n a0 (decide ((x3.name.length : Int) > 100)) x3 a1)))
     (some false)
def z25 : Nat → Int → Bool → kz4 → yz0 → Option Bool
 | 0, _, _, _, _ => none
 | n + 1, a0, a1, a2, a3 =>
   pIf a1
     (some true)
     (z1x n 0 a0 a2 a3)
def z1x : Nat → Int → Int → kz4 → yz0 → Option Bool
 | 0, _, _, _, _ => none
 | n + 1, a0, a1, a2, a3 =>
   pIf (decide (a0 < (a2.params.length : Int)))
     ((ix a2.params a0).bind fun x4 =>
     pIf (decide ((x4.length : Int) > 100))
       (some true)
       (z1x n (IntKind.i64.wrap (a0 + 1)) a1 a2 a3))
     (z23 n 0 a1 a2 a3)
def z23 : Nat → Int → Int → kz4 → yz0 → Option Bool
 | 0, _, _, _, _ => none
 | n + 1, a0, a1, a2, a3 =>
   pIf (decide (a0 < (a2.cases.length : Int)))
     ((ix a2.cases a0).bind fun x5 =>
     (z6b n x5.re).bind fun y6 =>
     pIf y6
       (some true)
       (z23 n (IntKind.i64.wrap (a0 + 1)) a1 a2 a3))
     (z1y n (IntKind.i64.wrap (a1 + 1)) a3)
end
def y9a : LSh := ⟨[(2, (.d .bool))], [], 0, 97⟩
noncomputable def zew : FI dat := FI.of dat 4 97 0 [(.d (.st 8))] [] [(.d .bool)] [] true y9a (R := Bool) (fun x => x.1) (fun r => (r, ())) (fun n x => z96 n x.1)
 (fun n => [(0, ⟨⟨[(1, (.ptr 0 0)), (17, (.d .bool))], [(.st 8)], 0, 97⟩, fun x => z4r n x.1 x.2.1⟩), (1, ⟨⟨[(3, (.d (.int .i64))), (1, (.ptr 0 0))], [(.st 8)], 0, 97⟩, fun x => z1z n x.1 x.2.1⟩), (2, ⟨⟨[(1, (.ptr 0 0)), (3, (.d (.int .i64))), (41, (.d .bool))], [(.st 8)], 0, 97⟩, fun x => z4n n x.1 x.2.1 x.2.2.1⟩), (3, ⟨⟨[(4, (.d (.int .i64))), (1, (.ptr 0 0))], [(.st 8)], 0, 97⟩, fun x => z1y n x.1 x.2.1⟩), (4, ⟨⟨[(5, (.ptr 0 0)), (1, (.ptr 1 0)), (4, (.d (.int .i64))), (69, (.d .bool))], [(.st 7), (.st 8)], 0, 97⟩, fun x => z25 n x.1 x.2.1 x.2.2.1 x.2.2.2.1⟩), (5, ⟨⟨[(6, (.d (.int .i64))), (5, (.ptr 0 0)), (1, (.ptr 1 0)), (4, (.d (.int .i64)))], [(.st 7), (.st 8)], 0, 97⟩, fun x => z1x n x.1 x.2.1 x.2.2.1 x.2.2.2.1⟩), (6, ⟨⟨[(7, (.d (.int .i64))), (5, (.ptr 0 0)), (1, (.ptr 1 0)), (4, (.d (.int .i64)))], [(.st 7), (.st 8)], 0, 97⟩, fun x => z23 n x.1 x.2.1 x.2.2.1 x.2.2.2.1⟩)]) (ann [(5, 0), (14, 1), (25, 2), (35, 3), (49, 4), (58, 5), (78, 6)] (Tryz.f4.body.getD .skip) 0).1
noncomputable def yag : List (FI dat) := [zah, za0]
theorem ycv : (zew).Good Tryz.prog dat (tb yag) := FI.zz4 (hD := yz2 _) Tryz.func4 Tryz.ntmps4 Tryz.call4 (by kernel_rfl) (of_decide_eq_true (by kernel_rfl)) (by kernel_rfl) (fun n => by kernel_rfl) (fun x => by kernel_rfl) (fun _ => rfl) ⟨fun _ => rfl, fun _ => rfl, fun _ => rfl, fun _ => rfl, fun _ => rfl, fun _ => rfl, fun _ => rfl, trivial⟩
 (fun n => fun x => (z96.eq_2 x.1 n).trans (by kernel_rfl))
 (fun n => ⟨fun x => (z4r.eq_2 x.1 x.2.1 n).trans (by kernel_rfl),
  fun x => (z1z.eq_2 x.1 x.2.1 n).trans (by kernel_rfl),
  fun x => (z4n.eq_2 x.1 x.2.1 x.2.2.1 n).trans (by kernel_rfl),
  fun x => (z1y.eq_2 x.1 x.2.1 n).trans (by kernel_rfl),
  fun x => (z25.eq_2 x.1 x.2.1 x.2.2.1 x.2.2.2.1 n).trans (by kernel_rfl),
  fun x => (z1x.eq_2 x.1 x.2.1 x.2.2.1 x.2.2.2.1 n).trans (by kernel_rfl),
  fun x => (z23.eq_2 x.1 x.2.1 x.2.2.1 x.2.2.2.1 n).trans (by kernel_rfl),
  trivial⟩)
 (fun x => .inl rfl)
theorem ycs : OkL Tryz.prog [zew] := yz7 (yz2 _) (bs := [zah, za0]) ⟨zqx, zuu, trivial⟩ ycv
theorem y4v : FOk Tryz.prog zew := ycs.1
end Go.Proofs.YtflgdagdibabiaaGreat


namespace Go.Proofs.YtflgdagdibabiaaGreat
open Go Go.Ab
set_option linter.unusedVariables false
set_option maxRecDepth 100000
set_option maxHeartbeats 4000000
def z9o : Nat → zz3 → Option Bool
 | 0, _ => none
 | n + 1, a0 =>
   some (decide ((a0.items.length : Int) > 10))
def y4p : LSh := ⟨[(2, (.d .bool))], [], 0, 7⟩
noncomputable def zd4 : FI dat := FI.of dat 55 7 0 [(.d (.st 5))] [] [(.d .bool)] [] true y4p (R := Bool) (fun x => x.1) (fun r => (r, ())) (fun n x => z9o n x.1)
 (fun n => []) (ann [] (Tryz.f55.body.getD .skip) 0).1
noncomputable def y38 : List (FI dat) := []
theorem y4i : (zd4).Good Tryz.prog dat (tb y38) := FI.zz4 (hD := yz2 _) Tryz.func55 Tryz.ntmps55 Tryz.call55 (by kernel_rfl) (of_decide_eq_true (by kernel_rfl)) (by kernel_rfl) (fun n => by kernel_rfl) (fun x => by kernel_rfl) (fun _ => rfl) trivial
 (fun n => fun x => (z9o.eq_2 x.1 n).trans (by kernel_rfl))
 (fun n => trivial)
 (fun x => .inl rfl)
theorem y2z : OkL Tryz.prog [zd4] := yz7 (yz2 _) (bs := []) trivial y4i
theorem y2e : FOk Tryz.prog zd4 := y2z.1
mutual
def kzl : Nat → (List zz3) → Option Int
 | 0, _ => none
 | n + 1, a0 =>
   kze n 0 a0 (a0.length : Int)
def kze : Nat → Int → (List zz3) → Int → Option Int
 | 0, _, _, _ => none
 | n + 1, a0, a1, a2 =>
   pIf (decide (a0 < a2))
     ((ix a1 a0).bind fun x0 =>
     (z9o n x0).bind fun y1 =>
     pIf y1
       (some a0)
       (kze n (IntKind.i64.wrap (a0 + 1)) a1 a2))
     (some (-1))
end
def zcp : LSh := ⟨[(4, (.d (.int .i64)))], [], 0, 19⟩
noncomputable def zzn : FI dat := FI.of dat 89 19 0 [(.d (.sl (.st 5))), (.fn 55 [] [])] [] [(.d (.int .i64))] [] true zcp (R := Int) (fun x => x.1) (fun r => (r, ())) (fun n x => kzl n x.1)
 (fun n => [(0, ⟨⟨[(8, (.d (.int .i64))), (0, (.d (.sl (.st 5)))), (1, (.fn 55 [] [])), (7, (.d (.int .i64)))], [], 0, 19⟩, fun x => kze n x.1 x.2.1 x.2.2.1⟩)]) (ann [(6, 0)] (Tryz.f89.body.getD .skip) 0).1
noncomputable def zco : List (FI dat) := [zd4]
theorem zcs : (zzn).Good Tryz.prog dat (tb zco) := FI.zz4 (hD := yz2 _) Tryz.func89 Tryz.ntmps89 Tryz.call89 (by kernel_rfl) (of_decide_eq_true (by kernel_rfl)) (by kernel_rfl) (fun n => by kernel_rfl) (fun x => by kernel_rfl) (fun _ => rfl) ⟨fun _ => rfl, trivial⟩
 (fun n => fun x => (kzl.eq_2 x.1 n).trans (by kernel_rfl))
 (fun n => ⟨fun x => (kze.eq_2 x.1 x.2.1 x.2.2.1 n).trans (by kernel_rfl),
  trivial⟩)
 (fun x => .inl rfl)
theorem zcl : OkL Tryz.prog [zzn] := yz7 (yz2 _) (bs := [zd4]) ⟨y2e, trivial⟩ zcs
theorem zc6 : FOk Tryz.prog zzn := zcl.1
def zzf : Nat → (List zz3) → Option Bool
 | 0, _ => none
 | n + 1, a0 =>
   (kzl n a0).bind fun y0 =>
   some (decide (y0 ≥ 0))
def zbg : LSh := ⟨[(4, (.d .bool))], [], 0, 9⟩
noncomputable def zzk : FI dat := FI.of dat 54 9 0 [(.d (.sl (.st 5))), (.fn 55 [] [])] [] [(.d .bool)] [] true zbg (R := Bool) (fun x => x.1) (fun r => (r, ())) (fun n x => zzf n x.1)
 (fun n => []) (ann [] (Tryz.f54.body.getD .skip) 0).1
noncomputable def zbi : List (FI dat) := [zzn]
theorem zbh : (zzk).Good Tryz.prog dat (tb zbi) := FI.zz4 (hD := yz2 _) Tryz.func54 Tryz.ntmps54 Tryz.call54 (by kernel_rfl) (of_decide_eq_true (by kernel_rfl)) (by kernel_rfl) (fun n => by kernel_rfl) (fun x => by kernel_rfl) (fun _ => rfl) trivial
 (fun n => fun x => (zzf.eq_2 x.1 n).trans (by kernel_rfl))
 (fun n => trivial)
 (fun x => .inl rfl)
theorem zbj : OkL Tryz.prog [zzk] := yz7 (yz2 _) (bs := [zzn]) ⟨zc6, trivial⟩ zbh
theorem zat : FOk Tryz.prog zzk := zbj.1
mutual
def zc8 : Nat → yz0 → Option Bool
 | 0, _ => none
 | n + 1, a0 =>
   pIf (decide ((a0.attrs.length : Int) > 20))
     (z69 n true a0)
     (z69 n (decide ((a0.rules.length : Int) > 40)) a0)
def z69 : Nat → Bool → yz0 → Option Bool
 | 0, _, _ => none
 | n + 1, a0, a1 =>
   pIf a0
     (some true)
     (z3a n 0 a1.rules (a1.rules.length : Int))
def z3a : Nat → Int → (List kz4) → Int → Option Bool
 | 0, _, _, _ => none
 | n + 1, a0, a1, a2 =>
   pIf (decide (a0 < a2))
     ((ix a1 a0).bind fun x0 =>
     pIf (decide ((x0.params.length : Int) > 4))
       (z5r n a1 a2 a0 true x0)
       (z5r n a1 a2 a0 (decide ((x0.cases.length : Int) > 6)) x0))
     (some false)
def z5r : Nat → (List kz4) → Int → Int → Bool → kz4 → Option Bool
 | 0, _, _, _, _, _ => none
 | n + 1, a0, a1, a2, a3, a4 =>
   pIf a3
     (some true)
     (z3c n 0 a4.cases a0 a1 a2 (a4.cases.length : Int))
def z3c : Nat → Int → (List zz5) → (List kz4) → Int → Int → Int → Option Bool
 | 0, _, _, _, _, _, _ => none
 | n + 1, a0, a1, a2, a3, a4, a5 =>
   pIf (decide (a0 < a5))
     ((ix a1 a0).bind fun x1 =>
     pIf (decide ((x1.do_.length : Int) > 10))
       (z5x n a1 a2 a3 a4 a5 a0 true)
       ((zzf n x1.do_).bind fun y2 =>
       z5x n a1 a2 a3 a4 a5 a0 y2))
     (z3a n (IntKind.i64.wrap (a4 + 1)) a2 a3)
def z5x : Nat → (List zz5) → (List kz4) → Int → Int → Int → Int → Bool → Option Bool
 | 0, _, _, _, _, _, _, _ => none
 | n + 1, a0, a1, a2, a3, a4, a5, a6 =>
   pIf a6
     (some true)
     (z3c n (IntKind.i64.wrap (a5 + 1)) a0 a1 a2 a3 a4)
end
def ye5 : LSh := ⟨[(2, (.d .bool))], [], 0, 52⟩
noncomputable def zhd : FI dat := FI.of dat 24 52 0 [(.d (.st 8))] [] [(.d .bool)] [] true ye5 (R := Bool) (fun x => x.1) (fun r => (r, ())) (fun n x => zc8 n x.1)
 (fun n => [(0, ⟨⟨[(1, (.ptr 0 0)), (16, (.d .bool))], [(.st 8)], 0, 52⟩, fun x => z69 n x.1 x.2.1⟩), (1, ⟨⟨[(20, (.d (.int .i64))), (18, (.d (.sl (.st 7)))), (19, (.d (.int .i64)))], [], 0, 52⟩, fun x => z3a n x.1 x.2.1 x.2.2.1⟩), (2, ⟨⟨[(18, (.d (.sl (.st 7)))), (19, (.d (.int .i64))), (20, (.d (.int .i64))), (4, (.ptr 0 0)), (33, (.d .bool))], [(.st 7)], 0, 52⟩, fun x => z5r n x.1 x.2.1 x.2.2.1 x.2.2.2.1 x.2.2.2.2.1⟩), (3, ⟨⟨[(37, (.d (.int .i64))), (35, (.d (.sl (.st 6)))), (18, (.d (.sl (.st 7)))), (19, (.d (.int .i64))), (20, (.d (.int .i64))), (36, (.d (.int .i64)))], [], 0, 52⟩, fun x => z3c n x.1 x.2.1 x.2.2.1 x.2.2.2.1 x.2.2.2.2.1 x.2.2.2.2.2.1⟩), (4, ⟨⟨[(35, (.d (.sl (.st 6)))), (18, (.d (.sl (.st 7)))), (19, (.d (.int .i64))), (20, (.d (.int .i64))), (36, (.d (.int .i64))), (37, (.d (.int .i64))), (49, (.d .bool))], [], 0, 52⟩, fun x => z5x n x.1 x.2.1 x.2.2.1 x.2.2.2.1 x.2.2.2.2.1 x.2.2.2.2.2.1 x.2.2.2.2.2.2.1⟩)]) (ann [(5, 0), (14, 1), (28, 2), (36, 3), (49, 4)] (Tryz.f24.body.getD .skip) 0).1
noncomputable def yi4 : List (FI dat) := [zzk]
theorem yfm : (zhd).Good Tryz.prog dat (tb yi4) := FI.zz4 (hD := yz2 _) Tryz.func24 Tryz.ntmps24 Tryz.call24 (by kernel_rfl) (of_decide_eq_true (by kernel_rfl)) (by kernel_rfl) (fun n => by kernel_rfl) (fun x => by kernel_rfl) (fun _ => rfl) ⟨fun _ => rfl, fun _ => rfl, fun _ => rfl, fun _ => rfl, fun _ => rfl, trivial⟩
 (fun n => fun x => (zc8.eq_2 x.1 n).trans (by kernel_rfl))
 (fun n => ⟨fun x => (z69.eq_2 x.1 x.2.1 n).trans (by kernel_rfl),
  fun x => (z3a.eq_2 x.1 x.2.1 x.2.2.1 n).trans (by kernel_rfl),
  fun x => (z5r.eq_2 x.1 x.2.1 x.2.2.1 x.2.2.2.1 x.2.2.2.2.1 n).trans (by kernel_rfl),
  fun x => (z3c.eq_2 x.1 x.2.1 x.2.2.1 x.2.2.2.1 x.2.2.2.2.1 x.2.2.2.2.2.1 n).trans (by kernel_rfl),
  fun x => (z5x.eq_2 x.1 x.2.1 x.2.2.1 x.2.2.2.1 x.2.2.2.2.1 x.2.2.2.2.2.1 x.2.2.2.2.2.2.1 n).trans (by kernel_rfl),
  trivial⟩)
 (fun x => .inl rfl)
theorem ygy : OkL Tryz.prog [zhd] := yz7 (yz2 _) (bs := [zzk]) ⟨zat, trivial⟩ yfm
theorem ycg : FOk Tryz.prog zhd := ygy.1
mutual
def zaa : Nat → (List UInt8) → Option Bool
 | 0, _ => none
 | n + 1, a0 =>
   pIf ((a0.length : Int) == 0)
     (z8x n a0 true)
     (z8x n a0 (decide ((a0.length : Int) > 40)))
def z8x : Nat → (List UInt8) → Bool → Option Bool
 | 0, _, _ => none
 | n + 1, a0, a1 =>
   pIf a1
     (some false)
     (z0q n a0 0)
def z0q : Nat → (List UInt8) → Nat → Option Bool
 | 0, _, _ => none
 | n + 1, a0, a1 =>
   pIf (decide (a1 < a0.length))
     (pIf (decide (((zjy a0 a1).1 : Int) ≥ 97))
       (z6g n ((zjy a0 a1).1 : Int) (a1 : Int) (decide (((zjy a0 a1).1 : Int) ≤ 122)) a0 (a1 + (zjy a0 a1).2))
       (z6g n ((zjy a0 a1).1 : Int) (a1 : Int) false a0 (a1 + (zjy a0 a1).2)))
     (some true)
def z6g : Nat → Int → Int → Bool → (List UInt8) → Nat → Option Bool
 | 0, _, _, _, _, _ => none
 | n + 1, a0, a1, a2, a3, a4 =>
   pIf (!a2)
     (pIf (a1 == 0)
       (z06 n true a3 a4)
       (pIf (a0 != 45)
         (pIf (decide (a0 < 48))
           (z06 n true a3 a4)
           (z06 n (decide (a0 > 57)) a3 a4))
         (z06 n false a3 a4)))
     (z06 n false a3 a4)
def z06 : Nat → Bool → (List UInt8) → Nat → Option Bool
 | 0, _, _, _ => none
 | n + 1, a0, a1, a2 =>
   pIf a0
     (some false)
     (z0q n a1 a2)
end
def yi7 : LSh := ⟨[(2, (.d .bool))], [], 0, 44⟩
noncomputable def zbx : FI dat := FI.of dat 90 44 0 [(.d .str)] [] [(.d .bool)] [] true yi7 (R := Bool) (fun x => x.1) (fun r => (r, ())) (fun n x => zaa n x.1)
 (fun n => [(0, ⟨⟨[(0, (.d .str)), (13, (.d .bool))], [], 0, 44⟩, fun x => z8x n x.1 x.2.1⟩), (1, ⟨⟨[(15, (.ptr 0 0))], [.siter], 0, 44⟩, fun x => z0q n x.1 x.2.1⟩), (2, ⟨⟨[(15, (.ptr 0 0)), (4, (.d (.int .i32))), (3, (.d (.int .i64))), (5, (.d .bool))], [.siter], 0, 44⟩, fun x => z6g n x.1 x.2.1 x.2.2.1 x.2.2.2.1 x.2.2.2.2.1⟩), (3, ⟨⟨[(15, (.ptr 0 0)), (43, (.d .bool))], [.siter], 0, 44⟩, fun x => z06 n x.1 x.2.1 x.2.2.1⟩)]) (ann [(5, 0), (14, 1), (26, 2), (28, 3)] (Tryz.f90.body.getD .skip) 0).1
noncomputable def ygf : List (FI dat) := []
theorem yhy : (zbx).Good Tryz.prog dat (tb ygf) := FI.zz4 (hD := yz2 _) Tryz.func90 Tryz.ntmps90 Tryz.call90 (by kernel_rfl) (of_decide_eq_true (by kernel_rfl)) (by kernel_rfl) (fun n => by kernel_rfl) (fun x => by kernel_rfl) (fun _ => rfl) ⟨fun _ => rfl, fun _ => rfl, fun _ => rfl, fun _ => rfl, trivial⟩
 (fun n => fun x => (zaa.eq_2 x.1 n).trans (by kernel_rfl))
 (fun n => ⟨fun x => (z8x.eq_2 x.1 x.2.1 n).trans (by kernel_rfl),
  fun x => (z0q.eq_2 x.1 x.2.1 n).trans (by kernel_rfl),
  fun x => (z6g.eq_2 x.1 x.2.1 x.2.2.1 x.2.2.2.1 x.2.2.2.2.1 n).trans (by kernel_rfl),
  fun x => (z06.eq_2 x.1 x.2.1 x.2.2.1 n).trans (by kernel_rfl),
  trivial⟩)
 (fun x => .inl rfl)
theorem yie : OkL Tryz.prog [zbx] := yz7 (yz2 _) (bs := []) trivial yhy
theorem ztc : FOk Tryz.prog zbx := yie.1
mutual
def zzo : Nat → (List (List UInt8)) → (List UInt8) → Option Int
 | 0, _, _ => none
 | n + 1, a0, a1 =>
   kzf n 0 a0 a1 (a0.length : Int)
def kzf : Nat → Int → (List (List UInt8)) → (List UInt8) → Int → Option Int
 | 0, _, _, _, _ => none
 | n + 1, a0, a1, a2, a3 =>
   pIf (decide (a0 < a3))
     ((ix a1 a0).bind fun x0 =>
     pIf (a2 == x0)
       (some a0)
       (kzf n (IntKind.i64.wrap (a0 + 1)) a1 a2 a3))
     (some (-1))
end
def zjb : LSh := ⟨[(4, (.d (.int .i64)))], [], 0, 19⟩
noncomputable def zzq : FI dat := FI.of dat 27 19 0 [(.d (.sl .str)), (.d .str)] [] [(.d (.int .i64))] [] true zjb (R := Int) (fun x => x.1) (fun r => (r, ())) (fun n x => zzo n x.1 x.2.1)
 (fun n => [(0, ⟨⟨[(8, (.d (.int .i64))), (0, (.d (.sl .str))), (1, (.d .str)), (7, (.d (.int .i64)))], [], 0, 19⟩, fun x => kzf n x.1 x.2.1 x.2.2.1 x.2.2.2.1⟩)]) (ann [(6, 0)] (Tryz.f27.body.getD .skip) 0).1
noncomputable def zjk : List (FI dat) := []
theorem zja : (zzq).Good Tryz.prog dat (tb zjk) := FI.zz4 (hD := yz2 _) Tryz.func27 Tryz.ntmps27 Tryz.call27 (by kernel_rfl) (of_decide_eq_true (by kernel_rfl)) (by kernel_rfl) (fun n => by kernel_rfl) (fun x => by kernel_rfl) (fun _ => rfl) ⟨fun _ => rfl, trivial⟩
 (fun n => fun x => (zzo.eq_2 x.1 x.2.1 n).trans (by kernel_rfl))
 (fun n => ⟨fun x => (kzf.eq_2 x.1 x.2.1 x.2.2.1 x.2.2.2.1 n).trans (by kernel_rfl),
  trivial⟩)
 (fun x => .inl rfl)
theorem zjh : OkL Tryz.prog [zzq] := yz7 (yz2 _) (bs := []) trivial zja
theorem zbo : FOk Tryz.prog zzq := zjh.1
def yzp : Nat → (List (List UInt8)) → (List UInt8) → Option Bool
 | 0, _, _ => none
 | n + 1, a0, a1 =>
   (zzo n a0 a1).bind fun y0 =>
   some (decide (y0 ≥ 0))
def zhr : LSh := ⟨[(4, (.d .bool))], [], 0, 9⟩
noncomputable def yzz : FI dat := FI.of dat 91 9 0 [(.d (.sl .str)), (.d .str)] [] [(.d .bool)] [] true zhr (R := Bool) (fun x => x.1) (fun r => (r, ())) (fun n x => yzp n x.1 x.2.1)
 (fun n => []) (ann [] (Tryz.f91.body.getD .skip) 0).1
noncomputable def zhs : List (FI dat) := [zzq]
theorem zht : (yzz).Good Tryz.prog dat (tb zhs) := FI.zz4 (hD := yz2 _) Tryz.func91 Tryz.ntmps91 Tryz.call91 (by kernel_rfl) (of_decide_eq_true (by kernel_rfl)) (by kernel_rfl) (fun n => by kernel_rfl) (fun x => by kernel_rfl) (fun _ => rfl) trivial
 (fun n => fun x => (yzp.eq_2 x.1 x.2.1 n).trans (by kernel_rfl))
 (fun n => trivial)
 (fun x => .inl rfl)
theorem zhq : OkL Tryz.prog [yzz] := yz7 (yz2 _) (bs := [zzq]) ⟨zbo, trivial⟩ zht
theorem zhi : FOk Tryz.prog yzz := zhq.1
def z2e : Nat → (List UInt8) → Option Bool
 | 0, _ => none
 | n + 1, a0 =>
   (zaa n a0).bind fun y0 =>
   pIf y0
     ((yzp n [[116, 114, 117, 101], [102, 97, 108, 115, 101], [115, 120], [115, 121], [115, 122]] a0).bind fun y1 =>
     some (!y1))
     (some false)
def ycb : LSh := ⟨[(2, (.d .bool))], [], 0, 11⟩
noncomputable def z6q : FI dat := FI.of dat 56 11 0 [(.d .str)] [] [(.d .bool)] [] true ycb (R := Bool) (fun x => x.1) (fun r => (r, ())) (fun n x => z2e n x.1)
 (fun n => []) (ann [] (Tryz.f56.body.getD .skip) 0).1
noncomputable def y8l : List (FI dat) := [zbx, yzz]
theorem yc3 : (z6q).Good Tryz.prog dat (tb y8l) := FI.zz4 (hD := yz2 _) Tryz.func56 Tryz.ntmps56 Tryz.call56 (by kernel_rfl) (of_decide_eq_true (by kernel_rfl)) (by kernel_rfl) (fun n => by kernel_rfl) (fun x => by kernel_rfl) (fun _ => rfl) trivial
 (fun n => fun x => (z2e.eq_2 x.1 n).trans (by kernel_rfl))
 (fun n => trivial)
 (fun x => .inl rfl)
theorem yc6 : OkL Tryz.prog [z6q] := yz7 (yz2 _) (bs := [zbx, yzz]) ⟨ztc, zhi, trivial⟩ yc3
theorem zlh : FOk Tryz.prog z6q := yc6.1
mutual
def z7q : Nat → zz1 → Option (Int × Int)
 | 0, _ => none
 | n + 1, a0 =>
   z33 n 0 1 1 a0.args (a0.args.length : Int)
def z33 : Nat → Int → Int → Int → (List zz1) → Int → Option (Int × Int)
 | 0, _, _, _, _, _ => none
 | n + 1, a0, a1, a2, a3, a4 =>
   pIf (decide (a0 < a4))
     ((ix a3 a0).bind fun x0 =>
     (z7q n x0.re).bind fun y1 =>
     z33 n (IntKind.i64.wrap (a0 + 1)) (mxI a1 (IntKind.i64.wrap (y1.2 + 1))) (IntKind.i64.wrap (a2 + y1.1)) a3 a4)
     (some (a2, a1))
end
def y49 : LSh := ⟨[(2, (.d (.int .i64))), (3, (.d (.int .i64)))], [], 0, 30⟩
noncomputable def zb0 : FI dat := FI.of dat 92 30 0 [(.d (.st 2))] [] [(.d (.int .i64)), (.d (.int .i64))] [] true y49 (R := Int × Int) (fun x => (x.1, x.2.1)) (fun r => (r.1, r.2, ())) (fun n x => z7q n x.1)
 (fun n => [(0, ⟨⟨[(11, (.d (.int .i64))), (3, (.d (.int .i64))), (2, (.d (.int .i64))), (9, (.d (.sl (.st 2)))), (10, (.d (.int .i64)))], [], 0, 30⟩, fun x => z33 n x.1 x.2.1 x.2.2.1 x.2.2.2.1 x.2.2.2.2.1⟩)]) (ann [(8, 0)] (Tryz.f92.body.getD .skip) 0).1
noncomputable def y6r : List (FI dat) := [zb0] ++ []
theorem y40 : (zb0).Good Tryz.prog dat (tb y6r) := FI.zz4 (hD := yz2 _) Tryz.func92 Tryz.ntmps92 Tryz.call92 (by kernel_rfl) (of_decide_eq_true (by kernel_rfl)) (by kernel_rfl) (fun n => by kernel_rfl) (fun x => by kernel_rfl) (fun _ => rfl) ⟨fun _ => rfl, trivial⟩
 (fun n => fun x => (z7q.eq_2 x.1 n).trans (by kernel_rfl))
 (fun n => ⟨fun x => (z33.eq_2 x.1 x.2.1 x.2.2.1 x.2.2.2.1 x.2.2.2.2.1 n).trans (by kernel_rfl),
  trivial⟩)
 (fun x => .inl rfl)
theorem y34 : OkL Tryz.prog [zb0] := z9e (yz2 _) (bs := []) trivial ⟨y40, trivial⟩
theorem y22 : FOk Tryz.prog zb0 := y34.1
end Go.Proofs.YtflgdagdibabiaaGreat


namespace Go.Proofs.YtflgdagdibabiaaGreat
open Go Go.Ab
set_option linter.unusedVariables false
set_option maxRecDepth 100000
set_option maxHeartbeats 4000000
mutual
def zc9 : Nat → Int → Option Int
 | 0, _ => none
 | n + 1, a0 =>
   pIf (a0 == 12)
     (z0n n 3)
     (pIf (a0 == 3)
       (yzw n (-2) a0 true)
       (pIf (a0 == 4)
         (yzw n (-2) a0 true)
         (pIf (a0 == 5)
           (yzw n (-2) a0 true)
           (pIf (a0 == 6)
             (yzw n (-2) a0 true)
             (pIf (a0 == 7)
               (yzw n (-2) a0 true)
               (pIf (a0 == 8)
                 (yzw n (-2) a0 true)
                 (pIf (a0 == 9)
                   (yzw n (-2) a0 true)
                   (yzw n (-2) a0 (a0 == 10)))))))))
def yzw : Nat → Int → Int → Bool → Option Int
 | 0, _, _, _ => none
 | n + 1, a0, a1, a2 =>
   pIf a2
     (z8u n )
     (pIf (a1 == 13)
       (z5l n a0 a1 true)
       (pIf (a1 == 14)
         (z5l n a0 a1 true)
         (z5l n a0 a1 (a1 == 17))))
def z5l : Nat → Int → Int → Bool → Option Int
 | 0, _, _, _ => none
 | n + 1, a0, a1, a2 =>
   pIf a2
     (z8u n )
     (pIf (a1 == 11)
       (z5k n a0 a1 true)
       (pIf (a1 == 15)
         (z5k n a0 a1 true)
         (z5k n a0 a1 (a1 == 16))))
def z5k : Nat → Int → Int → Bool → Option Int
 | 0, _, _, _ => none
 | n + 1, a0, a1, a2 =>
   pIf a2
     (z0n n 1)
     (pIf (a1 == 1)
       (z8w n a0 a1 true)
       (z8w n a0 a1 (a1 == 2)))
def z8w : Nat → Int → Int → Bool → Option Int
 | 0, _, _, _ => none
 | n + 1, a0, a1, a2 =>
   pIf a2
     (z0n n 0)
     (pIf (a1 == 18)
       (z0n n (-1))
       (z0n n a0))
def z8u : Nat → Option Int
 | 0 => none
 | n + 1 =>
   z0n n 2
def z0n : Nat → Int → Option Int
 | 0, _ => none
 | n + 1, a0 =>
   some a0
end
def ye3 : LSh := ⟨[(2, (.d (.int .i64)))], [], 0, 30⟩
noncomputable def zgy : FI dat := FI.of dat 114 30 0 [(.d (.int .u8))] [] [(.d (.int .i64))] [] true ye3 (R := Int) (fun x => x.1) (fun r => (r, ())) (fun n x => zc9 n x.1)
 (fun n => [(0, ⟨⟨[(3, (.d (.int .i64))), (4, (.d (.int .u8))), (7, (.d .bool))], [], 0, 30⟩, fun x => yzw n x.1 x.2.1 x.2.2.1⟩), (1, ⟨⟨[(3, (.d (.int .i64))), (4, (.d (.int .u8))), (16, (.d .bool))], [], 0, 30⟩, fun x => z5l n x.1 x.2.1 x.2.2.1⟩), (2, ⟨⟨[(3, (.d (.int .i64))), (4, (.d (.int .u8))), (20, (.d .bool))], [], 0, 30⟩, fun x => z5k n x.1 x.2.1 x.2.2.1⟩), (3, ⟨⟨[(3, (.d (.int .i64))), (4, (.d (.int .u8))), (24, (.d .bool))], [], 0, 30⟩, fun x => z8w n x.1 x.2.1 x.2.2.1⟩), (4, ⟨⟨[], [], 0, 30⟩, fun x => z8u n ⟩), (5, ⟨⟨[(3, (.d (.int .i64)))], [], 0, 30⟩, fun x => z0n n x.1⟩)]) (ann [(57, 0), (71, 1), (85, 2), (95, 3), (107, 4), (119, 5)] (Tryz.f114.body.getD .skip) 0).1
noncomputable def yhi : List (FI dat) := []
theorem ye8 : (zgy).Good Tryz.prog dat (tb yhi) := FI.zz4 (hD := yz2 _) Tryz.func114 Tryz.ntmps114 Tryz.call114 (by kernel_rfl) (of_decide_eq_true (by kernel_rfl)) (by kernel_rfl) (fun n => by kernel_rfl) (fun x => by kernel_rfl) (fun _ => rfl) ⟨fun _ => rfl, fun _ => rfl, fun _ => rfl, fun _ => rfl, fun _ => rfl, fun _ => rfl, trivial⟩
 (fun n => fun x => (zc9.eq_2 x.1 n).trans (by kernel_rfl))
 (fun n => ⟨fun x => (yzw.eq_2 x.1 x.2.1 x.2.2.1 n).trans (by kernel_rfl),
  fun x => (z5l.eq_2 x.1 x.2.1 x.2.2.1 n).trans (by kernel_rfl),
  fun x => (z5k.eq_2 x.1 x.2.1 x.2.2.1 n).trans (by kernel_rfl),
  fun x => (z8w.eq_2 x.1 x.2.1 x.2.2.1 n).trans (by kernel_rfl),
  fun x => (z8u.eq_2  n).trans (by kernel_rfl),
  fun x => (z0n.eq_2 x.1 n).trans (by kernel_rfl),
  trivial⟩)
 (fun x => .inl rfl)
theorem yhh : OkL Tryz.prog [zgy] := yz7 (yz2 _) (bs := []) trivial ye8
theorem yc5 : FOk Tryz.prog zgy := yhh.1
mutual
def z6e : Nat → yz1 → Option (Int × Int)
 | 0, _ => none
 | n + 1, a0 =>
   pIf (a0.kind == 4)
     (z1w n 0 1 1 a0.list (a0.list.length : Int))
     (z1u n 1 1)
def z1w : Nat → Int → Int → Int → (List yz1) → Int → Option (Int × Int)
 | 0, _, _, _, _, _ => none
 | n + 1, a0, a1, a2, a3, a4 =>
   pIf (decide (a0 < a4))
     ((ix a3 a0).bind fun x0 =>
     (z6e n x0.re).bind fun y1 =>
     z1w n (IntKind.i64.wrap (a0 + 1)) (mxI a1 (IntKind.i64.wrap (y1.2 + 1))) (IntKind.i64.wrap (a2 + y1.1)) a3 a4)
     (z1u n a1 a2)
def z1u : Nat → Int → Int → Option (Int × Int)
 | 0, _, _ => none
 | n + 1, a0, a1 =>
   some (a1, a0)
end
def y2l : LSh := ⟨[(2, (.d (.int .i64))), (3, (.d (.int .i64)))], [], 0, 33⟩
noncomputable def z9j : FI dat := FI.of dat 126 33 0 [(.d (.st 1))] [] [(.d (.int .i64)), (.d (.int .i64))] [] true y2l (R := Int × Int) (fun x => (x.1, x.2.1)) (fun r => (r.1, r.2, ())) (fun n x => z6e n x.1)
 (fun n => [(0, ⟨⟨[(14, (.d (.int .i64))), (3, (.d (.int .i64))), (2, (.d (.int .i64))), (12, (.d (.sl (.st 1)))), (13, (.d (.int .i64)))], [], 0, 33⟩, fun x => z1w n x.1 x.2.1 x.2.2.1 x.2.2.2.1 x.2.2.2.2.1⟩), (1, ⟨⟨[(3, (.d (.int .i64))), (2, (.d (.int .i64)))], [], 0, 33⟩, fun x => z1u n x.1 x.2.1⟩)]) (ann [(11, 0), (29, 1)] (Tryz.f126.body.getD .skip) 0).1
noncomputable def y1s : List (FI dat) := [z9j] ++ []
theorem y2h : (z9j).Good Tryz.prog dat (tb y1s) := FI.zz4 (hD := yz2 _) Tryz.func126 Tryz.ntmps126 Tryz.call126 (by kernel_rfl) (of_decide_eq_true (by kernel_rfl)) (by kernel_rfl) (fun n => by kernel_rfl) (fun x => by kernel_rfl) (fun _ => rfl) ⟨fun _ => rfl, fun _ => rfl, trivial⟩
 (fun n => fun x => (z6e.eq_2 x.1 n).trans (by kernel_rfl))
 (fun n => ⟨fun x => (z1w.eq_2 x.1 x.2.1 x.2.2.1 x.2.2.2.1 x.2.2.2.2.1 n).trans (by kernel_rfl),
  fun x => (z1u.eq_2 x.1 x.2.1 n).trans (by kernel_rfl),
  trivial⟩)
 (fun x => .inl rfl)
theorem y1j : OkL Tryz.prog [z9j] := z9e (yz2 _) (bs := []) trivial ⟨y2h, trivial⟩
theorem zxx : FOk Tryz.prog z9j := y1j.1
def zaf : Nat → Int → Option Int
 | 0, _ => none
 | n + 1, a0 =>
   pIf (decide (a0 < 0))
     (some (IntKind.u64.wrap (0 - (IntKind.u64.wrap a0))))
     (some (IntKind.u64.wrap a0))
def yhb : LSh := ⟨[(2, (.d (.int .u64)))], [], 0, 10⟩
noncomputable def zh8 : FI dat := FI.of dat 132 10 0 [(.d (.int .i64))] [] [(.d (.int .u64))] [] true yhb (R := Int) (fun x => x.1) (fun r => (r, ())) (fun n x => zaf n x.1)
 (fun n => []) (ann [] (Tryz.f132.body.getD .skip) 0).1
noncomputable def ygr : List (FI dat) := []
theorem yfa : (zh8).Good Tryz.prog dat (tb ygr) := FI.zz4 (hD := yz2 _) Tryz.func132 Tryz.ntmps132 Tryz.call132 (by kernel_rfl) (of_decide_eq_true (by kernel_rfl)) (by kernel_rfl) (fun n => by kernel_rfl) (fun x => by kernel_rfl) (fun _ => rfl) trivial
 (fun n => fun x => (zaf.eq_2 x.1 n).trans (by kernel_rfl))
 (fun n => trivial)
 (fun x => .inl rfl)
theorem yep : OkL Tryz.prog [zh8] := yz7 (yz2 _) (bs := []) trivial yfa
theorem y8k : FOk Tryz.prog zh8 := yep.1
mutual
def ze5 : Nat → Int → Int → Option Int
 | 0, _, _ => none
 | n + 1, a0, a1 =>
   z7j n a1 a0
def z7j : Nat → Int → Int → Option Int
 | 0, _, _ => none
 | n + 1, a0, a1 =>
   pIf (a0 != 0)
     ((rem .u64 a1 a0).bind fun x0 =>
     z7j n x0 a0)
     (some a1)
end
def yjp : LSh := ⟨[(4, (.d (.int .u64)))], [], 0, 12⟩
noncomputable def ziw : FI dat := FI.of dat 133 12 0 [(.d (.int .u64)), (.d (.int .u64))] [] [(.d (.int .u64))] [] true yjp (R := Int) (fun x => x.1) (fun r => (r, ())) (fun n x => ze5 n x.1 x.2.1)
 (fun n => [(0, ⟨⟨[(1, (.d (.int .u64))), (0, (.d (.int .u64)))], [], 0, 12⟩, fun x => z7j n x.1 x.2.1⟩)]) (ann [(4, 0)] (Tryz.f133.body.getD .skip) 0).1
noncomputable def yjn : List (FI dat) := []
theorem yj2 : (ziw).Good Tryz.prog dat (tb yjn) := FI.zz4 (hD := yz2 _) Tryz.func133 Tryz.ntmps133 Tryz.call133 (by kernel_rfl) (of_decide_eq_true (by kernel_rfl)) (by kernel_rfl) (fun n => by kernel_rfl) (fun x => by kernel_rfl) (fun _ => rfl) ⟨fun _ => rfl, trivial⟩
 (fun n => fun x => (ze5.eq_2 x.1 x.2.1 n).trans (by kernel_rfl))
 (fun n => ⟨fun x => (z7j.eq_2 x.1 x.2.1 n).trans (by kernel_rfl),
  trivial⟩)
 (fun x => .inl rfl)
theorem ykt : OkL Tryz.prog [ziw] := yz7 (yz2 _) (bs := []) trivial yj2
theorem ygs : FOk Tryz.prog ziw := ykt.1
mutual
def zbc : Nat → yz6 → Option Int
 | 0, _ => none
 | n + 1, a0 =>
   pIf (decide (a0.den < 1))
     (z16 n true)
     (pIf (decide (a0.den > 1000000000))
       (z16 n true)
       ((zaf n a0.num).bind fun y0 =>
       pIf (decide (y0 > 1000000000))
         (z16 n true)
         ((zaf n a0.num).bind fun y1 =>
         (ze5 n y1 (IntKind.u64.wrap a0.den)).bind fun y2 =>
         z16 n (y2 != 1))))
def z16 : Nat → Bool → Option Int
 | 0, _ => none
 | n + 1, a0 =>
   pIf a0
     (some 8)
     (some 0)
end
def y8t : LSh := ⟨[(2, (.d (.int .i64)))], [], 0, 27⟩
noncomputable def zex : FI dat := FI.of dat 130 27 0 [(.d (.st 0))] [] [(.d (.int .i64))] [] true y8t (R := Int) (fun x => x.1) (fun r => (r, ())) (fun n x => zbc n x.1)
 (fun n => [(0, ⟨⟨[(26, (.d .bool))], [], 0, 27⟩, fun x => z16 n x.1⟩)]) (ann [(5, 0)] (Tryz.f130.body.getD .skip) 0).1
noncomputable def y81 : List (FI dat) := [zh8, ziw]
theorem y8b : (zex).Good Tryz.prog dat (tb y81) := FI.zz4 (hD := yz2 _) Tryz.func130 Tryz.ntmps130 Tryz.call130 (by kernel_rfl) (of_decide_eq_true (by kernel_rfl)) (by kernel_rfl) (fun n => by kernel_rfl) (fun x => by kernel_rfl) (fun _ => rfl) ⟨fun _ => rfl, trivial⟩
 (fun n => fun x => (zbc.eq_2 x.1 n).trans (by kernel_rfl))
 (fun n => ⟨fun x => (z16.eq_2 x.1 n).trans (by kernel_rfl),
  trivial⟩)
 (fun x => .inl rfl)
theorem y99 : OkL Tryz.prog [zex] := yz7 (yz2 _) (bs := [zh8, ziw]) ⟨y8k, ygs, trivial⟩ y8b
theorem y7k : FOk Tryz.prog zex := y99.1
mutual
def za7 : Nat → yz1 → Option Bool
 | 0, _ => none
 | n + 1, a0 =>
   pIf (a0.kind == 1)
     ((zbc n a0.num).bind fun y0 =>
     pIf (y0 != 0)
       (some false)
       (z1s n (yz1.mk a0.kind (yz6.mk 0 0) a0.truth a0.str a0.list)))
     (pIf (a0.kind == 2)
       (z1s n (yz1.mk a0.kind a0.num false a0.str a0.list))
       (pIf (a0.kind == 3)
         (pIf (decide ((a0.str.length : Int) > 60))
           (some false)
           (z61 n 0 a0.re (yz1.mk a0.kind a0.num a0.truth [] a0.list)))
         (pIf (a0.kind == 4)
           (z64 n 0 a0.list (a0.list.length : Int) (yz1.mk a0.kind a0.num a0.truth a0.str []))
           (some false))))
def z61 : Nat → Int → yz1 → yz1 → Option Bool
 | 0, _, _, _ => none
 | n + 1, a0, a1, a2 =>
   pIf (decide (a0 < (a1.str.length : Int)))
     ((ix a1.str a0).bind fun x1 =>
     pIf (decide ((x1.toNat : Int) < 32))
       (z6k n a0 true a1.re a2.re)
       ((ix a1.str a0).bind fun x2 =>
       z6k n a0 (decide ((x2.toNat : Int) > 126)) a1.re a2.re))
     (z1s n a2.re)
def z6k : Nat → Int → Bool → yz1 → yz1 → Option Bool
 | 0, _, _, _, _ => none
 | n + 1, a0, a1, a2, a3 =>
   pIf a1
     (some false)
     (z61 n (IntKind.i64.wrap (a0 + 1)) a2.re a3.re)
def z64 : Nat → Int → (List yz1) → Int → yz1 → Option Bool
 | 0, _, _, _, _ => none
 | n + 1, a0, a1, a2, a3 =>
   pIf (decide (a0 < a2))
     ((ix a1 a0).bind fun x3 =>
     (za7 n x3.re).bind fun y4 =>
     pIf (!y4)
       (some false)
       (z64 n (IntKind.i64.wrap (a0 + 1)) a1 a2 a3.re))
     (z1s n a3.re)
def z1s : Nat → yz1 → Option Bool
 | 0, _ => none
 | n + 1, a0 =>
   pIf ((a0.num.num == 0) && ((a0.num.den == 0) && true))
     (pIf (!a0.truth)
       (pIf (a0.str == [])
         (some ((a0.list.length : Int) == 0))
         (some false))
       (some false))
     (some false)
end
def yh3 : LSh := ⟨[(2, (.d .bool))], [], 0, 81⟩
noncomputable def zdz : FI dat := FI.of dat 127 81 0 [(.d (.st 1))] [] [(.d .bool)] [] true yh3 (R := Bool) (fun x => x.1) (fun r => (r, ())) (fun n x => za7 n x.1)
 (fun n => [(0, ⟨⟨[(4, (.d (.int .i64))), (1, (.ptr 0 0)), (3, (.ptr 1 0))], [(.st 1), (.st 1)], 0, 81⟩, fun x => z61 n x.1 x.2.1 x.2.2.1⟩), (1, ⟨⟨[(1, (.ptr 0 0)), (3, (.ptr 1 0)), (4, (.d (.int .i64))), (46, (.d .bool))], [(.st 1), (.st 1)], 0, 81⟩, fun x => z6k n x.1 x.2.1 x.2.2.1 x.2.2.2.1⟩), (2, ⟨⟨[(53, (.d (.int .i64))), (51, (.d (.sl (.st 1)))), (3, (.ptr 0 0)), (52, (.d (.int .i64)))], [(.st 1)], 0, 81⟩, fun x => z64 n x.1 x.2.1 x.2.2.1 x.2.2.2.1⟩), (3, ⟨⟨[(3, (.ptr 0 0))], [(.st 1)], 0, 81⟩, fun x => z1s n x.1⟩)]) (ann [(40, 0), (51, 1), (65, 2), (87, 3)] (Tryz.f127.body.getD .skip) 0).1
noncomputable def yfi : List (FI dat) := [zdz] ++ [zex]
theorem yeb : (zdz).Good Tryz.prog dat (tb yfi) := FI.zz4 (hD := yz2 _) Tryz.func127 Tryz.ntmps127 Tryz.call127 (by kernel_rfl) (of_decide_eq_true (by kernel_rfl)) (by kernel_rfl) (fun n => by kernel_rfl) (fun x => by kernel_rfl) (fun _ => rfl) ⟨fun _ => rfl, fun _ => rfl, fun _ => rfl, fun _ => rfl, trivial⟩
 (fun n => fun x => (za7.eq_2 x.1 n).trans (by kernel_rfl))
 (fun n => ⟨fun x => (z61.eq_2 x.1 x.2.1 x.2.2.1 n).trans (by kernel_rfl),
  fun x => (z6k.eq_2 x.1 x.2.1 x.2.2.1 x.2.2.2.1 n).trans (by kernel_rfl),
  fun x => (z64.eq_2 x.1 x.2.1 x.2.2.1 x.2.2.2.1 n).trans (by kernel_rfl),
  fun x => (z1s.eq_2 x.1 n).trans (by kernel_rfl),
  trivial⟩)
 (fun x => .inl rfl)
theorem yeh : OkL Tryz.prog [zdz] := z9e (yz2 _) (bs := [zex]) ⟨y7k, trivial⟩ ⟨yeb, trivial⟩
theorem ycx : FOk Tryz.prog zdz := yeh.1
mutual
def zbb : Nat → yz1 → Option Int
 | 0, _ => none
 | n + 1, a0 =>
   (z6e n a0.re).bind fun y0 =>
   pIf (decide (y0.1 > 100))
     (z4s n true a0.re)
     (z4s n (decide (y0.2 > 6)) a0.re)
def z4s : Nat → Bool → yz1 → Option Int
 | 0, _, _ => none
 | n + 1, a0, a1 =>
   pIf a0
     (some 4)
     ((za7 n a1.re).bind fun y1 =>
     pIf (!y1)
       (some 8)
       (some 0))
end
def yav : LSh := ⟨[(2, (.d (.int .i64)))], [], 0, 19⟩
noncomputable def zf4 : FI dat := FI.of dat 115 19 0 [(.d (.st 1))] [] [(.d (.int .i64))] [] true yav (R := Int) (fun x => x.1) (fun r => (r, ())) (fun n x => zbb n x.1)
 (fun n => [(0, ⟨⟨[(1, (.ptr 0 0)), (15, (.d .bool))], [(.st 1)], 0, 19⟩, fun x => z4s n x.1 x.2.1⟩)]) (ann [(7, 0)] (Tryz.f115.body.getD .skip) 0).1
noncomputable def y97 : List (FI dat) := [z9j, zdz]
theorem y8a : (zf4).Good Tryz.prog dat (tb y97) := FI.zz4 (hD := yz2 _) Tryz.func115 Tryz.ntmps115 Tryz.call115 (by kernel_rfl) (of_decide_eq_true (by kernel_rfl)) (by kernel_rfl) (fun n => by kernel_rfl) (fun x => by kernel_rfl) (fun _ => rfl) ⟨fun _ => rfl, trivial⟩
 (fun n => fun x => (zbb.eq_2 x.1 n).trans (by kernel_rfl))
 (fun n => ⟨fun x => (z4s.eq_2 x.1 x.2.1 n).trans (by kernel_rfl),
  trivial⟩)
 (fun x => .inl rfl)
theorem y9k : OkL Tryz.prog [zf4] := yz7 (yz2 _) (bs := [z9j, zdz]) ⟨zxx, ycx, trivial⟩ y8a
theorem y4t : FOk Tryz.prog zf4 := y9k.1
def zcd : Nat → (List UInt8) → Option Bool
 | 0, _ => none
 | n + 1, a0 =>
   (zaa n a0).bind fun y0 =>
   pIf y0
     (pIf (!(a0 == [116, 114, 117, 101]))
       (some (!(a0 == [102, 97, 108, 115, 101])))
       (some false))
     (some false)
def yi3 : LSh := ⟨[(2, (.d .bool))], [], 0, 13⟩
noncomputable def zgt : FI dat := FI.of dat 116 13 0 [(.d .str)] [] [(.d .bool)] [] true yi3 (R := Bool) (fun x => x.1) (fun r => (r, ())) (fun n x => zcd n x.1)
 (fun n => []) (ann [] (Tryz.f116.body.getD .skip) 0).1
noncomputable def yg9 : List (FI dat) := [zbx]
theorem ygd : (zgt).Good Tryz.prog dat (tb yg9) := FI.zz4 (hD := yz2 _) Tryz.func116 Tryz.ntmps116 Tryz.call116 (by kernel_rfl) (of_decide_eq_true (by kernel_rfl)) (by kernel_rfl) (fun n => by kernel_rfl) (fun x => by kernel_rfl) (fun _ => rfl) trivial
 (fun n => fun x => (zcd.eq_2 x.1 n).trans (by kernel_rfl))
 (fun n => trivial)
 (fun x => .inl rfl)
theorem yfg : OkL Tryz.prog [zgt] := yz7 (yz2 _) (bs := [zbx]) ⟨ztc, trivial⟩ ygd
theorem ybo : FOk Tryz.prog zgt := yfg.1
mutual
def z2i : Nat → yz1 → yz1 → Option Bool
 | 0, _, _ => none
 | n + 1, a0, a1 =>
   pIf (a0.kind != a1.kind)
     (z0v n true a1.re a0.re)
     (pIf (!((a0.num.num == a1.num.num) && ((a0.num.den == a1.num.den) && true)))
       (z0v n true a1.re a0.re)
       (pIf (!(a0.truth == a1.truth))
         (z0v n true a1.re a0.re)
         (pIf (!(a0.str == a1.str))
           (z0v n true a1.re a0.re)
           (z0v n ((a0.list.length : Int) != (a1.list.length : Int)) a1.re a0.re))))
def z0v : Nat → Bool → yz1 → yz1 → Option Bool
 | 0, _, _, _ => none
 | n + 1, a0, a1, a2 =>
   pIf a0
     (some false)
     (z6h n 0 (a2.list.length : Int) a1.re a2.re)
def z6h : Nat → Int → Int → yz1 → yz1 → Option Bool
 | 0, _, _, _, _ => none
 | n + 1, a0, a1, a2, a3 =>
   pIf (decide (a0 < a1))
     ((ix a3.list a0).bind fun x0 =>
     (ix a2.list a0).bind fun x1 =>
     (z2i n x0.re x1.re).bind fun y2 =>
     pIf (!y2)
       (some false)
       (z6h n (IntKind.i64.wrap (a0 + 1)) a1 a2.re a3.re))
     (some true)
end
def yho : LSh := ⟨[(4, (.d .bool))], [], 0, 60⟩
noncomputable def z9y : FI dat := FI.of dat 71 60 0 [(.d (.st 1)), (.d (.st 1))] [] [(.d .bool)] [] true yho (R := Bool) (fun x => x.1) (fun r => (r, ())) (fun n x => z2i n x.1 x.2.1)
 (fun n => [(0, ⟨⟨[(3, (.ptr 0 0)), (2, (.ptr 1 0)), (40, (.d .bool))], [(.st 1), (.st 1)], 0, 60⟩, fun x => z0v n x.1 x.2.1 x.2.2.1⟩), (1, ⟨⟨[(44, (.d (.int .i64))), (3, (.ptr 0 0)), (2, (.ptr 1 0)), (43, (.d (.int .i64)))], [(.st 1), (.st 1)], 0, 60⟩, fun x => z6h n x.1 x.2.1 x.2.2.1 x.2.2.2.1⟩)]) (ann [(5, 0), (14, 1)] (Tryz.f71.body.getD .skip) 0).1
noncomputable def yib : List (FI dat) := [z9y] ++ []
theorem ygx : (z9y).Good Tryz.prog dat (tb yib) := FI.zz4 (hD := yz2 _) Tryz.func71 Tryz.ntmps71 Tryz.call71 (by kernel_rfl) (of_decide_eq_true (by kernel_rfl)) (by kernel_rfl) (fun n => by kernel_rfl) (fun x => by kernel_rfl) (fun _ => rfl) ⟨fun _ => rfl, fun _ => rfl, trivial⟩
 (fun n => fun x => (z2i.eq_2 x.1 x.2.1 n).trans (by kernel_rfl))
 (fun n => ⟨fun x => (z0v.eq_2 x.1 x.2.1 x.2.2.1 n).trans (by kernel_rfl),
  fun x => (z6h.eq_2 x.1 x.2.1 x.2.2.1 x.2.2.2.1 n).trans (by kernel_rfl),
  trivial⟩)
 (fun x => .inl rfl)
theorem yhu : OkL Tryz.prog [z9y] := z9e (yz2 _) (bs := []) trivial ⟨ygx, trivial⟩
theorem ztt : FOk Tryz.prog z9y := yhu.1
end Go.Proofs.YtflgdagdibabiaaGreat


namespace Go.Proofs.YtflgdagdibabiaaGreat
open Go Go.Ab
set_option linter.unusedVariables false
set_option maxRecDepth 100000
set_option maxHeartbeats 4000000
mutual
def zbq : Nat → zz1 → Option Bool
 | 0, _ => none
 | n + 1, a0 =>
   (zc9 n a0.op).bind fun y0 =>
   pIf (y0 == (-2))
     (z55 n true a0.re)
     (pIf (decide (y0 ≥ 0))
       (z55 n ((a0.args.length : Int) != y0) a0.re)
       (z55 n false a0.re))
def z55 : Nat → Bool → zz1 → Option Bool
 | 0, _, _ => none
 | n + 1, a0, a1 =>
   pIf a0
     (some false)
     (pIf (a1.op == 1)
       ((zbb n a1.value.re).bind fun y1 =>
       pIf (y1 != 0)
         (z56 n true a1.re)
         (pIf (a1.value.kind == 4)
           (z56 n true a1.re)
           (z56 n (!(a1.name == [])) a1.re)))
       (pIf (a1.op == 2)
         ((zcd n a1.name).bind fun y2 =>
         pIf (!y2)
           (z84 n true a1.re)
           ((z2i n a1.value.re (yz1.mk 0 (yz6.mk 0 0) false [] [])).bind fun y3 =>
           z84 n (!y3) a1.re))
         (pIf (!(a1.name == []))
           (z7n n true a1.re)
           ((z2i n a1.value.re (yz1.mk 0 (yz6.mk 0 0) false [] [])).bind fun y4 =>
           z7n n (!y4) a1.re))))
def z56 : Nat → Bool → zz1 → Option Bool
 | 0, _, _ => none
 | n + 1, a0, a1 =>
   pIf a0
     (some false)
     (z58 n a1.re)
def z84 : Nat → Bool → zz1 → Option Bool
 | 0, _, _ => none
 | n + 1, a0, a1 =>
   pIf a0
     (some false)
     (z58 n a1.re)
def z7n : Nat → Bool → zz1 → Option Bool
 | 0, _, _ => none
 | n + 1, a0, a1 =>
   pIf a0
     (some false)
     (z58 n a1.re)
def z58 : Nat → zz1 → Option Bool
 | 0, _ => none
 | n + 1, a0 =>
   (yzf n a0.args).bind fun y5 =>
   some (!y5)
def yzf : Nat → (List zz1) → Option Bool
 | 0, _ => none
 | n + 1, a0 =>
   (kzg n a0).bind fun y0 =>
   some (decide (y0 ≥ 0))
def kzg : Nat → (List zz1) → Option Int
 | 0, _ => none
 | n + 1, a0 =>
   kzb n 0 a0 (a0.length : Int)
def kzb : Nat → Int → (List zz1) → Int → Option Int
 | 0, _, _, _ => none
 | n + 1, a0, a1, a2 =>
   pIf (decide (a0 < a2))
     ((ix a1 a0).bind fun x0 =>
     (zaz n x0.re).bind fun y1 =>
     pIf y1
       (some a0)
       (kzb n (IntKind.i64.wrap (a0 + 1)) a1 a2))
     (some (-1))
def zaz : Nat → zz1 → Option Bool
 | 0, _ => none
 | n + 1, a0 =>
   (zbq n a0.re).bind fun y0 =>
   some (!y0)
end
def ykd : LSh := ⟨[(2, (.d .bool))], [], 0, 66⟩
noncomputable def zg9 : FI dat := FI.of dat 93 66 0 [(.d (.st 2))] [] [(.d .bool)] [] true ykd (R := Bool) (fun x => x.1) (fun r => (r, ())) (fun n x => zbq n x.1)
 (fun n => [(0, ⟨⟨[(1, (.ptr 0 0)), (19, (.d .bool))], [(.st 2)], 0, 66⟩, fun x => z55 n x.1 x.2.1⟩), (1, ⟨⟨[(1, (.ptr 0 0)), (48, (.d .bool))], [(.st 2)], 0, 66⟩, fun x => z56 n x.1 x.2.1⟩), (2, ⟨⟨[(1, (.ptr 0 0)), (61, (.d .bool))], [(.st 2)], 0, 66⟩, fun x => z84 n x.1 x.2.1⟩), (3, ⟨⟨[(1, (.ptr 0 0)), (31, (.d .bool))], [(.st 2)], 0, 66⟩, fun x => z7n n x.1 x.2.1⟩), (4, ⟨⟨[(1, (.ptr 0 0))], [(.st 2)], 0, 66⟩, fun x => z58 n x.1⟩)]) (ann [(7, 0), (21, 1), (31, 2), (38, 3), (43, 4)] (Tryz.f93.body.getD .skip) 0).1
def zc0 : LSh := ⟨[(4, (.d .bool))], [], 0, 9⟩
noncomputable def z0j : FI dat := FI.of dat 28 9 0 [(.d (.sl (.st 2))), (.fn 117 [] [])] [] [(.d .bool)] [] true zc0 (R := Bool) (fun x => x.1) (fun r => (r, ())) (fun n x => yzf n x.1)
 (fun n => []) (ann [] (Tryz.f28.body.getD .skip) 0).1
def zcv : LSh := ⟨[(4, (.d (.int .i64)))], [], 0, 19⟩
noncomputable def z17 : FI dat := FI.of dat 63 19 0 [(.d (.sl (.st 2))), (.fn 117 [] [])] [] [(.d (.int .i64))] [] true zcv (R := Int) (fun x => x.1) (fun r => (r, ())) (fun n x => kzg n x.1)
 (fun n => [(0, ⟨⟨[(8, (.d (.int .i64))), (0, (.d (.sl (.st 2)))), (1, (.fn 117 [] [])), (7, (.d (.int .i64)))], [], 0, 19⟩, fun x => kzb n x.1 x.2.1 x.2.2.1⟩)]) (ann [(6, 0)] (Tryz.f63.body.getD .skip) 0).1
def yc2 : LSh := ⟨[(2, (.d .bool))], [], 0, 6⟩
noncomputable def znl : FI dat := FI.of dat 117 6 0 [(.d (.st 2))] [] [(.d .bool)] [] true yc2 (R := Bool) (fun x => x.1) (fun r => (r, ())) (fun n x => zaz n x.1)
 (fun n => []) (ann [] (Tryz.f117.body.getD .skip) 0).1
noncomputable def zmr : List (FI dat) := [zg9, z0j, z17, znl] ++ [zgy, zf4, zgt, z9y]
theorem yl7 : (zg9).Good Tryz.prog dat (tb zmr) := FI.zz4 (hD := yz2 _) Tryz.func93 Tryz.ntmps93 Tryz.call93 (by kernel_rfl) (of_decide_eq_true (by kernel_rfl)) (by kernel_rfl) (fun n => by kernel_rfl) (fun x => by kernel_rfl) (fun _ => rfl) ⟨fun _ => rfl, fun _ => rfl, fun _ => rfl, fun _ => rfl, fun _ => rfl, trivial⟩
 (fun n => fun x => (zbq.eq_2 x.1 n).trans (by kernel_rfl))
 (fun n => ⟨fun x => (z55.eq_2 x.1 x.2.1 n).trans (by kernel_rfl),
  fun x => (z56.eq_2 x.1 x.2.1 n).trans (by kernel_rfl),
  fun x => (z84.eq_2 x.1 x.2.1 n).trans (by kernel_rfl),
  fun x => (z7n.eq_2 x.1 x.2.1 n).trans (by kernel_rfl),
  fun x => (z58.eq_2 x.1 n).trans (by kernel_rfl),
  trivial⟩)
 (fun x => .inl rfl)
theorem zbv : (z0j).Good Tryz.prog dat (tb zmr) := FI.zz4 (hD := yz2 _) Tryz.func28 Tryz.ntmps28 Tryz.call28 (by kernel_rfl) (of_decide_eq_true (by kernel_rfl)) (by kernel_rfl) (fun n => by kernel_rfl) (fun x => by kernel_rfl) (fun _ => rfl) trivial
 (fun n => fun x => (yzf.eq_2 x.1 n).trans (by kernel_rfl))
 (fun n => trivial)
 (fun x => .inl rfl)
theorem zd2 : (z17).Good Tryz.prog dat (tb zmr) := FI.zz4 (hD := yz2 _) Tryz.func63 Tryz.ntmps63 Tryz.call63 (by kernel_rfl) (of_decide_eq_true (by kernel_rfl)) (by kernel_rfl) (fun n => by kernel_rfl) (fun x => by kernel_rfl) (fun _ => rfl) ⟨fun _ => rfl, trivial⟩
 (fun n => fun x => (kzg.eq_2 x.1 n).trans (by kernel_rfl))
 (fun n => ⟨fun x => (kzb.eq_2 x.1 x.2.1 x.2.2.1 n).trans (by kernel_rfl),
  trivial⟩)
 (fun x => .inl rfl)
theorem ybx : (znl).Good Tryz.prog dat (tb zmr) := FI.zz4 (hD := yz2 _) Tryz.func117 Tryz.ntmps117 Tryz.call117 (by kernel_rfl) (of_decide_eq_true (by kernel_rfl)) (by kernel_rfl) (fun n => by kernel_rfl) (fun x => by kernel_rfl) (fun _ => rfl) trivial
 (fun n => fun x => (zaz.eq_2 x.1 n).trans (by kernel_rfl))
 (fun n => trivial)
 (fun x => .inl rfl)
theorem yk4 : OkL Tryz.prog [zg9, z0j, z17, znl] := z9e (yz2 _) (bs := [zgy, zf4, zgt, z9y]) ⟨yc5, y4t, ybo, ztt, trivial⟩ ⟨yl7, zbv, zd2, ybx, trivial⟩
theorem yf0 : FOk Tryz.prog zg9 := yk4.1
mutual
def z2d : Nat → zz1 → Option Int
 | 0, _ => none
 | n + 1, a0 =>
   (z7q n a0.re).bind fun y0 =>
   pIf (decide (y0.1 > 100))
     (z63 n true a0.re)
     (z63 n (decide (y0.2 > 12)) a0.re)
def z63 : Nat → Bool → zz1 → Option Int
 | 0, _, _ => none
 | n + 1, a0, a1 =>
   pIf a0
     (some 4)
     ((zbq n a1.re).bind fun y1 =>
     pIf (!y1)
       (some 8)
       (some 0))
end
def yhz : LSh := ⟨[(2, (.d (.int .i64)))], [], 0, 19⟩
noncomputable def z8k : FI dat := FI.of dat 57 19 0 [(.d (.st 2))] [] [(.d (.int .i64))] [] true yhz (R := Int) (fun x => x.1) (fun r => (r, ())) (fun n x => z2d n x.1)
 (fun n => [(0, ⟨⟨[(1, (.ptr 0 0)), (15, (.d .bool))], [(.st 2)], 0, 19⟩, fun x => z63 n x.1 x.2.1⟩)]) (ann [(7, 0)] (Tryz.f57.body.getD .skip) 0).1
noncomputable def yeo : List (FI dat) := [zb0, zg9]
theorem ygb : (z8k).Good Tryz.prog dat (tb yeo) := FI.zz4 (hD := yz2 _) Tryz.func57 Tryz.ntmps57 Tryz.call57 (by kernel_rfl) (of_decide_eq_true (by kernel_rfl)) (by kernel_rfl) (fun n => by kernel_rfl) (fun x => by kernel_rfl) (fun _ => rfl) ⟨fun _ => rfl, trivial⟩
 (fun n => fun x => (z2d.eq_2 x.1 n).trans (by kernel_rfl))
 (fun n => ⟨fun x => (z63.eq_2 x.1 x.2.1 n).trans (by kernel_rfl),
  trivial⟩)
 (fun x => .inl rfl)
theorem yh0 : OkL Tryz.prog [z8k] := yz7 (yz2 _) (bs := [zb0, zg9]) ⟨y22, yf0, trivial⟩ ygb
theorem zni : FOk Tryz.prog z8k := yh0.1
def z7f : Nat → (List UInt8) → Option Bool
 | 0, _ => none
 | n + 1, a0 =>
   (z2e n a0).bind fun y0 =>
   some (!y0)
def zyk : LSh := ⟨[(2, (.d .bool))], [], 0, 6⟩
noncomputable def zar : FI dat := FI.of dat 59 6 0 [(.d .str)] [] [(.d .bool)] [] true zyk (R := Bool) (fun x => x.1) (fun r => (r, ())) (fun n x => z7f n x.1)
 (fun n => []) (ann [] (Tryz.f59.body.getD .skip) 0).1
noncomputable def zys : List (FI dat) := [z6q]
theorem zy4 : (zar).Good Tryz.prog dat (tb zys) := FI.zz4 (hD := yz2 _) Tryz.func59 Tryz.ntmps59 Tryz.call59 (by kernel_rfl) (of_decide_eq_true (by kernel_rfl)) (by kernel_rfl) (fun n => by kernel_rfl) (fun x => by kernel_rfl) (fun _ => rfl) trivial
 (fun n => fun x => (z7f.eq_2 x.1 n).trans (by kernel_rfl))
 (fun n => trivial)
 (fun x => .inl rfl)
theorem zxl : OkL Tryz.prog [zar] := yz7 (yz2 _) (bs := [z6q]) ⟨zlh, trivial⟩ zy4
theorem zwe : FOk Tryz.prog zar := zxl.1
mutual
def zzv : Nat → (List (List UInt8)) → Option Int
 | 0, _ => none
 | n + 1, a0 =>
   zzl n 0 a0 (a0.length : Int)
def zzl : Nat → Int → (List (List UInt8)) → Int → Option Int
 | 0, _, _, _ => none
 | n + 1, a0, a1, a2 =>
   pIf (decide (a0 < a2))
     ((ix a1 a0).bind fun x0 =>
     (z7f n x0).bind fun y1 =>
     pIf y1
       (some a0)
       (zzl n (IntKind.i64.wrap (a0 + 1)) a1 a2))
     (some (-1))
end
def zgr : LSh := ⟨[(4, (.d (.int .i64)))], [], 0, 19⟩
noncomputable def zzx : FI dat := FI.of dat 94 19 0 [(.d (.sl .str)), (.fn 59 [] [])] [] [(.d (.int .i64))] [] true zgr (R := Int) (fun x => x.1) (fun r => (r, ())) (fun n x => zzv n x.1)
 (fun n => [(0, ⟨⟨[(8, (.d (.int .i64))), (0, (.d (.sl .str))), (1, (.fn 59 [] [])), (7, (.d (.int .i64)))], [], 0, 19⟩, fun x => zzl n x.1 x.2.1 x.2.2.1⟩)]) (ann [(6, 0)] (Tryz.f94.body.getD .skip) 0).1
noncomputable def zhg : List (FI dat) := [zar]
theorem zgv : (zzx).Good Tryz.prog dat (tb zhg) := FI.zz4 (hD := yz2 _) Tryz.func94 Tryz.ntmps94 Tryz.call94 (by kernel_rfl) (of_decide_eq_true (by kernel_rfl)) (by kernel_rfl) (fun n => by kernel_rfl) (fun x => by kernel_rfl) (fun _ => rfl) ⟨fun _ => rfl, trivial⟩
 (fun n => fun x => (zzv.eq_2 x.1 n).trans (by kernel_rfl))
 (fun n => ⟨fun x => (zzl.eq_2 x.1 x.2.1 x.2.2.1 n).trans (by kernel_rfl),
  trivial⟩)
 (fun x => .inl rfl)
theorem zgq : OkL Tryz.prog [zzx] := yz7 (yz2 _) (bs := [zar]) ⟨zwe, trivial⟩ zgv
theorem zgf : FOk Tryz.prog zzx := zgq.1
def yzl : Nat → (List (List UInt8)) → Option Bool
 | 0, _ => none
 | n + 1, a0 =>
   (zzv n a0).bind fun y0 =>
   some (decide (y0 ≥ 0))
def zfa : LSh := ⟨[(4, (.d .bool))], [], 0, 9⟩
noncomputable def kzs : FI dat := FI.of dat 58 9 0 [(.d (.sl .str)), (.fn 59 [] [])] [] [(.d .bool)] [] true zfa (R := Bool) (fun x => x.1) (fun r => (r, ())) (fun n x => yzl n x.1)
 (fun n => []) (ann [] (Tryz.f58.body.getD .skip) 0).1
noncomputable def zes : List (FI dat) := [zzx]
theorem zfn : (kzs).Good Tryz.prog dat (tb zes) := FI.zz4 (hD := yz2 _) Tryz.func58 Tryz.ntmps58 Tryz.call58 (by kernel_rfl) (of_decide_eq_true (by kernel_rfl)) (by kernel_rfl) (fun n => by kernel_rfl) (fun x => by kernel_rfl) (fun _ => rfl) trivial
 (fun n => fun x => (yzl.eq_2 x.1 n).trans (by kernel_rfl))
 (fun n => trivial)
 (fun x => .inl rfl)
theorem zfi : OkL Tryz.prog [kzs] := yz7 (yz2 _) (bs := [zzx]) ⟨zgf, trivial⟩ zfn
theorem zej : FOk Tryz.prog kzs := zfi.1
def zab : Nat → (List zz1) → Option zz1
 | 0, _ => none
 | n + 1, a0 =>
   some (zz1.mk 18 (yz1.mk 0 (yz6.mk 0 0) false [] []) [] a0)
def yhp : LSh := ⟨[(2, (.ptr 0 0))], [(.st 2)], 0, 5⟩
noncomputable def zhj : FI dat := FI.of dat 95 5 0 [(.d (.sl (.st 2)))] [] [(.d (.st 2))] [] true yhp (R := zz1) (fun x => x.1) (fun r => (r, ())) (fun n x => zab n x.1)
 (fun n => []) (ann [] (Tryz.f95.body.getD .skip) 0).1
noncomputable def yex : List (FI dat) := []
theorem yf4 : (zhj).Good Tryz.prog dat (tb yex) := FI.zz4 (hD := yz2 _) Tryz.func95 Tryz.ntmps95 Tryz.call95 (by kernel_rfl) (of_decide_eq_true (by kernel_rfl)) (by kernel_rfl) (fun n => by kernel_rfl) (fun x => by kernel_rfl) (fun _ => rfl) trivial
 (fun n => fun x => (zab.eq_2 x.1 n).trans (by kernel_rfl))
 (fun n => trivial)
 (fun x => .inl rfl)
theorem yfb : OkL Tryz.prog [zhj] := yz7 (yz2 _) (bs := []) trivial yf4
theorem y8p : FOk Tryz.prog zhj := yfb.1
mutual
def z9x : Nat → Int → Option Int
 | 0, _ => none
 | n + 1, a0 =>
   pIf (a0 == 2)
     (z80 n a0 true)
     (z80 n a0 (a0 == 3))
def z80 : Nat → Int → Bool → Option Int
 | 0, _, _ => none
 | n + 1, a0, a1 =>
   pIf a1
     (some 3)
     (pIf (a0 == 4)
       (z7o n true)
       (z7o n (a0 == 6)))
def z7o : Nat → Bool → Option Int
 | 0, _ => none
 | n + 1, a0 =>
   pIf a0
     (some 1)
     (some 0)
end
def yjl : LSh := ⟨[(2, (.d (.int .i64)))], [], 0, 10⟩
noncomputable def zd8 : FI dat := FI.of dat 50 10 0 [(.d (.int .u8))] [] [(.d (.int .i64))] [] true yjl (R := Int) (fun x => x.1) (fun r => (r, ())) (fun n x => z9x n x.1)
 (fun n => [(0, ⟨⟨[(3, (.d (.int .u8))), (4, (.d .bool))], [], 0, 10⟩, fun x => z80 n x.1 x.2.1⟩), (1, ⟨⟨[(7, (.d .bool))], [], 0, 10⟩, fun x => z7o n x.1⟩)]) (ann [(12, 0), (22, 1)] (Tryz.f50.body.getD .skip) 0).1
noncomputable def yj4 : List (FI dat) := []
theorem yll : (zd8).Good Tryz.prog dat (tb yj4) := FI.zz4 (hD := yz2 _) Tryz.func50 Tryz.ntmps50 Tryz.call50 (by kernel_rfl) (of_decide_eq_true (by kernel_rfl)) (by kernel_rfl) (fun n => by kernel_rfl) (fun x => by kernel_rfl) (fun _ => rfl) ⟨fun _ => rfl, fun _ => rfl, trivial⟩
 (fun n => fun x => (z9x.eq_2 x.1 n).trans (by kernel_rfl))
 (fun n => ⟨fun x => (z80.eq_2 x.1 x.2.1 n).trans (by kernel_rfl),
  fun x => (z7o.eq_2 x.1 n).trans (by kernel_rfl),
  trivial⟩)
 (fun x => .inl rfl)
theorem yjz : OkL Tryz.prog [zd8] := yz7 (yz2 _) (bs := []) trivial yll
theorem zx1 : FOk Tryz.prog zd8 := yjz.1
mutual
def z54 : Nat → zz3 → Option Bool
 | 0, _ => none
 | n + 1, a0 =>
   pIf (decide (a0.kind ≥ 1))
     (z0f n (decide (a0.kind ≤ 4)) a0)
     (z0f n false a0)
def z0f : Nat → Bool → zz3 → Option Bool
 | 0, _, _ => none
 | n + 1, a0, a1 =>
   pIf (a1.kind == 4)
     (z0i n a0 0 true a1)
     (z0i n a0 0 (a1.kind == 5) a1)
def z0i : Nat → Bool → Int → Bool → zz3 → Option Bool
 | 0, _, _, _, _ => none
 | n + 1, a0, a1, a2, a3 =>
   pIf a2
     (z0h n a0 2 a3)
     (z0h n a0 a1 a3)
def z0h : Nat → Bool → Int → zz3 → Option Bool
 | 0, _, _, _ => none
 | n + 1, a0, a1, a2 =>
   pIf (decide (a2.kind < 1))
     (zzy n a0 true a2)
     (pIf (decide (a2.kind > 6))
       (zzy n a0 true a2)
       (zzy n a0 (decide (a2.axis > a1)) a2))
def zzy : Nat → Bool → Bool → zz3 → Option Bool
 | 0, _, _, _ => none
 | n + 1, a0, a1, a2 =>
   pIf a1
     (some false)
     ((z2e n a2.name).bind fun y0 =>
     pIf (!(a0 == y0))
       (kzw n a0 true a2)
       (pIf (!a0)
         (kzw n a0 (!(a2.name == [])) a2)
         (kzw n a0 false a2)))
def kzw : Nat → Bool → Bool → zz3 → Option Bool
 | 0, _, _, _ => none
 | n + 1, a0, a1, a2 =>
   pIf a1
     (some false)
     ((zab n a2.args).bind fun y1 =>
     (z2d n y1.re).bind fun y2 =>
     pIf (y2 != 0)
       (yzs n true a2)
       ((z9x n a2.kind).bind fun y3 =>
       pIf (decide ((a2.args.length : Int) < y3))
         (yzs n true a2)
         (pIf (!a0)
           ((z9x n a2.kind).bind fun y4 =>
           yzs n ((a2.args.length : Int) != y4) a2)
           (yzs n false a2))))
def yzs : Nat → Bool → zz3 → Option Bool
 | 0, _, _ => none
 | n + 1, a0, a1 =>
   pIf a0
     (some false)
     (pIf (!((a1.kind == 5) == (decide ((a1.items.length : Int) > 0))))
       (some false)
       (kzx n 0 a1.items (a1.items.length : Int)))
def kzx : Nat → Int → (List zza) → Int → Option Bool
 | 0, _, _, _ => none
 | n + 1, a0, a1, a2 =>
   pIf (decide (a0 < a2))
     ((ix a1 a0).bind fun x5 =>
     pIf (decide (x5.kind < 1))
       (kzn n a1 a2 a0 true)
       (pIf (decide (x5.kind > 3))
         (kzn n a1 a2 a0 true)
         ((z2e n x5.name).bind fun y6 =>
         pIf (!y6)
           (kzn n a1 a2 a0 true)
           (pIf ((x5.args.length : Int) == 0)
             (kzn n a1 a2 a0 true)
             ((zab n x5.args).bind fun y7 =>
             (z2d n y7.re).bind fun y8 =>
             kzn n a1 a2 a0 (y8 != 0))))))
     (some true)
def kzn : Nat → (List zza) → Int → Int → Bool → Option Bool
 | 0, _, _, _, _ => none
 | n + 1, a0, a1, a2, a3 =>
   pIf a3
     (some false)
     (kzx n (IntKind.i64.wrap (a2 + 1)) a0 a1)
end
def zu0 : LSh := ⟨[(2, (.d .bool))], [], 0, 125⟩
noncomputable def z98 : FI dat := FI.of dat 60 125 0 [(.d (.st 5))] [] [(.d .bool)] [] true zu0 (R := Bool) (fun x => x.1) (fun r => (r, ())) (fun n x => z54 n x.1)
 (fun n => [(0, ⟨⟨[(1, (.ptr 0 0)), (3, (.d .bool))], [(.st 5)], 0, 125⟩, fun x => z0f n x.1 x.2.1⟩), (1, ⟨⟨[(1, (.ptr 0 0)), (3, (.d .bool)), (4, (.d (.int .u8))), (22, (.d .bool))], [(.st 5)], 0, 125⟩, fun x => z0i n x.1 x.2.1 x.2.2.1 x.2.2.2.1⟩), (2, ⟨⟨[(1, (.ptr 0 0)), (3, (.d .bool)), (4, (.d (.int .u8)))], [(.st 5)], 0, 125⟩, fun x => z0h n x.1 x.2.1 x.2.2.1⟩), (3, ⟨⟨[(1, (.ptr 0 0)), (3, (.d .bool)), (23, (.d .bool))], [(.st 5)], 0, 125⟩, fun x => zzy n x.1 x.2.1 x.2.2.1⟩), (4, ⟨⟨[(1, (.ptr 0 0)), (3, (.d .bool)), (38, (.d .bool))], [(.st 5)], 0, 125⟩, fun x => kzw n x.1 x.2.1 x.2.2.1⟩), (5, ⟨⟨[(1, (.ptr 0 0)), (53, (.d .bool))], [(.st 5)], 0, 125⟩, fun x => yzs n x.1 x.2.1⟩), (6, ⟨⟨[(93, (.d (.int .i64))), (91, (.d (.sl (.st 4)))), (92, (.d (.int .i64)))], [], 0, 125⟩, fun x => kzx n x.1 x.2.1 x.2.2.1⟩), (7, ⟨⟨[(91, (.d (.sl (.st 4)))), (92, (.d (.int .i64))), (93, (.d (.int .i64))), (123, (.d .bool))], [], 0, 125⟩, fun x => kzn n x.1 x.2.1 x.2.2.1 x.2.2.2.1⟩)]) (ann [(4, 0), (9, 1), (12, 2), (16, 3), (22, 4), (28, 5), (43, 6), (56, 7)] (Tryz.f60.body.getD .skip) 0).1
noncomputable def zun : List (FI dat) := [z6q, zhj, z8k, zd8]
theorem zub : (z98).Good Tryz.prog dat (tb zun) := FI.zz4 (hD := yz2 _) Tryz.func60 Tryz.ntmps60 Tryz.call60 (by kernel_rfl) (of_decide_eq_true (by kernel_rfl)) (by kernel_rfl) (fun n => by kernel_rfl) (fun x => by kernel_rfl) (fun _ => rfl) ⟨fun _ => rfl, fun _ => rfl, fun _ => rfl, fun _ => rfl, fun _ => rfl, fun _ => rfl, fun _ => rfl, fun _ => rfl, trivial⟩
 (fun n => fun x => (z54.eq_2 x.1 n).trans (by kernel_rfl))
 (fun n => ⟨fun x => (z0f.eq_2 x.1 x.2.1 n).trans (by kernel_rfl),
  fun x => (z0i.eq_2 x.1 x.2.1 x.2.2.1 x.2.2.2.1 n).trans (by kernel_rfl),
  fun x => (z0h.eq_2 x.1 x.2.1 x.2.2.1 n).trans (by kernel_rfl),
  fun x => (zzy.eq_2 x.1 x.2.1 x.2.2.1 n).trans (by kernel_rfl),
  fun x => (kzw.eq_2 x.1 x.2.1 x.2.2.1 n).trans (by kernel_rfl),
  fun x => (yzs.eq_2 x.1 x.2.1 n).trans (by kernel_rfl),
  fun x => (kzx.eq_2 x.1 x.2.1 x.2.2.1 n).trans (by kernel_rfl),
  fun x => (kzn.eq_2 x.1 x.2.1 x.2.2.1 x.2.2.2.1 n).trans (by kernel_rfl),
  trivial⟩)
 (fun x => .inl rfl)
theorem zty : OkL Tryz.prog [z98] := yz7 (yz2 _) (bs := [z6q, zhj, z8k, zd8]) ⟨zlh, y8p, zni, zx1, trivial⟩ zub
theorem zsw : FOk Tryz.prog z98 := zty.1
end Go.Proofs.YtflgdagdibabiaaGreat


namespace Go.Proofs.YtflgdagdibabiaaGreat
open Go Go.Ab
set_option linter.unusedVariables false
set_option maxRecDepth 100000
set_option maxHeartbeats 4000000
mutual
def z9n : Nat → yz0 → Option Bool
 | 0, _ => none
 | n + 1, a0 =>
   z1m n 0 a0.attrs (a0.attrs.length : Int) a0
def z1m : Nat → Int → (List kz9) → Int → yz0 → Option Bool
 | 0, _, _, _, _ => none
 | n + 1, a0, a1, a2, a3 =>
   pIf (decide (a0 < a2))
     ((ix a1 a0).bind fun x0 =>
     (z2e n x0.name).bind fun y1 =>
     pIf (!y1)
       (z30 n a1 a2 a0 true a3)
       ((z2d n x0.value.re).bind fun y2 =>
       z30 n a1 a2 a0 (y2 != 0) a3))
     (z1p n 0 a3.rules (a3.rules.length : Int))
def z30 : Nat → (List kz9) → Int → Int → Bool → yz0 → Option Bool
 | 0, _, _, _, _, _ => none
 | n + 1, a0, a1, a2, a3, a4 =>
   pIf a3
     (some false)
     (z1m n (IntKind.i64.wrap (a2 + 1)) a0 a1 a4)
def z1p : Nat → Int → (List kz4) → Int → Option Bool
 | 0, _, _, _ => none
 | n + 1, a0, a1, a2 =>
   pIf (decide (a0 < a2))
     ((ix a1 a0).bind fun x3 =>
     (z2e n x3.name).bind fun y4 =>
     pIf (!y4)
       (z32 n a1 a2 a0 true x3)
       ((yzl n x3.params).bind fun y5 =>
       z32 n a1 a2 a0 y5 x3))
     (some true)
def z32 : Nat → (List kz4) → Int → Int → Bool → kz4 → Option Bool
 | 0, _, _, _, _, _ => none
 | n + 1, a0, a1, a2, a3, a4 =>
   pIf a3
     (some false)
     (z1o n 0 a4.cases a0 a1 a2 (a4.cases.length : Int))
def z1o : Nat → Int → (List zz5) → (List kz4) → Int → Int → Int → Option Bool
 | 0, _, _, _, _, _, _ => none
 | n + 1, a0, a1, a2, a3, a4, a5 =>
   pIf (decide (a0 < a5))
     ((ix a1 a0).bind fun x6 =>
     pIf (decide (x6.weight < 1))
       (z1q n a1 a2 a3 a4 a5 a0 true x6.re)
       (pIf (decide (x6.weight > 1000000))
         (z1q n a1 a2 a3 a4 a5 a0 true x6.re)
         ((z2d n x6.when_.re).bind fun y7 =>
         z1q n a1 a2 a3 a4 a5 a0 (y7 != 0) x6.re)))
     (z1p n (IntKind.i64.wrap (a4 + 1)) a2 a3)
def z1q : Nat → (List zz5) → (List kz4) → Int → Int → Int → Int → Bool → zz5 → Option Bool
 | 0, _, _, _, _, _, _, _, _ => none
 | n + 1, a0, a1, a2, a3, a4, a5, a6, a7 =>
   pIf a6
     (some false)
     (z1i n 0 a7.do_ a0 a1 a2 a3 a4 a5 (a7.do_.length : Int))
def z1i : Nat → Int → (List zz3) → (List zz5) → (List kz4) → Int → Int → Int → Int → Int → Option Bool
 | 0, _, _, _, _, _, _, _, _, _ => none
 | n + 1, a0, a1, a2, a3, a4, a5, a6, a7, a8 =>
   pIf (decide (a0 < a8))
     ((ix a1 a0).bind fun x8 =>
     (z54 n x8).bind fun y9 =>
     pIf (!y9)
       (some false)
       (z1i n (IntKind.i64.wrap (a0 + 1)) a1 a2 a3 a4 a5 a6 a7 a8))
     (z1o n (IntKind.i64.wrap (a7 + 1)) a2 a3 a4 a5 a6)
end
def y4c : LSh := ⟨[(2, (.d .bool))], [], 0, 79⟩
noncomputable def zdp : FI dat := FI.of dat 25 79 0 [(.d (.st 8))] [] [(.d .bool)] [] true y4c (R := Bool) (fun x => x.1) (fun r => (r, ())) (fun n x => z9n n x.1)
 (fun n => [(0, ⟨⟨[(14, (.d (.int .i64))), (12, (.d (.sl (.st 3)))), (1, (.ptr 0 0)), (13, (.d (.int .i64)))], [(.st 8)], 0, 79⟩, fun x => z1m n x.1 x.2.1 x.2.2.1 x.2.2.2.1⟩), (1, ⟨⟨[(12, (.d (.sl (.st 3)))), (1, (.ptr 0 0)), (13, (.d (.int .i64))), (14, (.d (.int .i64))), (27, (.d .bool))], [(.st 8)], 0, 79⟩, fun x => z30 n x.1 x.2.1 x.2.2.1 x.2.2.2.1 x.2.2.2.2.1⟩), (2, ⟨⟨[(32, (.d (.int .i64))), (30, (.d (.sl (.st 7)))), (31, (.d (.int .i64)))], [], 0, 79⟩, fun x => z1p n x.1 x.2.1 x.2.2.1⟩), (3, ⟨⟨[(30, (.d (.sl (.st 7)))), (31, (.d (.int .i64))), (32, (.d (.int .i64))), (6, (.ptr 0 0)), (44, (.d .bool))], [(.st 7)], 0, 79⟩, fun x => z32 n x.1 x.2.1 x.2.2.1 x.2.2.2.1 x.2.2.2.2.1⟩), (4, ⟨⟨[(48, (.d (.int .i64))), (46, (.d (.sl (.st 6)))), (30, (.d (.sl (.st 7)))), (31, (.d (.int .i64))), (32, (.d (.int .i64))), (47, (.d (.int .i64)))], [], 0, 79⟩, fun x => z1o n x.1 x.2.1 x.2.2.1 x.2.2.2.1 x.2.2.2.2.1 x.2.2.2.2.2.1⟩), (5, ⟨⟨[(46, (.d (.sl (.st 6)))), (30, (.d (.sl (.st 7)))), (31, (.d (.int .i64))), (32, (.d (.int .i64))), (47, (.d (.int .i64))), (48, (.d (.int .i64))), (8, (.ptr 0 0)), (65, (.d .bool))], [(.st 6)], 0, 79⟩, fun x => z1q n x.1 x.2.1 x.2.2.1 x.2.2.2.1 x.2.2.2.2.1 x.2.2.2.2.2.1 x.2.2.2.2.2.2.1 x.2.2.2.2.2.2.2.1⟩), (6, ⟨⟨[(69, (.d (.int .i64))), (67, (.d (.sl (.st 5)))), (46, (.d (.sl (.st 6)))), (30, (.d (.sl (.st 7)))), (31, (.d (.int .i64))), (32, (.d (.int .i64))), (47, (.d (.int .i64))), (48, (.d (.int .i64))), (68, (.d (.int .i64)))], [], 0, 79⟩, fun x => z1i n x.1 x.2.1 x.2.2.1 x.2.2.2.1 x.2.2.2.2.1 x.2.2.2.2.2.1 x.2.2.2.2.2.2.1 x.2.2.2.2.2.2.2.1 x.2.2.2.2.2.2.2.2.1⟩)]) (ann [(6, 0), (19, 1), (29, 2), (43, 3), (51, 4), (65, 5), (73, 6)] (Tryz.f25.body.getD .skip) 0).1
noncomputable def y2y : List (FI dat) := [z6q, z8k, kzs, z98]
theorem y58 : (zdp).Good Tryz.prog dat (tb y2y) := FI.zz4 (hD := yz2 _) Tryz.func25 Tryz.ntmps25 Tryz.call25 (by kernel_rfl) (of_decide_eq_true (by kernel_rfl)) (by kernel_rfl) (fun n => by kernel_rfl) (fun x => by kernel_rfl) (fun _ => rfl) ⟨fun _ => rfl, fun _ => rfl, fun _ => rfl, fun _ => rfl, fun _ => rfl, fun _ => rfl, fun _ => rfl, trivial⟩
 (fun n => fun x => (z9n.eq_2 x.1 n).trans (by kernel_rfl))
 (fun n => ⟨fun x => (z1m.eq_2 x.1 x.2.1 x.2.2.1 x.2.2.2.1 n).trans (by kernel_rfl),
  fun x => (z30.eq_2 x.1 x.2.1 x.2.2.1 x.2.2.2.1 x.2.2.2.2.1 n).trans (by kernel_rfl),
  fun x => (z1p.eq_2 x.1 x.2.1 x.2.2.1 n).trans (by kernel_rfl),
  fun x => (z32.eq_2 x.1 x.2.1 x.2.2.1 x.2.2.2.1 x.2.2.2.2.1 n).trans (by kernel_rfl),
  fun x => (z1o.eq_2 x.1 x.2.1 x.2.2.1 x.2.2.2.1 x.2.2.2.2.1 x.2.2.2.2.2.1 n).trans (by kernel_rfl),
  fun x => (z1q.eq_2 x.1 x.2.1 x.2.2.1 x.2.2.2.1 x.2.2.2.2.1 x.2.2.2.2.2.1 x.2.2.2.2.2.2.1 x.2.2.2.2.2.2.2.1 n).trans (by kernel_rfl),
  fun x => (z1i.eq_2 x.1 x.2.1 x.2.2.1 x.2.2.2.1 x.2.2.2.2.1 x.2.2.2.2.2.1 x.2.2.2.2.2.2.1 x.2.2.2.2.2.2.2.1 x.2.2.2.2.2.2.2.2.1 n).trans (by kernel_rfl),
  trivial⟩)
 (fun x => .inl rfl)
theorem y6i : OkL Tryz.prog [zdp] := yz7 (yz2 _) (bs := [z6q, z8k, kzs, z98]) ⟨zlh, zni, zej, zsw, trivial⟩ y58
theorem y24 : FOk Tryz.prog zdp := y6i.1
mutual
def zzp : Nat → (List UInt8) → (List (List UInt8)) → Option (Int × (List (List UInt8)))
 | 0, _, _ => none
 | n + 1, a0, a1 =>
   kzi n 0 a0 (a1.length : Int) a1
def kzi : Nat → Int → (List UInt8) → Int → (List (List UInt8)) → Option (Int × (List (List UInt8)))
 | 0, _, _, _, _ => none
 | n + 1, a0, a1, a2, a3 =>
   pIf (decide (a0 < a2))
     ((ix a3 a0).bind fun x0 =>
     pIf (a1 == x0)
       (some (a0, a3))
       (kzi n (IntKind.i64.wrap (a0 + 1)) a1 a2 a3))
     (some ((-1), a3))
end
def zhl : LSh := ⟨[(4, (.d (.int .i64)))], [(.acc 9 .str true)], 1, 19⟩
noncomputable def zzz : FI dat := FI.of dat 27 19 1 [(.own 0), (.d .str)] [(.acc 9 .str true)] [(.d (.int .i64))] [(.acc 9 .str true)] false zhl (R := Int × (List (List UInt8))) (fun x => (x.1, x.2.1)) (fun r => (r.1, r.2, ())) (fun n x => zzp n x.1 x.2.1)
 (fun n => [(0, ⟨⟨[(8, (.d (.int .i64))), (0, (.own 0)), (1, (.d .str)), (7, (.d (.int .i64)))], [(.acc 9 .str true)], 1, 19⟩, fun x => kzi n x.1 x.2.1 x.2.2.1 x.2.2.2.1⟩)]) (ann [(6, 0)] (Tryz.f27.body.getD .skip) 0).1
noncomputable def zhm : List (FI dat) := []
theorem zhp : (zzz).Good Tryz.prog dat (tb zhm) := FI.zz4 (hD := yz2 _) Tryz.func27 Tryz.ntmps27 Tryz.call27 (by kernel_rfl) (of_decide_eq_true (by kernel_rfl)) (by kernel_rfl) (fun n => by kernel_rfl) (fun x => by kernel_rfl) (fun _ => rfl) ⟨fun _ => rfl, trivial⟩
 (fun n => fun x => (zzp.eq_2 x.1 x.2.1 n).trans (by kernel_rfl))
 (fun n => ⟨fun x => (kzi.eq_2 x.1 x.2.1 x.2.2.1 x.2.2.2.1 n).trans (by kernel_rfl),
  trivial⟩)
 (fun x => .inr (by kernel_rfl))
theorem zho : OkL Tryz.prog [zzz] := yz7 (yz2 _) (bs := []) trivial zhp
theorem zgo : FOk Tryz.prog zzz := zho.1
def zzm : Nat → (List UInt8) → (List (List UInt8)) → Option (Bool × (List (List UInt8)))
 | 0, _, _ => none
 | n + 1, a0, a1 =>
   (zzp n a0 a1).bind fun y0 =>
   some ((decide (y0.1 ≥ 0)), y0.2)
def zfv : LSh := ⟨[(4, (.d .bool))], [(.acc 9 .str true)], 1, 9⟩
noncomputable def yzu : FI dat := FI.of dat 91 9 1 [(.own 0), (.d .str)] [(.acc 9 .str true)] [(.d .bool)] [(.acc 9 .str true)] false zfv (R := Bool × (List (List UInt8))) (fun x => (x.1, x.2.1)) (fun r => (r.1, r.2, ())) (fun n x => zzm n x.1 x.2.1)
 (fun n => []) (ann [] (Tryz.f91.body.getD .skip) 0).1
noncomputable def zfw : List (FI dat) := [zzz]
theorem zfz : (yzu).Good Tryz.prog dat (tb zfw) := FI.zz4 (hD := yz2 _) Tryz.func91 Tryz.ntmps91 Tryz.call91 (by kernel_rfl) (of_decide_eq_true (by kernel_rfl)) (by kernel_rfl) (fun n => by kernel_rfl) (fun x => by kernel_rfl) (fun _ => rfl) trivial
 (fun n => fun x => (zzm.eq_2 x.1 x.2.1 n).trans (by kernel_rfl))
 (fun n => trivial)
 (fun x => .inr (by kernel_rfl))
theorem zfy : OkL Tryz.prog [yzu] := yz7 (yz2 _) (bs := [zzz]) ⟨zgo, trivial⟩ zfz
theorem zev : FOk Tryz.prog yzu := zfy.1
mutual
def za9 : Nat → zz1 → (List (List UInt8)) → Option (List (List UInt8))
 | 0, _, _ => none
 | n + 1, a0, a1 =>
   pIf (a0.op == 2)
     ((zzm n a0.name a1).bind fun y0 =>
     z8t n (!y0.1) y0.2 a0.re)
     (z8t n false a1 a0.re)
def z8t : Nat → Bool → (List (List UInt8)) → zz1 → Option (List (List UInt8))
 | 0, _, _, _ => none
 | n + 1, a0, a1, a2 =>
   pIf a0
     ((ext a1 [a2.name]).bind fun x1 =>
     z65 n x1 a2.re)
     (z65 n a1 a2.re)
def z65 : Nat → (List (List UInt8)) → zz1 → Option (List (List UInt8))
 | 0, _, _ => none
 | n + 1, a0, a1 =>
   z5y n 0 a1.args (a1.args.length : Int) a0
def z5y : Nat → Int → (List zz1) → Int → (List (List UInt8)) → Option (List (List UInt8))
 | 0, _, _, _, _ => none
 | n + 1, a0, a1, a2, a3 =>
   pIf (decide (a0 < a2))
     ((ix a1 a0).bind fun x2 =>
     (za9 n x2.re a3).bind fun y3 =>
     z5y n (IntKind.i64.wrap (a0 + 1)) a1 a2 y3)
     (some a3)
end
def yen : LSh := ⟨[], [(.cells [(.own 1)]), (.acc 9 .str true)], 1, 38⟩
noncomputable def ze0 : FI dat := FI.of dat 96 38 1 [(.d (.st 2)), (.ptr 0 0)] [(.cells [(.own 1)]), (.acc 9 .str true)] [] [(.cells [(.own 1)]), (.acc 9 .str true)] false yen (R := List (List UInt8)) (fun x => x.1) (fun r => (r, ())) (fun n x => za9 n x.1 x.2.1)
 (fun n => [(0, ⟨⟨[(1, (.ptr 0 0)), (2, (.ptr 2 0)), (17, (.d .bool))], [(.cells [(.own 1)]), (.acc 9 .str true), (.st 2)], 1, 38⟩, fun x => z8t n x.1 x.2.1 x.2.2.1⟩), (1, ⟨⟨[(1, (.ptr 0 0)), (2, (.ptr 2 0))], [(.cells [(.own 1)]), (.acc 9 .str true), (.st 2)], 1, 38⟩, fun x => z65 n x.1 x.2.1⟩), (2, ⟨⟨[(30, (.d (.int .i64))), (1, (.ptr 0 0)), (28, (.d (.sl (.st 2)))), (29, (.d (.int .i64)))], [(.cells [(.own 1)]), (.acc 9 .str true)], 1, 38⟩, fun x => z5y n x.1 x.2.1 x.2.2.1 x.2.2.2.1⟩)]) (ann [(5, 0), (8, 1), (11, 2)] (Tryz.f96.body.getD .skip) 0).1
noncomputable def ygz : List (FI dat) := [ze0] ++ [yzu]
theorem yhs : (ze0).Good Tryz.prog dat (tb ygz) := FI.zz4 (hD := yz2 _) Tryz.func96 Tryz.ntmps96 Tryz.call96 (by kernel_rfl) (of_decide_eq_true (by kernel_rfl)) (by kernel_rfl) (fun n => by kernel_rfl) (fun x => by kernel_rfl) (fun _ => rfl) ⟨fun _ => rfl, fun _ => rfl, fun _ => rfl, trivial⟩
 (fun n => fun x => (za9.eq_2 x.1 x.2.1 n).trans (by kernel_rfl))
 (fun n => ⟨fun x => (z8t.eq_2 x.1 x.2.1 x.2.2.1 n).trans (by kernel_rfl),
  fun x => (z65.eq_2 x.1 x.2.1 n).trans (by kernel_rfl),
  fun x => (z5y.eq_2 x.1 x.2.1 x.2.2.1 x.2.2.2.1 n).trans (by kernel_rfl),
  trivial⟩)
 (fun x => .inr (by kernel_rfl))
theorem yhj : OkL Tryz.prog [ze0] := z9e (yz2 _) (bs := [yzu]) ⟨zev, trivial⟩ ⟨yhs, trivial⟩
theorem yaw : FOk Tryz.prog ze0 := yhj.1
def zcc : Nat → zz1 → Option ((List (List UInt8)) × Int)
 | 0, _ => none
 | n + 1, a0 =>
   (z2d n a0.re).bind fun y0 =>
   pIf (y0 != 0)
     (some ([], y0))
     ((za9 n a0.re []).bind fun y1 =>
     (kzp n y1).bind fun y2 =>
     some (y2, 0))
def yej : LSh := ⟨[(2, (.d (.sl .str))), (3, (.d (.int .i64)))], [], 0, 16⟩
noncomputable def zgl : FI dat := FI.of dat 61 16 0 [(.d (.st 2))] [] [(.d (.sl .str)), (.d (.int .i64))] [] true yej (R := (List (List UInt8)) × Int) (fun x => (x.1, x.2.1)) (fun r => (r.1, r.2, ())) (fun n x => zcc n x.1)
 (fun n => []) (ann [] (Tryz.f61.body.getD .skip) 0).1
noncomputable def yfd : List (FI dat) := [ze0, zzs, z8k]
theorem ygj : (zgl).Good Tryz.prog dat (tb yfd) := FI.zz4 (hD := yz2 _) Tryz.func61 Tryz.ntmps61 Tryz.call61 (by kernel_rfl) (of_decide_eq_true (by kernel_rfl)) (by kernel_rfl) (fun n => by kernel_rfl) (fun x => by kernel_rfl) (fun _ => rfl) trivial
 (fun n => fun x => (zcc.eq_2 x.1 n).trans (by kernel_rfl))
 (fun n => trivial)
 (fun x => .inl rfl)
theorem yfs : OkL Tryz.prog [zgl] := yz7 (yz2 _) (bs := [ze0, zzs, z8k]) ⟨yaw, z7t, zni, trivial⟩ ygj
theorem y82 : FOk Tryz.prog zgl := yfs.1
def z9q : Nat → (List UInt8) → (List (List UInt8)) → (List Bool) → Option (Bool × (List (List UInt8)) × (List Bool))
 | 0, _, _, _ => none
 | n + 1, a0, a1, a2 =>
   some ((!(Option.getD (zby (List.zip a1 a2) a0) false)), (mks (List.zip a1 a2)), (mvs (List.zip a1 a2)))
def y4x : LSh := ⟨[(3, (.d .bool))], [(.cells [(.map 1)]), (.mp 70 .bool)], 2, 8⟩
noncomputable def zdj : FI dat := FI.of dat 62 8 2 [(.d .str), (.ptr 0 0)] [(.cells [(.map 1)]), (.mp 70 .bool)] [(.d .bool)] [(.cells [(.map 1)]), (.mp 70 .bool)] false y4x (R := Bool × (List (List UInt8)) × (List Bool)) (fun x => (x.1, x.2.1, x.2.2.1)) (fun r => (r.1, r.2.1, r.2.2, ())) (fun n x => z9q n x.1 x.2.1 x.2.2.1)
 (fun n => []) (ann [] (Tryz.f62.body.getD .skip) 0).1
noncomputable def y3t : List (FI dat) := []
theorem y6s : (zdj).Good Tryz.prog dat (tb y3t) := FI.zz4 (hD := yz2 _) Tryz.func62 Tryz.ntmps62 Tryz.call62 (by kernel_rfl) (of_decide_eq_true (by kernel_rfl)) (by kernel_rfl) (fun n => by kernel_rfl) (fun x => by kernel_rfl) (fun _ => rfl) trivial
 (fun n => fun x => (z9q.eq_2 x.1 x.2.1 x.2.2.1 n).trans (by kernel_rfl))
 (fun n => trivial)
 (fun x => .inr (by kernel_rfl))
theorem y7l : OkL Tryz.prog [zdj] := yz7 (yz2 _) (bs := []) trivial y6s
theorem y19 : FOk Tryz.prog zdj := y7l.1
mutual
def yzr : Nat → (List (List UInt8)) → (List (List UInt8)) → (List Bool) → Option (Int × (List (List UInt8)) × (List Bool))
 | 0, _, _, _ => none
 | n + 1, a0, a1, a2 =>
   yze n 0 a0 (a0.length : Int) (mks (List.zip a1 a2)) (mvs (List.zip a1 a2))
def yze : Nat → Int → (List (List UInt8)) → Int → (List (List UInt8)) → (List Bool) → Option (Int × (List (List UInt8)) × (List Bool))
 | 0, _, _, _, _, _ => none
 | n + 1, a0, a1, a2, a3, a4 =>
   pIf (decide (a0 < a2))
     ((ix a1 a0).bind fun x0 =>
     (z9q n x0 (mks (List.zip a3 a4)) (mvs (List.zip a3 a4))).bind fun y1 =>
     pIf y1.1
       (some (a0, (mks (List.zip y1.2.1 y1.2.2)), (mvs (List.zip y1.2.1 y1.2.2))))
       (yze n (IntKind.i64.wrap (a0 + 1)) a1 a2 (mks (List.zip y1.2.1 y1.2.2)) (mvs (List.zip y1.2.1 y1.2.2))))
     (some ((-1), (mks (List.zip a3 a4)), (mvs (List.zip a3 a4))))
end
def zet : LSh := ⟨[(4, (.d (.int .i64)))], [(.cells [(.map 1)]), (.mp 70 .bool)], 2, 19⟩
noncomputable def zzt : FI dat := FI.of dat 94 19 2 [(.d (.sl .str)), (.fn 62 [] [(.ptr 0 0)])] [(.cells [(.map 1)]), (.mp 70 .bool)] [(.d (.int .i64))] [(.cells [(.map 1)]), (.mp 70 .bool)] false zet (R := Int × (List (List UInt8)) × (List Bool)) (fun x => (x.1, x.2.1, x.2.2.1)) (fun r => (r.1, r.2.1, r.2.2, ())) (fun n x => yzr n x.1 x.2.1 x.2.2.1)
 (fun n => [(0, ⟨⟨[(8, (.d (.int .i64))), (0, (.d (.sl .str))), (1, (.fn 62 [] [(.ptr 0 0)])), (7, (.d (.int .i64)))], [(.cells [(.map 1)]), (.mp 70 .bool)], 2, 19⟩, fun x => yze n x.1 x.2.1 x.2.2.1 x.2.2.2.1 x.2.2.2.2.1⟩)]) (ann [(6, 0)] (Tryz.f94.body.getD .skip) 0).1
noncomputable def zfj : List (FI dat) := [zdj]
theorem zfd : (zzt).Good Tryz.prog dat (tb zfj) := FI.zz4 (hD := yz2 _) Tryz.func94 Tryz.ntmps94 Tryz.call94 (by kernel_rfl) (of_decide_eq_true (by kernel_rfl)) (by kernel_rfl) (fun n => by kernel_rfl) (fun x => by kernel_rfl) (fun _ => rfl) ⟨fun _ => rfl, trivial⟩
 (fun n => fun x => (yzr.eq_2 x.1 x.2.1 x.2.2.1 n).trans (by kernel_rfl))
 (fun n => ⟨fun x => (yze.eq_2 x.1 x.2.1 x.2.2.1 x.2.2.2.1 x.2.2.2.2.1 n).trans (by kernel_rfl),
  trivial⟩)
 (fun x => .inr (by kernel_rfl))
theorem zf2 : OkL Tryz.prog [zzt] := yz7 (yz2 _) (bs := [zdj]) ⟨y19, trivial⟩ zfd
theorem zer : FOk Tryz.prog zzt := zf2.1
end Go.Proofs.YtflgdagdibabiaaGreat

