/-
  The Go functions compute what their Lean functions do, by a program of this repo.
-/
import Derived.Test.YtabknpjajioneaaFns
import Derived.Test.YtabknpjajioneaaFacts
import Derived.Test.YtabknpjajioneaaAbSimp
import Derived.Test.YtabknpjajioneaaWalk1
namespace Go.Proofs
open Go Go.Ab
set_option maxRecDepth 10000
set_option maxHeartbeats 1000000
set_option linter.unusedSimpArgs false
set_option linter.unusedVariables false
theorem go_derive_Same_ok (n : Nat) (a0 : GNode) (a1 : GNode) (r : Bool) (h : go_derive_Same n a0 a1 = some r) : PCall Try.prog 12 [.agg a0.cs, .agg a1.cs] (.bool r) := by
  rw [go_derive_Same] at h
  refine pcall_of Try.func12 rfl Try.ntmps12 (fun _ _ => Try.call12 _ _) fun lv E => ?_
  simp only [List.length_cons, List.length_nil, Nat.reduceAdd, Nat.reduceSub, List.replicate, List.cons_append, List.nil_append]
  have hA := AccG.nil (lv + 1)
  generalize ([] : List (Option AObj)) = L at hA ⊢
  repeat refine sat_seq ?_
  refine satO_reg ?_
  refine satO_step 1 [] ⟨.agg a0.cs :: .agg a1.cs :: .ptr (lv + 1) L.length 0 :: an 49 [], ⟨lv + 1, (L ++ [some (.cells a0.cs)]), E⟩, [], E⟩ [] (by simp -implicitDefEqProofs [GNode.cs]) claims_nil ?_
  have hA : AccG (lv + 1) (L ++ [some (.cells a0.cs)]) [] [(L.length, .cells a0.cs)] := hA.obj _
  generalize L.length = i2 at hA ⊢
  generalize (L ++ [some (.cells a0.cs)]) = L at hA ⊢
  refine satO_step 1 [] ⟨.agg a0.cs :: .agg a1.cs :: .ptr (lv + 1) i2 0 :: .ptr (lv + 1) L.length 0 :: an 48 [], ⟨lv + 1, (L ++ [some (.cells a1.cs)]), E⟩, [], E⟩ [] (by simp -implicitDefEqProofs [GNode.cs]) claims_nil ?_
  have hA : AccG (lv + 1) (L ++ [some (.cells a1.cs)]) [] [(i2, .cells a0.cs), (L.length, .cells a1.cs)] := hA.obj _
  generalize L.length = i4 at hA ⊢
  generalize (L ++ [some (.cells a1.cs)]) = L at hA ⊢
  have g0 := hA.get (k := 0) rfl
  have g1 := hA.get (k := 1) rfl
  refine satO_step 1 [] ⟨.agg a0.cs :: .agg a1.cs :: .ptr (lv + 1) i2 0 :: .ptr (lv + 1) i4 0 :: .bool false :: an 47 [], ⟨lv + 1, L, E⟩, [], E⟩ [] (by simp -implicitDefEqProofs [GNode.cs, g0, g1]) claims_nil ?_
  refine satO_nil ?_
  repeat refine sat_seq ?_
  refine sat_meet (fun σ => ∃ (x5 : Bool) (L : List (Option AObj)), AccG (lv + 1) L [] [] ∧ go_derive_Same_J1 n x5 = some r ∧ σ = ⟨an 4 (.bool x5 :: an 47 []), ⟨lv + 1, L, E⟩, [], E⟩) ?_ ?_
  · refine satO_reg ?_
    rcases Bool.eq_false_or_eq_true (a0.path == a1.path) with hg6 | hg19
    · have h := ite_t hg6 h
      rcases Bool.eq_false_or_eq_true (a0.rule_ == a1.rule_) with hg7 | hg18
      · have h := ite_t hg7 h
        rcases Bool.eq_false_or_eq_true ((a0.scope.frame.turn == a1.scope.frame.turn) && ((a0.scope.frame.at_.x == a1.scope.frame.at_.x) && ((a0.scope.frame.at_.y == a1.scope.frame.at_.y) && ((a0.scope.frame.at_.z == a1.scope.frame.at_.z) && ((a0.scope.size_.x == a1.scope.size_.x) && ((a0.scope.size_.y == a1.scope.size_.y) && (a0.scope.size_.z == a1.scope.size_.z))))))) with hg8 | hg17
        · have h := ite_t hg8 h
          rcases Bool.eq_false_or_eq_true (a0.leaf == a1.leaf) with hg9 | hg16
          · have h := ite_t hg9 h
            rcases Bool.eq_false_or_eq_true (a0.fault == a1.fault) with hg10 | hg15
            · have h := ite_t hg10 h
              rcases Bool.eq_false_or_eq_true (a0.open_ == a1.open_) with hg11 | hg14
              · have h := ite_t hg11 h
                obtain ⟨y12, q13, h⟩ := bnd_hi h
                have g0 := hA.get (k := 0) rfl
                have g1 := hA.get (k := 1) rfl
                refine satO_step 48 [(.bool y12, none)] ⟨.agg a0.cs :: .agg a1.cs :: .ptr (lv + 1) i2 0 :: .ptr (lv + 1) i4 0 :: .bool y12 :: .ptr (lv + 1) i2 0 :: .str a0.path :: .ptr (lv + 1) i4 0 :: .str a1.path :: .bool (a0.path == a1.path) :: .bool (a0.path == a1.path) :: .ptr (lv + 1) i2 1 :: .str a0.rule_ :: .ptr (lv + 1) i4 1 :: .str a1.rule_ :: .bool (a0.rule_ == a1.rule_) :: .bool (a0.rule_ == a1.rule_) :: .bool (a0.rule_ == a1.rule_) :: .ptr (lv + 1) i2 3 :: .agg [.int .u8 a0.scope.frame.turn, .int .i64 a0.scope.frame.at_.x, .int .i64 a0.scope.frame.at_.y, .int .i64 a0.scope.frame.at_.z, .int .i64 a0.scope.size_.x, .int .i64 a0.scope.size_.y, .int .i64 a0.scope.size_.z] :: .ptr (lv + 1) i4 3 :: .agg [.int .u8 a1.scope.frame.turn, .int .i64 a1.scope.frame.at_.x, .int .i64 a1.scope.frame.at_.y, .int .i64 a1.scope.frame.at_.z, .int .i64 a1.scope.size_.x, .int .i64 a1.scope.size_.y, .int .i64 a1.scope.size_.z] :: .bool ((a0.scope.frame.turn == a1.scope.frame.turn) && ((a0.scope.frame.at_.x == a1.scope.frame.at_.x) && ((a0.scope.frame.at_.y == a1.scope.frame.at_.y) && ((a0.scope.frame.at_.z == a1.scope.frame.at_.z) && ((a0.scope.size_.x == a1.scope.size_.x) && ((a0.scope.size_.y == a1.scope.size_.y) && (a0.scope.size_.z == a1.scope.size_.z))))))) :: .bool ((a0.scope.frame.turn == a1.scope.frame.turn) && ((a0.scope.frame.at_.x == a1.scope.frame.at_.x) && ((a0.scope.frame.at_.y == a1.scope.frame.at_.y) && ((a0.scope.frame.at_.z == a1.scope.frame.at_.z) && ((a0.scope.size_.x == a1.scope.size_.x) && ((a0.scope.size_.y == a1.scope.size_.y) && (a0.scope.size_.z == a1.scope.size_.z))))))) :: .bool ((a0.scope.frame.turn == a1.scope.frame.turn) && ((a0.scope.frame.at_.x == a1.scope.frame.at_.x) && ((a0.scope.frame.at_.y == a1.scope.frame.at_.y) && ((a0.scope.frame.at_.z == a1.scope.frame.at_.z) && ((a0.scope.size_.x == a1.scope.size_.x) && ((a0.scope.size_.y == a1.scope.size_.y) && (a0.scope.size_.z == a1.scope.size_.z))))))) :: .ptr (lv + 1) i2 10 :: .str a0.leaf :: .ptr (lv + 1) i4 10 :: .str a1.leaf :: .bool (a0.leaf == a1.leaf) :: .bool (a0.leaf == a1.leaf) :: .bool (a0.leaf == a1.leaf) :: .ptr (lv + 1) i2 11 :: .int .i64 a0.fault :: .ptr (lv + 1) i4 11 :: .int .i64 a1.fault :: .bool (a0.fault == a1.fault) :: .bool (a0.fault == a1.fault) :: .bool (a0.fault == a1.fault) :: .ptr (lv + 1) i2 12 :: .bool a0.open_ :: .ptr (lv + 1) i4 12 :: .bool a1.open_ :: .bool (a0.open_ == a1.open_) :: .bool (a0.open_ == a1.open_) :: .bool (a0.open_ == a1.open_) :: .ptr (lv + 1) i2 2 :: .sl 6 (a0.args.map GValue.el) false :: .ptr (lv + 1) i4 2 :: .sl 6 (a1.args.map GValue.el) false :: .bool y12 :: .bool y12 :: [], ⟨lv + 1, L, E⟩, [], E⟩ [⟨30, [.sl 6 (a0.args.map GValue.el) false, .sl 6 (a1.args.map GValue.el) false, .fn 31 [] []], ⟨lv + 1, L, E⟩, .bool y12, ⟨lv + 1, L, E⟩⟩] (by simp -implicitDefEqProofs [GNode.cs, g0, g1, hg6, hg7, hg8, hg9, hg10, hg11]) (claims_cons (go_slices_EqualFunc_Value_Value_Value_Value__value_Same_ok _ _ _ _ q13 _) claims_nil) ?_
                refine satO_nil ?_
                have hA : AccG (lv + 1) L [] [] := hA.sel [] (by simp) rfl (.cons _ (.cons _ .slnil))
                refine ⟨⟨an 4 (.bool y12 :: an 47 []), ⟨lv + 1, L, E⟩, [], E⟩, weak_tmps ?_, y12, L, hA, h, rfl⟩
                (try simp only [an]); repeat (first | exact VLeL.nil | refine VLeL.cons (by first | exact VLe.refl _ | exact VLe.any _ | exact VLe.nil _ _ | (refine VLe.agg' ?_; repeat (first | exact VLeL.nil | refine VLeL.cons (by first | exact VLe.refl _ | exact VLe.any _ | exact VLe.nil _ _) ?_))) ?_)
              · have h := ite_f hg14 h
                have g0 := hA.get (k := 0) rfl
                have g1 := hA.get (k := 1) rfl
                refine satO_step 48 [] ⟨.agg a0.cs :: .agg a1.cs :: .ptr (lv + 1) i2 0 :: .ptr (lv + 1) i4 0 :: .bool false :: .ptr (lv + 1) i2 0 :: .str a0.path :: .ptr (lv + 1) i4 0 :: .str a1.path :: .bool (a0.path == a1.path) :: .bool (a0.path == a1.path) :: .ptr (lv + 1) i2 1 :: .str a0.rule_ :: .ptr (lv + 1) i4 1 :: .str a1.rule_ :: .bool (a0.rule_ == a1.rule_) :: .bool (a0.rule_ == a1.rule_) :: .bool (a0.rule_ == a1.rule_) :: .ptr (lv + 1) i2 3 :: .agg [.int .u8 a0.scope.frame.turn, .int .i64 a0.scope.frame.at_.x, .int .i64 a0.scope.frame.at_.y, .int .i64 a0.scope.frame.at_.z, .int .i64 a0.scope.size_.x, .int .i64 a0.scope.size_.y, .int .i64 a0.scope.size_.z] :: .ptr (lv + 1) i4 3 :: .agg [.int .u8 a1.scope.frame.turn, .int .i64 a1.scope.frame.at_.x, .int .i64 a1.scope.frame.at_.y, .int .i64 a1.scope.frame.at_.z, .int .i64 a1.scope.size_.x, .int .i64 a1.scope.size_.y, .int .i64 a1.scope.size_.z] :: .bool ((a0.scope.frame.turn == a1.scope.frame.turn) && ((a0.scope.frame.at_.x == a1.scope.frame.at_.x) && ((a0.scope.frame.at_.y == a1.scope.frame.at_.y) && ((a0.scope.frame.at_.z == a1.scope.frame.at_.z) && ((a0.scope.size_.x == a1.scope.size_.x) && ((a0.scope.size_.y == a1.scope.size_.y) && (a0.scope.size_.z == a1.scope.size_.z))))))) :: .bool ((a0.scope.frame.turn == a1.scope.frame.turn) && ((a0.scope.frame.at_.x == a1.scope.frame.at_.x) && ((a0.scope.frame.at_.y == a1.scope.frame.at_.y) && ((a0.scope.frame.at_.z == a1.scope.frame.at_.z) && ((a0.scope.size_.x == a1.scope.size_.x) && ((a0.scope.size_.y == a1.scope.size_.y) && (a0.scope.size_.z == a1.scope.size_.z))))))) :: .bool ((a0.scope.frame.turn == a1.scope.frame.turn) && ((a0.scope.frame.at_.x == a1.scope.frame.at_.x) && ((a0.scope.frame.at_.y == a1.scope.frame.at_.y) && ((a0.scope.frame.at_.z == a1.scope.frame.at_.z) && ((a0.scope.size_.x == a1.scope.size_.x) && ((a0.scope.size_.y == a1.scope.size_.y) && (a0.scope.size_.z == a1.scope.size_.z))))))) :: .ptr (lv + 1) i2 10 :: .str a0.leaf :: .ptr (lv + 1) i4 10 :: .str a1.leaf :: .bool (a0.leaf == a1.leaf) :: .bool (a0.leaf == a1.leaf) :: .bool (a0.leaf == a1.leaf) :: .ptr (lv + 1) i2 11 :: .int .i64 a0.fault :: .ptr (lv + 1) i4 11 :: .int .i64 a1.fault :: .bool (a0.fault == a1.fault) :: .bool (a0.fault == a1.fault) :: .bool (a0.fault == a1.fault) :: .ptr (lv + 1) i2 12 :: .bool a0.open_ :: .ptr (lv + 1) i4 12 :: .bool a1.open_ :: .bool (a0.open_ == a1.open_) :: .bool (a0.open_ == a1.open_) :: .bool (a0.open_ == a1.open_) :: .tup [] :: .tup [] :: .tup [] :: .tup [] :: .tup [] :: .bool false :: [], ⟨lv + 1, L, E⟩, [], E⟩ [] (by simp -implicitDefEqProofs [GNode.cs, g0, g1, hg6, hg7, hg8, hg9, hg10, hg14]) claims_nil ?_
                refine satO_nil ?_
                have hA : AccG (lv + 1) L [] [] := hA.sel [] (by simp) rfl (.cons _ (.cons _ .slnil))
                refine ⟨⟨an 4 (.bool false :: an 47 []), ⟨lv + 1, L, E⟩, [], E⟩, weak_tmps ?_, false, L, hA, h, rfl⟩
                (try simp only [an]); repeat (first | exact VLeL.nil | refine VLeL.cons (by first | exact VLe.refl _ | exact VLe.any _ | exact VLe.nil _ _ | (refine VLe.agg' ?_; repeat (first | exact VLeL.nil | refine VLeL.cons (by first | exact VLe.refl _ | exact VLe.any _ | exact VLe.nil _ _) ?_))) ?_)
            · have h := ite_f hg15 h
              have g0 := hA.get (k := 0) rfl
              have g1 := hA.get (k := 1) rfl
              refine satO_step 48 [] ⟨.agg a0.cs :: .agg a1.cs :: .ptr (lv + 1) i2 0 :: .ptr (lv + 1) i4 0 :: .bool false :: .ptr (lv + 1) i2 0 :: .str a0.path :: .ptr (lv + 1) i4 0 :: .str a1.path :: .bool (a0.path == a1.path) :: .bool (a0.path == a1.path) :: .ptr (lv + 1) i2 1 :: .str a0.rule_ :: .ptr (lv + 1) i4 1 :: .str a1.rule_ :: .bool (a0.rule_ == a1.rule_) :: .bool (a0.rule_ == a1.rule_) :: .bool (a0.rule_ == a1.rule_) :: .ptr (lv + 1) i2 3 :: .agg [.int .u8 a0.scope.frame.turn, .int .i64 a0.scope.frame.at_.x, .int .i64 a0.scope.frame.at_.y, .int .i64 a0.scope.frame.at_.z, .int .i64 a0.scope.size_.x, .int .i64 a0.scope.size_.y, .int .i64 a0.scope.size_.z] :: .ptr (lv + 1) i4 3 :: .agg [.int .u8 a1.scope.frame.turn, .int .i64 a1.scope.frame.at_.x, .int .i64 a1.scope.frame.at_.y, .int .i64 a1.scope.frame.at_.z, .int .i64 a1.scope.size_.x, .int .i64 a1.scope.size_.y, .int .i64 a1.scope.size_.z] :: .bool ((a0.scope.frame.turn == a1.scope.frame.turn) && ((a0.scope.frame.at_.x == a1.scope.frame.at_.x) && ((a0.scope.frame.at_.y == a1.scope.frame.at_.y) && ((a0.scope.frame.at_.z == a1.scope.frame.at_.z) && ((a0.scope.size_.x == a1.scope.size_.x) && ((a0.scope.size_.y == a1.scope.size_.y) && (a0.scope.size_.z == a1.scope.size_.z))))))) :: .bool ((a0.scope.frame.turn == a1.scope.frame.turn) && ((a0.scope.frame.at_.x == a1.scope.frame.at_.x) && ((a0.scope.frame.at_.y == a1.scope.frame.at_.y) && ((a0.scope.frame.at_.z == a1.scope.frame.at_.z) && ((a0.scope.size_.x == a1.scope.size_.x) && ((a0.scope.size_.y == a1.scope.size_.y) && (a0.scope.size_.z == a1.scope.size_.z))))))) :: .bool ((a0.scope.frame.turn == a1.scope.frame.turn) && ((a0.scope.frame.at_.x == a1.scope.frame.at_.x) && ((a0.scope.frame.at_.y == a1.scope.frame.at_.y) && ((a0.scope.frame.at_.z == a1.scope.frame.at_.z) && ((a0.scope.size_.x == a1.scope.size_.x) && ((a0.scope.size_.y == a1.scope.size_.y) && (a0.scope.size_.z == a1.scope.size_.z))))))) :: .ptr (lv + 1) i2 10 :: .str a0.leaf :: .ptr (lv + 1) i4 10 :: .str a1.leaf :: .bool (a0.leaf == a1.leaf) :: .bool (a0.leaf == a1.leaf) :: .bool (a0.leaf == a1.leaf) :: .ptr (lv + 1) i2 11 :: .int .i64 a0.fault :: .ptr (lv + 1) i4 11 :: .int .i64 a1.fault :: .bool (a0.fault == a1.fault) :: .bool (a0.fault == a1.fault) :: .bool (a0.fault == a1.fault) :: .tup [] :: .tup [] :: .tup [] :: .tup [] :: .tup [] :: .bool false :: .bool false :: .tup [] :: .tup [] :: .tup [] :: .tup [] :: .tup [] :: .bool false :: [], ⟨lv + 1, L, E⟩, [], E⟩ [] (by simp -implicitDefEqProofs [GNode.cs, g0, g1, hg6, hg7, hg8, hg9, hg15]) claims_nil ?_
              refine satO_nil ?_
              have hA : AccG (lv + 1) L [] [] := hA.sel [] (by simp) rfl (.cons _ (.cons _ .slnil))
              refine ⟨⟨an 4 (.bool false :: an 47 []), ⟨lv + 1, L, E⟩, [], E⟩, weak_tmps ?_, false, L, hA, h, rfl⟩
              (try simp only [an]); repeat (first | exact VLeL.nil | refine VLeL.cons (by first | exact VLe.refl _ | exact VLe.any _ | exact VLe.nil _ _ | (refine VLe.agg' ?_; repeat (first | exact VLeL.nil | refine VLeL.cons (by first | exact VLe.refl _ | exact VLe.any _ | exact VLe.nil _ _) ?_))) ?_)
          · have h := ite_f hg16 h
            have g0 := hA.get (k := 0) rfl
            have g1 := hA.get (k := 1) rfl
            refine satO_step 48 [] ⟨.agg a0.cs :: .agg a1.cs :: .ptr (lv + 1) i2 0 :: .ptr (lv + 1) i4 0 :: .bool false :: .ptr (lv + 1) i2 0 :: .str a0.path :: .ptr (lv + 1) i4 0 :: .str a1.path :: .bool (a0.path == a1.path) :: .bool (a0.path == a1.path) :: .ptr (lv + 1) i2 1 :: .str a0.rule_ :: .ptr (lv + 1) i4 1 :: .str a1.rule_ :: .bool (a0.rule_ == a1.rule_) :: .bool (a0.rule_ == a1.rule_) :: .bool (a0.rule_ == a1.rule_) :: .ptr (lv + 1) i2 3 :: .agg [.int .u8 a0.scope.frame.turn, .int .i64 a0.scope.frame.at_.x, .int .i64 a0.scope.frame.at_.y, .int .i64 a0.scope.frame.at_.z, .int .i64 a0.scope.size_.x, .int .i64 a0.scope.size_.y, .int .i64 a0.scope.size_.z] :: .ptr (lv + 1) i4 3 :: .agg [.int .u8 a1.scope.frame.turn, .int .i64 a1.scope.frame.at_.x, .int .i64 a1.scope.frame.at_.y, .int .i64 a1.scope.frame.at_.z, .int .i64 a1.scope.size_.x, .int .i64 a1.scope.size_.y, .int .i64 a1.scope.size_.z] :: .bool ((a0.scope.frame.turn == a1.scope.frame.turn) && ((a0.scope.frame.at_.x == a1.scope.frame.at_.x) && ((a0.scope.frame.at_.y == a1.scope.frame.at_.y) && ((a0.scope.frame.at_.z == a1.scope.frame.at_.z) && ((a0.scope.size_.x == a1.scope.size_.x) && ((a0.scope.size_.y == a1.scope.size_.y) && (a0.scope.size_.z == a1.scope.size_.z))))))) :: .bool ((a0.scope.frame.turn == a1.scope.frame.turn) && ((a0.scope.frame.at_.x == a1.scope.frame.at_.x) && ((a0.scope.frame.at_.y == a1.scope.frame.at_.y) && ((a0.scope.frame.at_.z == a1.scope.frame.at_.z) && ((a0.scope.size_.x == a1.scope.size_.x) && ((a0.scope.size_.y == a1.scope.size_.y) && (a0.scope.size_.z == a1.scope.size_.z))))))) :: .bool ((a0.scope.frame.turn == a1.scope.frame.turn) && ((a0.scope.frame.at_.x == a1.scope.frame.at_.x) && ((a0.scope.frame.at_.y == a1.scope.frame.at_.y) && ((a0.scope.frame.at_.z == a1.scope.frame.at_.z) && ((a0.scope.size_.x == a1.scope.size_.x) && ((a0.scope.size_.y == a1.scope.size_.y) && (a0.scope.size_.z == a1.scope.size_.z))))))) :: .ptr (lv + 1) i2 10 :: .str a0.leaf :: .ptr (lv + 1) i4 10 :: .str a1.leaf :: .bool (a0.leaf == a1.leaf) :: .bool (a0.leaf == a1.leaf) :: .bool (a0.leaf == a1.leaf) :: .tup [] :: .tup [] :: .tup [] :: .tup [] :: .tup [] :: .bool false :: .bool false :: .tup [] :: .tup [] :: .tup [] :: .tup [] :: .tup [] :: .bool false :: .bool false :: .tup [] :: .tup [] :: .tup [] :: .tup [] :: .tup [] :: .bool false :: [], ⟨lv + 1, L, E⟩, [], E⟩ [] (by simp -implicitDefEqProofs [GNode.cs, g0, g1, hg6, hg7, hg8, hg16]) claims_nil ?_
            refine satO_nil ?_
            have hA : AccG (lv + 1) L [] [] := hA.sel [] (by simp) rfl (.cons _ (.cons _ .slnil))
            refine ⟨⟨an 4 (.bool false :: an 47 []), ⟨lv + 1, L, E⟩, [], E⟩, weak_tmps ?_, false, L, hA, h, rfl⟩
            (try simp only [an]); repeat (first | exact VLeL.nil | refine VLeL.cons (by first | exact VLe.refl _ | exact VLe.any _ | exact VLe.nil _ _ | (refine VLe.agg' ?_; repeat (first | exact VLeL.nil | refine VLeL.cons (by first | exact VLe.refl _ | exact VLe.any _ | exact VLe.nil _ _) ?_))) ?_)
        · have h := ite_f hg17 h
          have g0 := hA.get (k := 0) rfl
          have g1 := hA.get (k := 1) rfl
          refine satO_step 48 [] ⟨.agg a0.cs :: .agg a1.cs :: .ptr (lv + 1) i2 0 :: .ptr (lv + 1) i4 0 :: .bool false :: .ptr (lv + 1) i2 0 :: .str a0.path :: .ptr (lv + 1) i4 0 :: .str a1.path :: .bool (a0.path == a1.path) :: .bool (a0.path == a1.path) :: .ptr (lv + 1) i2 1 :: .str a0.rule_ :: .ptr (lv + 1) i4 1 :: .str a1.rule_ :: .bool (a0.rule_ == a1.rule_) :: .bool (a0.rule_ == a1.rule_) :: .bool (a0.rule_ == a1.rule_) :: .ptr (lv + 1) i2 3 :: .agg [.int .u8 a0.scope.frame.turn, .int .i64 a0.scope.frame.at_.x, .int .i64 a0.scope.frame.at_.y, .int .i64 a0.scope.frame.at_.z, .int .i64 a0.scope.size_.x, .int .i64 a0.scope.size_.y, .int .i64 a0.scope.size_.z] :: .ptr (lv + 1) i4 3 :: .agg [.int .u8 a1.scope.frame.turn, .int .i64 a1.scope.frame.at_.x, .int .i64 a1.scope.frame.at_.y, .int .i64 a1.scope.frame.at_.z, .int .i64 a1.scope.size_.x, .int .i64 a1.scope.size_.y, .int .i64 a1.scope.size_.z] :: .bool ((a0.scope.frame.turn == a1.scope.frame.turn) && ((a0.scope.frame.at_.x == a1.scope.frame.at_.x) && ((a0.scope.frame.at_.y == a1.scope.frame.at_.y) && ((a0.scope.frame.at_.z == a1.scope.frame.at_.z) && ((a0.scope.size_.x == a1.scope.size_.x) && ((a0.scope.size_.y == a1.scope.size_.y) && (a0.scope.size_.z == a1.scope.size_.z))))))) :: .bool ((a0.scope.frame.turn == a1.scope.frame.turn) && ((a0.scope.frame.at_.x == a1.scope.frame.at_.x) && ((a0.scope.frame.at_.y == a1.scope.frame.at_.y) && ((a0.scope.frame.at_.z == a1.scope.frame.at_.z) && ((a0.scope.size_.x == a1.scope.size_.x) && ((a0.scope.size_.y == a1.scope.size_.y) && (a0.scope.size_.z == a1.scope.size_.z))))))) :: .bool ((a0.scope.frame.turn == a1.scope.frame.turn) && ((a0.scope.frame.at_.x == a1.scope.frame.at_.x) && ((a0.scope.frame.at_.y == a1.scope.frame.at_.y) && ((a0.scope.frame.at_.z == a1.scope.frame.at_.z) && ((a0.scope.size_.x == a1.scope.size_.x) && ((a0.scope.size_.y == a1.scope.size_.y) && (a0.scope.size_.z == a1.scope.size_.z))))))) :: .tup [] :: .tup [] :: .tup [] :: .tup [] :: .tup [] :: .bool false :: .bool false :: .tup [] :: .tup [] :: .tup [] :: .tup [] :: .tup [] :: .bool false :: .bool false :: .tup [] :: .tup [] :: .tup [] :: .tup [] :: .tup [] :: .bool false :: .bool false :: .tup [] :: .tup [] :: .tup [] :: .tup [] :: .tup [] :: .bool false :: [], ⟨lv + 1, L, E⟩, [], E⟩ [] (by simp -implicitDefEqProofs [GNode.cs, g0, g1, hg6, hg7, hg17]) claims_nil ?_
          refine satO_nil ?_
          have hA : AccG (lv + 1) L [] [] := hA.sel [] (by simp) rfl (.cons _ (.cons _ .slnil))
          refine ⟨⟨an 4 (.bool false :: an 47 []), ⟨lv + 1, L, E⟩, [], E⟩, weak_tmps ?_, false, L, hA, h, rfl⟩
          (try simp only [an]); repeat (first | exact VLeL.nil | refine VLeL.cons (by first | exact VLe.refl _ | exact VLe.any _ | exact VLe.nil _ _ | (refine VLe.agg' ?_; repeat (first | exact VLeL.nil | refine VLeL.cons (by first | exact VLe.refl _ | exact VLe.any _ | exact VLe.nil _ _) ?_))) ?_)
      · have h := ite_f hg18 h
        have g0 := hA.get (k := 0) rfl
        have g1 := hA.get (k := 1) rfl
        refine satO_step 48 [] ⟨.agg a0.cs :: .agg a1.cs :: .ptr (lv + 1) i2 0 :: .ptr (lv + 1) i4 0 :: .bool false :: .ptr (lv + 1) i2 0 :: .str a0.path :: .ptr (lv + 1) i4 0 :: .str a1.path :: .bool (a0.path == a1.path) :: .bool (a0.path == a1.path) :: .ptr (lv + 1) i2 1 :: .str a0.rule_ :: .ptr (lv + 1) i4 1 :: .str a1.rule_ :: .bool (a0.rule_ == a1.rule_) :: .bool (a0.rule_ == a1.rule_) :: .bool (a0.rule_ == a1.rule_) :: .tup [] :: .tup [] :: .tup [] :: .tup [] :: .tup [] :: .bool false :: .bool false :: .tup [] :: .tup [] :: .tup [] :: .tup [] :: .tup [] :: .bool false :: .bool false :: .tup [] :: .tup [] :: .tup [] :: .tup [] :: .tup [] :: .bool false :: .bool false :: .tup [] :: .tup [] :: .tup [] :: .tup [] :: .tup [] :: .bool false :: .bool false :: .tup [] :: .tup [] :: .tup [] :: .tup [] :: .tup [] :: .bool false :: [], ⟨lv + 1, L, E⟩, [], E⟩ [] (by simp -implicitDefEqProofs [GNode.cs, g0, g1, hg6, hg18]) claims_nil ?_
        refine satO_nil ?_
        have hA : AccG (lv + 1) L [] [] := hA.sel [] (by simp) rfl (.cons _ (.cons _ .slnil))
        refine ⟨⟨an 4 (.bool false :: an 47 []), ⟨lv + 1, L, E⟩, [], E⟩, weak_tmps ?_, false, L, hA, h, rfl⟩
        (try simp only [an]); repeat (first | exact VLeL.nil | refine VLeL.cons (by first | exact VLe.refl _ | exact VLe.any _ | exact VLe.nil _ _ | (refine VLe.agg' ?_; repeat (first | exact VLeL.nil | refine VLeL.cons (by first | exact VLe.refl _ | exact VLe.any _ | exact VLe.nil _ _) ?_))) ?_)
    · have h := ite_f hg19 h
      have g0 := hA.get (k := 0) rfl
      have g1 := hA.get (k := 1) rfl
      refine satO_step 48 [] ⟨.agg a0.cs :: .agg a1.cs :: .ptr (lv + 1) i2 0 :: .ptr (lv + 1) i4 0 :: .bool false :: .ptr (lv + 1) i2 0 :: .str a0.path :: .ptr (lv + 1) i4 0 :: .str a1.path :: .bool (a0.path == a1.path) :: .bool (a0.path == a1.path) :: .tup [] :: .tup [] :: .tup [] :: .tup [] :: .tup [] :: .bool false :: .bool false :: .tup [] :: .tup [] :: .tup [] :: .tup [] :: .tup [] :: .bool false :: .bool false :: .tup [] :: .tup [] :: .tup [] :: .tup [] :: .tup [] :: .bool false :: .bool false :: .tup [] :: .tup [] :: .tup [] :: .tup [] :: .tup [] :: .bool false :: .bool false :: .tup [] :: .tup [] :: .tup [] :: .tup [] :: .tup [] :: .bool false :: .bool false :: .tup [] :: .tup [] :: .tup [] :: .tup [] :: .tup [] :: .bool false :: [], ⟨lv + 1, L, E⟩, [], E⟩ [] (by simp -implicitDefEqProofs [GNode.cs, g0, g1, hg19]) claims_nil ?_
      refine satO_nil ?_
      have hA : AccG (lv + 1) L [] [] := hA.sel [] (by simp) rfl (.cons _ (.cons _ .slnil))
      refine ⟨⟨an 4 (.bool false :: an 47 []), ⟨lv + 1, L, E⟩, [], E⟩, weak_tmps ?_, false, L, hA, h, rfl⟩
      (try simp only [an]); repeat (first | exact VLeL.nil | refine VLeL.cons (by first | exact VLe.refl _ | exact VLe.any _ | exact VLe.nil _ _ | (refine VLe.agg' ?_; repeat (first | exact VLeL.nil | refine VLeL.cons (by first | exact VLe.refl _ | exact VLe.any _ | exact VLe.nil _ _) ?_))) ?_)
  · rintro σ0 σ hw ⟨x5, L, hA, h, rfl⟩
    rw [go_derive_Same_J1] at h
    refine sat_weak hw ?_
    repeat refine sat_seq ?_
    refine sat_ret ?_
    refine ends (v := .bool x5) (by simp [resultsV, resL, resV, tupOf, Try.f12, pLoad, GNode.cs]) rfl rfl ?_
    injection h with h
    subst h
    exact (.keep _ (by simp [V.kin, V.kinL, GNode.cs]))
end Go.Proofs

namespace Go.Proofs
open Go Go.Ab
set_option maxRecDepth 10000
set_option maxHeartbeats 1000000
set_option linter.unusedSimpArgs false
set_option linter.unusedVariables false
theorem go_gambrellaw27_DeriveLists_ok (n : Nat) (a0 : List GNode) (a1 : List UInt8) (r : Bool) (h : go_gambrellaw27_DeriveLists n a0 a1 = some r) : PCall Try.prog 3 [.sl 13 (a0.map GNode.el) false, .str a1] (.bool r) := by
  rcases n with _ | n
  · simp [go_gambrellaw27_DeriveLists] at h
  rw [go_gambrellaw27_DeriveLists] at h
  refine pcall_of Try.func3 rfl Try.ntmps3 (fun _ _ => Try.call3 _ _) fun lv E => ?_
  simp only [List.length_cons, List.length_nil, Nat.reduceAdd, Nat.reduceSub, List.replicate, List.cons_append, List.nil_append]
  have hA := AccG.nil (lv + 1)
  generalize ([] : List (Option AObj)) = L at hA ⊢
  repeat refine sat_seq ?_
  refine satO_reg ?_
  refine satO_step 1 [] ⟨.sl 13 (a0.map GNode.el) false :: .str a1 :: an 2 (.bool false :: an 79 []), ⟨lv + 1, L, E⟩, [], E⟩ [] (by simp -implicitDefEqProofs []) claims_nil ?_
  refine satO_nil ?_
  repeat refine sat_seq ?_
  refine sat_meet (fun σ => ∃ (k : Nat), k ≤ n ∧ ∃ (x1 : Bool) (L : List (Option AObj)), AccG (lv + 1) L [] [] ∧ go_gambrellaw27_DeriveLists_J1 k a0 a1 x1 = some r ∧ σ = ⟨.sl 13 (a0.map GNode.el) false :: .str a1 :: an 14 (.bool x1 :: an 67 []), ⟨lv + 1, L, E⟩, [], E⟩) ?_ ?_
  · refine satO_reg ?_
    obtain ⟨y2, q3, h⟩ := bnd_hi h
    rcases Bool.eq_false_or_eq_true y2 with hg4 | hg5
    · have h := ite_t hg4 h
      refine satO_step 7 [(.bool y2, none)] ⟨.sl 13 (a0.map GNode.el) false :: .str a1 :: an 2 (.bool false :: an 5 (.sl 13 (a0.map GNode.el) false :: .bool y2 :: .bool y2 :: .tup [] :: .tup [] :: .tup [] :: .bool true :: an 67 [])), ⟨lv + 1, L, E⟩, [], E⟩ [⟨6, [.sl 13 (a0.map GNode.el) false], ⟨lv + 1, L, E⟩, .bool y2, ⟨lv + 1, L, E⟩⟩] (by simp -implicitDefEqProofs [hg4]) (claims_cons (go_ref27_Great_ok _ _ _ q3 _) claims_nil) ?_
      refine satO_nil ?_
      refine ⟨⟨.sl 13 (a0.map GNode.el) false :: .str a1 :: an 14 (.bool true :: an 67 []), ⟨lv + 1, L, E⟩, [], E⟩, weak_tmps ?_, n, by omega, true, L, hA, h, rfl⟩
      (try simp only [an]); repeat (first | exact VLeL.nil | refine VLeL.cons (by first | exact VLe.refl _ | exact VLe.any _ | exact VLe.nil _ _ | (refine VLe.agg' ?_; repeat (first | exact VLeL.nil | refine VLeL.cons (by first | exact VLe.refl _ | exact VLe.any _ | exact VLe.nil _ _) ?_))) ?_)
    · have h := ite_f hg5 h
      refine satO_step 7 [(.bool y2, none)] ⟨.sl 13 (a0.map GNode.el) false :: .str a1 :: an 2 (.bool false :: an 5 (.sl 13 (a0.map GNode.el) false :: .bool y2 :: .bool y2 :: .str a1 :: .int .i64 (a1.length : Int) :: .bool (decide (5000 < (a1.length : Int))) :: .bool (decide (5000 < (a1.length : Int))) :: an 67 [])), ⟨lv + 1, L, E⟩, [], E⟩ [⟨6, [.sl 13 (a0.map GNode.el) false], ⟨lv + 1, L, E⟩, .bool y2, ⟨lv + 1, L, E⟩⟩] (by simp -implicitDefEqProofs [hg5]) (claims_cons (go_ref27_Great_ok _ _ _ q3 _) claims_nil) ?_
      refine satO_nil ?_
      refine ⟨⟨.sl 13 (a0.map GNode.el) false :: .str a1 :: an 14 (.bool (decide (5000 < (a1.length : Int))) :: an 67 []), ⟨lv + 1, L, E⟩, [], E⟩, weak_tmps ?_, n, by omega, (decide (5000 < (a1.length : Int))), L, hA, h, rfl⟩
      (try simp only [an]); repeat (first | exact VLeL.nil | refine VLeL.cons (by first | exact VLe.refl _ | exact VLe.any _ | exact VLe.nil _ _ | (refine VLe.agg' ?_; repeat (first | exact VLeL.nil | refine VLeL.cons (by first | exact VLe.refl _ | exact VLe.any _ | exact VLe.nil _ _) ?_))) ?_)
  · rintro σ0 σ hw ⟨k, hk, x1, L, hA, h, rfl⟩
    rcases k with _ | n
    · simp [go_gambrellaw27_DeriveLists_J1] at h
    · rw [go_gambrellaw27_DeriveLists_J1] at h
      refine sat_weak hw ?_
      repeat refine sat_seq ?_
      refine sat_cond rfl (fun hb => ?_) (fun hb => ?_)
      · have h := ite_t hb h
        repeat refine sat_seq ?_
        refine satO_reg ?_
        refine satO_step 1 [] ⟨.sl 13 (a0.map GNode.el) false :: .str a1 :: an 2 (.bool true :: an 11 (.bool x1 :: an 67 [])), ⟨lv + 1, L, E⟩, [], E⟩ [] (by simp -implicitDefEqProofs []) claims_nil ?_
        refine satO_nil ?_
        repeat refine sat_seq ?_
        refine sat_ret ?_
        refine ends (v := .bool true) (by simp [resultsV, resL, resV, tupOf, Try.f3, pLoad]) rfl rfl ?_
        injection h with h
        subst h
        exact (.keep _ (by simp [V.kin, V.kinL]))
      · have h := ite_f hb h
        repeat refine sat_seq ?_
        refine sat_skip ?_
        repeat refine sat_seq ?_
        refine satO_reg ?_
        obtain ⟨y6, q7, h⟩ := bnd_hi h
        refine satO_step 8 [(.tup [.int .i64 y6.1, .int .i64 y6.2], none)] ⟨.sl 13 (a0.map GNode.el) false :: .str a1 :: an 3 (.int .i64 y6.1 :: .int .i64 y6.2 :: an 9 (.bool x1 :: .tup [.int .i64 y6.1, .int .i64 y6.2] :: .sl 13 (a0.map GNode.el) false :: .str a1 :: .tup [.int .i64 y6.1, .int .i64 y6.2] :: .int .i64 y6.1 :: .int .i64 y6.2 :: an 61 [])), ⟨lv + 1, L, E⟩, [], E⟩ [⟨7, [.sl 13 (a0.map GNode.el) false, .str a1], ⟨lv + 1, L, E⟩, .tup [.int .i64 y6.1, .int .i64 y6.2], ⟨lv + 1, L, E⟩⟩] (by simp -implicitDefEqProofs []) (claims_cons (go_derive_Find_ok _ _ _ _ q7 _) claims_nil) ?_
        refine satO_nil ?_
        repeat refine sat_seq ?_
        refine satO_reg ?_
        obtain ⟨y8, q9, h⟩ := bnd_hi h
        refine satO_step 8 [(.tup [.int .i64 y8.1, .int .i64 y8.2], none)] ⟨.sl 13 (a0.map GNode.el) false :: .str a1 :: an 3 (.int .i64 y6.1 :: .int .i64 y6.2 :: .int .i64 y8.1 :: .int .i64 y8.2 :: an 7 (.bool x1 :: .tup [.int .i64 y6.1, .int .i64 y6.2] :: .sl 13 (a0.map GNode.el) false :: .str a1 :: .tup [.int .i64 y6.1, .int .i64 y6.2] :: .int .i64 y6.1 :: .int .i64 y6.2 :: .tup [.int .i64 y8.1, .int .i64 y8.2] :: .sl 13 (a0.map GNode.el) false :: .str a1 :: .tup [.int .i64 y8.1, .int .i64 y8.2] :: .int .i64 y8.1 :: .int .i64 y8.2 :: an 55 [])), ⟨lv + 1, L, E⟩, [], E⟩ [⟨8, [.sl 13 (a0.map GNode.el) false, .str a1], ⟨lv + 1, L, E⟩, .tup [.int .i64 y8.1, .int .i64 y8.2], ⟨lv + 1, L, E⟩⟩] (by simp -implicitDefEqProofs []) (claims_cons (go_ref27_Find_ok _ _ _ _ q9 _) claims_nil) ?_
        refine satO_nil ?_
        repeat refine sat_seq ?_
        refine sat_meet (fun σ => ∃ (k : Nat), k ≤ n ∧ ∃ (x10 : Bool) (L : List (Option AObj)), AccG (lv + 1) L [] [] ∧ go_gambrellaw27_DeriveLists_J2 k a0 x10 = some r ∧ σ = ⟨.sl 13 (a0.map GNode.el) false :: an 43 (.bool x10 :: an 39 []), ⟨lv + 1, L, E⟩, [], E⟩) ?_ ?_
        · refine satO_reg ?_
          rcases Bool.eq_false_or_eq_true (!(y6.1 == y8.1)) with hg11 | hg12
          · have h := ite_t hg11 h
            refine satO_step 16 [] ⟨.sl 13 (a0.map GNode.el) false :: .str a1 :: an 3 (.int .i64 y6.1 :: .int .i64 y6.2 :: .int .i64 y8.1 :: .int .i64 y8.2 :: an 7 (.bool x1 :: .tup [.int .i64 y6.1, .int .i64 y6.2] :: .sl 13 (a0.map GNode.el) false :: .str a1 :: .tup [.int .i64 y6.1, .int .i64 y6.2] :: .int .i64 y6.1 :: .int .i64 y6.2 :: .tup [.int .i64 y8.1, .int .i64 y8.2] :: .sl 13 (a0.map GNode.el) false :: .str a1 :: .tup [.int .i64 y8.1, .int .i64 y8.2] :: .int .i64 y8.1 :: .int .i64 y8.2 :: .int .i64 y6.1 :: .int .i64 y8.1 :: .bool (!(y6.1 == y8.1)) :: .bool (!(y6.1 == y8.1)) :: .tup [] :: .tup [] :: .tup [] :: .bool true :: .bool true :: .tup [] :: .tup [] :: .tup [] :: .tup [] :: .tup [] :: .tup [] :: .bool true :: an 39 [])), ⟨lv + 1, L, E⟩, [], E⟩ [] (by simp -implicitDefEqProofs [hg11]) claims_nil ?_
            refine satO_nil ?_
            refine ⟨⟨.sl 13 (a0.map GNode.el) false :: an 43 (.bool true :: an 39 []), ⟨lv + 1, L, E⟩, [], E⟩, weak_tmps ?_, n, by omega, true, L, hA, h, rfl⟩
            (try simp only [an]); repeat (first | exact VLeL.nil | refine VLeL.cons (by first | exact VLe.refl _ | exact VLe.any _ | exact VLe.nil _ _ | (refine VLe.agg' ?_; repeat (first | exact VLeL.nil | refine VLeL.cons (by first | exact VLe.refl _ | exact VLe.any _ | exact VLe.nil _ _) ?_))) ?_)
          · have h := ite_f hg12 h
            rcases Bool.eq_false_or_eq_true (!(y6.2 == y8.2)) with hg13 | hg14
            · have h := ite_t hg13 h
              refine satO_step 16 [] ⟨.sl 13 (a0.map GNode.el) false :: .str a1 :: an 3 (.int .i64 y6.1 :: .int .i64 y6.2 :: .int .i64 y8.1 :: .int .i64 y8.2 :: an 7 (.bool x1 :: .tup [.int .i64 y6.1, .int .i64 y6.2] :: .sl 13 (a0.map GNode.el) false :: .str a1 :: .tup [.int .i64 y6.1, .int .i64 y6.2] :: .int .i64 y6.1 :: .int .i64 y6.2 :: .tup [.int .i64 y8.1, .int .i64 y8.2] :: .sl 13 (a0.map GNode.el) false :: .str a1 :: .tup [.int .i64 y8.1, .int .i64 y8.2] :: .int .i64 y8.1 :: .int .i64 y8.2 :: .int .i64 y6.1 :: .int .i64 y8.1 :: .bool (!(y6.1 == y8.1)) :: .bool (!(y6.1 == y8.1)) :: .int .i64 y6.2 :: .int .i64 y8.2 :: .bool (!(y6.2 == y8.2)) :: .bool (!(y6.2 == y8.2)) :: .bool (!(y6.2 == y8.2)) :: .tup [] :: .tup [] :: .tup [] :: .tup [] :: .tup [] :: .tup [] :: .bool true :: an 39 [])), ⟨lv + 1, L, E⟩, [], E⟩ [] (by simp -implicitDefEqProofs [hg12, hg13]) claims_nil ?_
              refine satO_nil ?_
              refine ⟨⟨.sl 13 (a0.map GNode.el) false :: an 43 (.bool true :: an 39 []), ⟨lv + 1, L, E⟩, [], E⟩, weak_tmps ?_, n, by omega, true, L, hA, h, rfl⟩
              (try simp only [an]); repeat (first | exact VLeL.nil | refine VLeL.cons (by first | exact VLe.refl _ | exact VLe.any _ | exact VLe.nil _ _ | (refine VLe.agg' ?_; repeat (first | exact VLeL.nil | refine VLeL.cons (by first | exact VLe.refl _ | exact VLe.any _ | exact VLe.nil _ _) ?_))) ?_)
            · have h := ite_f hg14 h
              obtain ⟨y15, q16, h⟩ := bnd_hi h
              obtain ⟨y17, q18, h⟩ := bnd_hi h
              obtain ⟨y19, q20, h⟩ := bnd_hi h
              refine satO_step 16 [(.sl 13 (y15.map GNode.el) false, none), (.sl 13 (y17.map GNode.el) false, none), (.bool y19, none)] ⟨.sl 13 (a0.map GNode.el) false :: .str a1 :: an 3 (.int .i64 y6.1 :: .int .i64 y6.2 :: .int .i64 y8.1 :: .int .i64 y8.2 :: an 7 (.bool x1 :: .tup [.int .i64 y6.1, .int .i64 y6.2] :: .sl 13 (a0.map GNode.el) false :: .str a1 :: .tup [.int .i64 y6.1, .int .i64 y6.2] :: .int .i64 y6.1 :: .int .i64 y6.2 :: .tup [.int .i64 y8.1, .int .i64 y8.2] :: .sl 13 (a0.map GNode.el) false :: .str a1 :: .tup [.int .i64 y8.1, .int .i64 y8.2] :: .int .i64 y8.1 :: .int .i64 y8.2 :: .int .i64 y6.1 :: .int .i64 y8.1 :: .bool (!(y6.1 == y8.1)) :: .bool (!(y6.1 == y8.1)) :: .int .i64 y6.2 :: .int .i64 y8.2 :: .bool (!(y6.2 == y8.2)) :: .bool (!(y6.2 == y8.2)) :: .bool (!(y6.2 == y8.2)) :: .sl 13 (a0.map GNode.el) false :: .sl 13 (y15.map GNode.el) false :: .sl 13 (a0.map GNode.el) false :: .sl 13 (y17.map GNode.el) false :: .bool y19 :: .bool (!y19) :: .bool (!y19) :: an 39 [])), ⟨lv + 1, L, E⟩, [], E⟩ [⟨10, [.sl 13 (a0.map GNode.el) false], ⟨lv + 1, L, E⟩, .sl 13 (y15.map GNode.el) false, ⟨lv + 1, L, E⟩⟩, ⟨11, [.sl 13 (a0.map GNode.el) false], ⟨lv + 1, L, E⟩, .sl 13 (y17.map GNode.el) false, ⟨lv + 1, L, E⟩⟩, ⟨9, [.sl 13 (y15.map GNode.el) false, .sl 13 (y17.map GNode.el) false], ⟨lv + 1, L, E⟩, .bool y19, ⟨lv + 1, L, E⟩⟩] (by simp -implicitDefEqProofs [hg12, hg14]) (claims_cons (go_derive_Leaves_ok _ _ _ q16 _) (claims_cons (go_ref27_Leaves_ok _ _ _ q18 _) (claims_cons (go_ref27_SameAll_ok _ _ _ _ q20 _) claims_nil))) ?_
              refine satO_nil ?_
              refine ⟨⟨.sl 13 (a0.map GNode.el) false :: an 43 (.bool (!y19) :: an 39 []), ⟨lv + 1, L, E⟩, [], E⟩, weak_tmps ?_, n, by omega, (!y19), L, hA, h, rfl⟩
              (try simp only [an]); repeat (first | exact VLeL.nil | refine VLeL.cons (by first | exact VLe.refl _ | exact VLe.any _ | exact VLe.nil _ _ | (refine VLe.agg' ?_; repeat (first | exact VLeL.nil | refine VLeL.cons (by first | exact VLe.refl _ | exact VLe.any _ | exact VLe.nil _ _) ?_))) ?_)
        · rintro σ0 σ hw ⟨k, hk, x10, L, hA, h, rfl⟩
          rcases k with _ | n
          · simp [go_gambrellaw27_DeriveLists_J2] at h
          · rw [go_gambrellaw27_DeriveLists_J2] at h
            refine sat_weak hw ?_
            repeat refine sat_seq ?_
            refine sat_cond rfl (fun hb => ?_) (fun hb => ?_)
            · have h := ite_t hb h
              repeat refine sat_seq ?_
              refine satO_reg ?_
              refine satO_step 1 [] ⟨.sl 13 (a0.map GNode.el) false :: an 3 (.bool false :: an 39 (.bool x10 :: an 39 [])), ⟨lv + 1, L, E⟩, [], E⟩ [] (by simp -implicitDefEqProofs []) claims_nil ?_
              refine satO_nil ?_
              repeat refine sat_seq ?_
              refine sat_ret ?_
              refine ends (v := .bool false) (by simp [resultsV, resL, resV, tupOf, Try.f3, pLoad]) rfl rfl ?_
              injection h with h
              subst h
              exact (.keep _ (by simp [V.kin, V.kinL]))
            · have h := ite_f hb h
              repeat refine sat_seq ?_
              refine sat_skip ?_
              repeat refine sat_seq ?_
              refine satO_reg ?_
              refine satO_step 1 [] ⟨.sl 13 (a0.map GNode.el) false :: an 8 (.int .i64 1 :: an 34 (.bool x10 :: an 39 [])), ⟨lv + 1, L, E⟩, [], E⟩ [] (by simp -implicitDefEqProofs []) claims_nil ?_
              refine satO_nil ?_
              repeat refine sat_seq ?_
              refine sat_block ?_
              repeat refine sat_seq ?_
              refine sat_loop (fun k σ => ∃ (x21 : Int) (L : List (Option AObj)), k ≤ n ∧ AccG (lv + 1) L [] [] ∧ go_gambrellaw27_DeriveLists_L1 k a0 x21 = some r ∧ σ = ⟨.sl 13 (a0.map GNode.el) false :: an 8 (.int .i64 x21 :: an 74 []), ⟨lv + 1, L, E⟩, [], E⟩) n ⟨.sl 13 (a0.map GNode.el) false :: an 8 (.int .i64 1 :: an 74 []), ⟨lv + 1, L, E⟩, [], E⟩ (weak_tmps ?_) ⟨1, L, Nat.le_refl _, hA, h, rfl⟩ ?_
              · (try simp only [an]); repeat (first | exact VLeL.nil | refine VLeL.cons (by first | exact VLe.refl _ | exact VLe.any _ | exact VLe.nil _ _ | (refine VLe.agg' ?_; repeat (first | exact VLeL.nil | refine VLeL.cons (by first | exact VLe.refl _ | exact VLe.any _ | exact VLe.nil _ _) ?_))) ?_)
              · rintro k σ ⟨x21, L, hk, hA, h, rfl⟩
                rcases k with _ | n
                · simp [go_gambrellaw27_DeriveLists_L1] at h
                · rw [go_gambrellaw27_DeriveLists_L1] at h
                  repeat refine sat_seq ?_
                  refine satO_reg ?_
                  refine satO_step 4 [] ⟨.sl 13 (a0.map GNode.el) false :: an 8 (.int .i64 x21 :: an 35 (.int .i64 x21 :: .sl 13 (a0.map GNode.el) false :: .int .i64 (a0.length : Int) :: .bool (decide (x21 < (a0.length : Int))) :: an 35 [])), ⟨lv + 1, L, E⟩, [], E⟩ [] (by simp -implicitDefEqProofs []) claims_nil ?_
                  refine satO_nil ?_
                  repeat refine sat_seq ?_
                  refine sat_cond rfl (fun hb => ?_) (fun hb => ?_)
                  · have h := ite_t hb h
                    repeat refine sat_seq ?_
                    refine sat_skip ?_
                    repeat refine sat_seq ?_
                    refine sat_block ?_
                    repeat refine sat_seq ?_
                    refine sat_meet (fun σ => ∃ (k : Nat), k ≤ n ∧ ∃ (x22 : Bool) (L : List (Option AObj)), AccG (lv + 1) L [] [] ∧ go_gambrellaw27_DeriveLists_J3 k a0 x21 x22 = some r ∧ σ = ⟨.sl 13 (a0.map GNode.el) false :: an 8 (.int .i64 x21 :: an 73 (.bool x22 :: [])), ⟨lv + 1, L, E⟩, [], E⟩) ?_ ?_
                    · obtain ⟨x23, q24, h⟩ := bnd_hi h
                      obtain ⟨q24, q25⟩ := ix_some q24
                      obtain ⟨x26, q27, h⟩ := bnd_hi h
                      obtain ⟨q27, q28⟩ := ix_some q27
                      obtain ⟨y29, q30, h⟩ := bnd_hi h
                      obtain ⟨y31, q32, h⟩ := bnd_hi h
                      rcases Bool.eq_false_or_eq_true (!(y29 == y31)) with hg33 | hg34
                      · have h := ite_t hg33 h
                        refine satO_drw (by kernel_rfl) (by kernel_rfl) [.bool y29, .bool y31] ⟨.sl 13 (a0.map GNode.el) false :: an 8 (.int .i64 x21 :: an 35 (.int .i64 x21 :: .sl 13 (a0.map GNode.el) false :: .int .i64 (a0.length : Int) :: .bool (decide (x21 < (a0.length : Int))) :: an 2 (.sl 13 (a0.map GNode.el) false :: .int .i64 x21 :: .int .i64 (IntKind.i64.wrap (x21 - 1)) :: .ref x23.cs 0 :: .agg x23.cs :: .sl 13 (a0.map GNode.el) false :: .int .i64 x21 :: .ref x26.cs 0 :: .agg x26.cs :: .bool y29 :: .sl 13 (a0.map GNode.el) false :: .int .i64 x21 :: .int .i64 (IntKind.i64.wrap (x21 - 1)) :: .ref x23.cs 0 :: .agg x23.cs :: .sl 13 (a0.map GNode.el) false :: .int .i64 x21 :: .ref x26.cs 0 :: .agg x26.cs :: .bool y31 :: .bool (!(y29 == y31)) :: .bool (!(y29 == y31)) :: .tup [] :: .tup [] :: .tup [] :: .tup [] :: .tup [] :: .tup [] :: .tup [] :: .tup [] :: .tup [] :: .tup [] :: .bool true :: []))), ⟨lv + 1, L, E⟩, [], E⟩ [⟨12, [.agg x23.cs, .agg x26.cs], ⟨lv + 1, L, E⟩, .bool y29, ⟨lv + 1, L, E⟩⟩, ⟨13, [.agg x23.cs, .agg x26.cs], ⟨lv + 1, L, E⟩, .bool y31, ⟨lv + 1, L, E⟩⟩] (by simp -implicitDefEqProofs [GNode.cs, q24, q25, GNode.el_cs, q27, q28, GNode.el_cs, q24, q25, GNode.el_cs, q27, q28, GNode.el_cs, hg33]) (claims_cons (go_derive_Same_ok _ _ _ _ q30 _) (claims_cons (go_ref27_Same_ok _ _ _ _ q32 _) claims_nil)) ?_
                        refine ⟨⟨.sl 13 (a0.map GNode.el) false :: an 8 (.int .i64 x21 :: an 73 (.bool true :: [])), ⟨lv + 1, L, E⟩, [], E⟩, weak_tmps ?_, n, by omega, true, L, hA, h, rfl⟩
                        (try simp only [an]); repeat (first | exact VLeL.nil | refine VLeL.cons (by first | exact VLe.refl _ | exact VLe.any _ | exact VLe.nil _ _ | (refine VLe.agg' ?_; repeat (first | exact VLeL.nil | refine VLeL.cons (by first | exact VLe.refl _ | exact VLe.any _ | exact VLe.nil _ _) ?_))) ?_)
                      · have h := ite_f hg34 h
                        obtain ⟨y35, q36, h⟩ := bnd_hi h
                        refine satO_drw (by kernel_rfl) (by kernel_rfl) [.bool y29, .bool y31, .bool y35] ⟨.sl 13 (a0.map GNode.el) false :: an 8 (.int .i64 x21 :: an 35 (.int .i64 x21 :: .sl 13 (a0.map GNode.el) false :: .int .i64 (a0.length : Int) :: .bool (decide (x21 < (a0.length : Int))) :: an 2 (.sl 13 (a0.map GNode.el) false :: .int .i64 x21 :: .int .i64 (IntKind.i64.wrap (x21 - 1)) :: .ref x23.cs 0 :: .agg x23.cs :: .sl 13 (a0.map GNode.el) false :: .int .i64 x21 :: .ref x26.cs 0 :: .agg x26.cs :: .bool y29 :: .sl 13 (a0.map GNode.el) false :: .int .i64 x21 :: .int .i64 (IntKind.i64.wrap (x21 - 1)) :: .ref x23.cs 0 :: .agg x23.cs :: .sl 13 (a0.map GNode.el) false :: .int .i64 x21 :: .ref x26.cs 0 :: .agg x26.cs :: .bool y31 :: .bool (!(y29 == y31)) :: .bool (!(y29 == y31)) :: .sl 13 (a0.map GNode.el) false :: .int .i64 x21 :: .ref x26.cs 0 :: .agg x26.cs :: .sl 13 (a0.map GNode.el) false :: .int .i64 x21 :: .ref x26.cs 0 :: .agg x26.cs :: .bool y35 :: .bool (!y35) :: .bool (!y35) :: []))), ⟨lv + 1, L, E⟩, [], E⟩ [⟨12, [.agg x23.cs, .agg x26.cs], ⟨lv + 1, L, E⟩, .bool y29, ⟨lv + 1, L, E⟩⟩, ⟨13, [.agg x23.cs, .agg x26.cs], ⟨lv + 1, L, E⟩, .bool y31, ⟨lv + 1, L, E⟩⟩, ⟨12, [.agg x26.cs, .agg x26.cs], ⟨lv + 1, L, E⟩, .bool y35, ⟨lv + 1, L, E⟩⟩] (by simp -implicitDefEqProofs [GNode.cs, q24, q25, GNode.el_cs, q27, q28, GNode.el_cs, q24, q25, GNode.el_cs, q27, q28, GNode.el_cs, hg34, q27, q28, GNode.el_cs, q27, q28, GNode.el_cs]) (claims_cons (go_derive_Same_ok _ _ _ _ q30 _) (claims_cons (go_ref27_Same_ok _ _ _ _ q32 _) (claims_cons (go_derive_Same_ok _ _ _ _ q36 _) claims_nil))) ?_
                        refine ⟨⟨.sl 13 (a0.map GNode.el) false :: an 8 (.int .i64 x21 :: an 73 (.bool (!y35) :: [])), ⟨lv + 1, L, E⟩, [], E⟩, weak_tmps ?_, n, by omega, (!y35), L, hA, h, rfl⟩
                        (try simp only [an]); repeat (first | exact VLeL.nil | refine VLeL.cons (by first | exact VLe.refl _ | exact VLe.any _ | exact VLe.nil _ _ | (refine VLe.agg' ?_; repeat (first | exact VLeL.nil | refine VLeL.cons (by first | exact VLe.refl _ | exact VLe.any _ | exact VLe.nil _ _) ?_))) ?_)
                    · rintro σ0 σ hw ⟨k, hk, x22, L, hA, h, rfl⟩
                      rcases k with _ | n
                      · simp [go_gambrellaw27_DeriveLists_J3] at h
                      · rw [go_gambrellaw27_DeriveLists_J3] at h
                        refine sat_weak hw ?_
                        repeat refine sat_seq ?_
                        refine sat_cond rfl (fun hb => ?_) (fun hb => ?_)
                        · have h := ite_t hb h
                          repeat refine sat_seq ?_
                          refine satO_reg ?_
                          refine satO_step 1 [] ⟨.sl 13 (a0.map GNode.el) false :: an 3 (.bool false :: an 4 (.int .i64 x21 :: an 73 (.bool x22 :: []))), ⟨lv + 1, L, E⟩, [], E⟩ [] (by simp -implicitDefEqProofs [GNode.cs]) claims_nil ?_
                          refine satO_nil ?_
                          repeat refine sat_seq ?_
                          refine sat_ret ?_
                          refine ends (v := .bool false) (by simp [resultsV, resL, resV, tupOf, Try.f3, pLoad, GNode.cs]) rfl rfl ?_
                          injection h with h
                          subst h
                          exact (.keep _ (by simp [V.kin, V.kinL, GNode.cs]))
                        · have h := ite_f hb h
                          repeat refine sat_seq ?_
                          refine sat_skip ?_
                          repeat refine sat_seq ?_
                          refine satO_reg ?_
                          refine satO_step 3 [] ⟨.sl 13 (a0.map GNode.el) false :: an 8 (.int .i64 (IntKind.i64.wrap (x21 + 1)) :: an 39 (.int .i64 x21 :: .int .i64 (IntKind.i64.wrap (x21 + 1)) :: an 32 (.bool x22 :: []))), ⟨lv + 1, L, E⟩, [], E⟩ [] (by simp -implicitDefEqProofs [GNode.cs]) claims_nil ?_
                          refine satO_nil ?_
                          refine ⟨n, ⟨.sl 13 (a0.map GNode.el) false :: an 8 (.int .i64 (IntKind.i64.wrap (x21 + 1)) :: an 74 []), ⟨lv + 1, L, E⟩, [], E⟩, weak_tmps ?_, ⟨(IntKind.i64.wrap (x21 + 1)), L, by omega, hA, h, rfl⟩, by omega⟩
                          (try simp only [an]); repeat (first | exact VLeL.nil | refine VLeL.cons (by first | exact VLe.refl _ | exact VLe.any _ | exact VLe.nil _ _ | (refine VLe.agg' ?_; repeat (first | exact VLeL.nil | refine VLeL.cons (by first | exact VLe.refl _ | exact VLe.any _ | exact VLe.nil _ _) ?_))) ?_)
                  · have h := ite_f hb h
                    repeat refine sat_seq ?_
                    refine sat_exit ?_
                    repeat refine sat_seq ?_
                    refine satO_reg ?_
                    refine satO_step 1 [] ⟨.sl 13 (a0.map GNode.el) false :: an 3 (.bool true :: an 4 (.int .i64 x21 :: an 35 (.int .i64 x21 :: .sl 13 (a0.map GNode.el) false :: .int .i64 (a0.length : Int) :: .bool (decide (x21 < (a0.length : Int))) :: an 35 []))), ⟨lv + 1, L, E⟩, [], E⟩ [] (by simp -implicitDefEqProofs [GNode.cs]) claims_nil ?_
                    refine satO_nil ?_
                    repeat refine sat_seq ?_
                    refine sat_ret ?_
                    refine ends (v := .bool true) (by simp [resultsV, resL, resV, tupOf, Try.f3, pLoad, GNode.cs]) rfl rfl ?_
                    injection h with h
                    subst h
                    exact (.keep _ (by simp [V.kin, V.kinL, GNode.cs]))
end Go.Proofs
