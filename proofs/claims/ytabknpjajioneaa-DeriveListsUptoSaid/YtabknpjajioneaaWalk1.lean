/-
  The Go functions compute what their Lean functions do, by a program of this repo.
-/
import Derived.Test.YtabknpjajioneaaFns
import Derived.Test.YtabknpjajioneaaFacts
import Derived.Test.YtabknpjajioneaaAbSimp
import Derived.Test.YtabknpjajioneaaWalk0
namespace Go.Proofs
open Go Go.Ab
set_option maxRecDepth 10000
set_option maxHeartbeats 1000000
set_option linter.unusedSimpArgs false
set_option linter.unusedVariables false
theorem go_ref27_Twin_ok (n : Nat) (a0 : GNode) (r : GNode) (h : go_ref27_Twin n a0 = some r) : PCall Try.prog 29 [.agg a0.cs] (.agg r.cs) := by
  rcases n with _ | n
  · simp [go_ref27_Twin] at h
  rw [go_ref27_Twin] at h
  refine pcall_of Try.func29 rfl Try.ntmps29 (fun _ _ => Try.call29 _ _) fun lv E => ?_
  simp only [List.length_cons, List.length_nil, Nat.reduceAdd, Nat.reduceSub, List.replicate, List.cons_append, List.nil_append]
  have hA := AccG.nil (lv + 1)
  generalize ([] : List (Option AObj)) = L at hA ⊢
  repeat refine sat_seq ?_
  refine satO_reg ?_
  refine satO_step 1 [] ⟨.agg a0.cs :: .ptr (lv + 1) L.length 0 :: an 24 [], ⟨lv + 1, (L ++ [some (.cells a0.cs)]), E⟩, [], E⟩ [] (by simp -implicitDefEqProofs [GNode.cs]) claims_nil ?_
  have hA : AccG (lv + 1) (L ++ [some (.cells a0.cs)]) [] [(L.length, .cells a0.cs)] := hA.obj _
  generalize L.length = i2 at hA ⊢
  generalize (L ++ [some (.cells a0.cs)]) = L at hA ⊢
  refine satO_step 1 [] ⟨.agg a0.cs :: .ptr (lv + 1) i2 0 :: .ptr (lv + 1) L.length 0 :: an 23 [], ⟨lv + 1, (L ++ [some (.cells [.str ([]), .str ([]), .nils, .int .u8 0, .int .i64 0, .int .i64 0, .int .i64 0, .int .i64 0, .int .i64 0, .int .i64 0, .str ([]), .int .i64 0, .bool false])]), E⟩, [], E⟩ [] (by simp -implicitDefEqProofs [GNode.cs]) claims_nil ?_
  have hA : AccG (lv + 1) (L ++ [some (.cells [.str ([]), .str ([]), .nils, .int .u8 0, .int .i64 0, .int .i64 0, .int .i64 0, .int .i64 0, .int .i64 0, .int .i64 0, .str ([]), .int .i64 0, .bool false])]) [] [(i2, .cells a0.cs), (L.length, .cells [.str ([]), .str ([]), .nils, .int .u8 0, .int .i64 0, .int .i64 0, .int .i64 0, .int .i64 0, .int .i64 0, .int .i64 0, .str ([]), .int .i64 0, .bool false])] := hA.obj _
  generalize L.length = i4 at hA ⊢
  generalize (L ++ [some (.cells [.str ([]), .str ([]), .nils, .int .u8 0, .int .i64 0, .int .i64 0, .int .i64 0, .int .i64 0, .int .i64 0, .int .i64 0, .str ([]), .int .i64 0, .bool false])]) = L at hA ⊢
  refine satO_nil ?_
  repeat refine sat_seq ?_
  refine satO_reg ?_
  have g0 := hA.get (k := 0) rfl
  have g1 := hA.get (k := 1) rfl
  refine satO_step 1 [] ⟨.agg a0.cs :: .ptr (lv + 1) i2 0 :: .ptr (lv + 1) i4 0 :: an 2 (.agg a0.cs :: an 20 []), ⟨lv + 1, L, E⟩, [], E⟩ [] (by simp -implicitDefEqProofs [GNode.cs, g0, g1]) claims_nil ?_
  refine satO_step 1 [] ⟨.agg a0.cs :: .ptr (lv + 1) i2 0 :: .ptr (lv + 1) i4 0 :: .ptr (lv + 1) L.length 0 :: an 1 (.agg a0.cs :: an 20 []), ⟨lv + 1, (L ++ [some (.cells [.str ([]), .str ([]), .nils, .int .u8 0, .int .i64 0, .int .i64 0, .int .i64 0, .int .i64 0, .int .i64 0, .int .i64 0, .str ([]), .int .i64 0, .bool false])]), E⟩, [], E⟩ [] (by simp -implicitDefEqProofs [GNode.cs]) claims_nil ?_
  have hA : AccG (lv + 1) (L ++ [some (.cells [.str ([]), .str ([]), .nils, .int .u8 0, .int .i64 0, .int .i64 0, .int .i64 0, .int .i64 0, .int .i64 0, .int .i64 0, .str ([]), .int .i64 0, .bool false])]) [] [(i2, .cells a0.cs), (i4, .cells [.str ([]), .str ([]), .nils, .int .u8 0, .int .i64 0, .int .i64 0, .int .i64 0, .int .i64 0, .int .i64 0, .int .i64 0, .str ([]), .int .i64 0, .bool false]), (L.length, .cells [.str ([]), .str ([]), .nils, .int .u8 0, .int .i64 0, .int .i64 0, .int .i64 0, .int .i64 0, .int .i64 0, .int .i64 0, .str ([]), .int .i64 0, .bool false])] := hA.obj _
  generalize L.length = i6 at hA ⊢
  generalize (L ++ [some (.cells [.str ([]), .str ([]), .nils, .int .u8 0, .int .i64 0, .int .i64 0, .int .i64 0, .int .i64 0, .int .i64 0, .int .i64 0, .str ([]), .int .i64 0, .bool false])]) = L at hA ⊢
  have g0 := hA.get (k := 0) rfl
  have g1 := hA.get (k := 1) rfl
  have g2 := hA.get (k := 2) rfl
  refine satO_step 1 [] ⟨.agg a0.cs :: .ptr (lv + 1) i2 0 :: .ptr (lv + 1) i4 0 :: .ptr (lv + 1) i6 0 :: an 1 (.agg a0.cs :: an 20 []), ⟨lv + 1, (L.set i6 (some (.cells a0.cs))), E⟩, [], E⟩ [] (by simp -implicitDefEqProofs [GNode.cs, g0, g1, g2]) claims_nil ?_
  have hA : AccG (lv + 1) (L.set i6 (some (.cells a0.cs))) [] [(i2, .cells a0.cs), (i4, .cells [.str ([]), .str ([]), .nils, .int .u8 0, .int .i64 0, .int .i64 0, .int .i64 0, .int .i64 0, .int .i64 0, .int .i64 0, .str ([]), .int .i64 0, .bool false]), (i6, .cells a0.cs)] := hA.upd (k := 2) rfl _
  generalize (L.set i6 (some (.cells a0.cs))) = L at hA ⊢
  refine satO_nil ?_
  repeat refine sat_seq ?_
  refine satO_reg ?_
  have g0 := hA.get (k := 0) rfl
  have g1 := hA.get (k := 1) rfl
  have g2 := hA.get (k := 2) rfl
  refine satO_step 1 [] ⟨.agg a0.cs :: .ptr (lv + 1) i2 0 :: .ptr (lv + 1) i4 0 :: .ptr (lv + 1) i6 0 :: an 1 (.agg a0.cs :: .ptr (lv + 1) i6 2 :: an 19 []), ⟨lv + 1, L, E⟩, [], E⟩ [] (by simp -implicitDefEqProofs [GNode.cs, g0, g1, g2]) claims_nil ?_
  have g0 := hA.get (k := 0) rfl
  have g1 := hA.get (k := 1) rfl
  have g2 := hA.get (k := 2) rfl
  refine satO_step 1 [] ⟨.agg a0.cs :: .ptr (lv + 1) i2 0 :: .ptr (lv + 1) i4 0 :: .ptr (lv + 1) i6 0 :: an 1 (.agg a0.cs :: .ptr (lv + 1) i6 2 :: an 19 []), ⟨lv + 1, (L.set i6 (some (.cells [.str a0.path, .str a0.rule_, .nils, .int .u8 a0.scope.frame.turn, .int .i64 a0.scope.frame.at_.x, .int .i64 a0.scope.frame.at_.y, .int .i64 a0.scope.frame.at_.z, .int .i64 a0.scope.size_.x, .int .i64 a0.scope.size_.y, .int .i64 a0.scope.size_.z, .str a0.leaf, .int .i64 a0.fault, .bool a0.open_]))), E⟩, [], E⟩ [] (by simp -implicitDefEqProofs [GNode.cs, g0, g1, g2]) claims_nil ?_
  have hA : AccG (lv + 1) (L.set i6 (some (.cells [.str a0.path, .str a0.rule_, .nils, .int .u8 a0.scope.frame.turn, .int .i64 a0.scope.frame.at_.x, .int .i64 a0.scope.frame.at_.y, .int .i64 a0.scope.frame.at_.z, .int .i64 a0.scope.size_.x, .int .i64 a0.scope.size_.y, .int .i64 a0.scope.size_.z, .str a0.leaf, .int .i64 a0.fault, .bool a0.open_]))) [] [(i2, .cells a0.cs), (i4, .cells [.str ([]), .str ([]), .nils, .int .u8 0, .int .i64 0, .int .i64 0, .int .i64 0, .int .i64 0, .int .i64 0, .int .i64 0, .str ([]), .int .i64 0, .bool false]), (i6, .cells [.str a0.path, .str a0.rule_, .nils, .int .u8 a0.scope.frame.turn, .int .i64 a0.scope.frame.at_.x, .int .i64 a0.scope.frame.at_.y, .int .i64 a0.scope.frame.at_.z, .int .i64 a0.scope.size_.x, .int .i64 a0.scope.size_.y, .int .i64 a0.scope.size_.z, .str a0.leaf, .int .i64 a0.fault, .bool a0.open_])] := hA.upd (k := 2) rfl _
  generalize (L.set i6 (some (.cells [.str a0.path, .str a0.rule_, .nils, .int .u8 a0.scope.frame.turn, .int .i64 a0.scope.frame.at_.x, .int .i64 a0.scope.frame.at_.y, .int .i64 a0.scope.frame.at_.z, .int .i64 a0.scope.size_.x, .int .i64 a0.scope.size_.y, .int .i64 a0.scope.size_.z, .str a0.leaf, .int .i64 a0.fault, .bool a0.open_]))) = L at hA ⊢
  refine satO_nil ?_
  repeat refine sat_seq ?_
  refine satO_reg ?_
  have g0 := hA.get (k := 0) rfl
  have g1 := hA.get (k := 1) rfl
  have g2 := hA.get (k := 2) rfl
  refine satO_step 1 [] ⟨.agg a0.cs :: .ptr (lv + 1) i2 0 :: .ptr (lv + 1) i4 0 :: .ptr (lv + 1) i6 0 :: .int .i64 0 :: .agg a0.cs :: .ptr (lv + 1) i6 2 :: an 19 [], ⟨lv + 1, L, E⟩, [], E⟩ [] (by simp -implicitDefEqProofs [GNode.cs, g0, g1, g2]) claims_nil ?_
  refine satO_nil ?_
  repeat refine sat_seq ?_
  refine sat_block ?_
  repeat refine sat_seq ?_
  have hA := hA.cons 73 6
  refine sat_loop (fun k σ => ∃ (x10 : Int) (v8 : V) (l9 : List GValue) (L : List (Option AObj)), k ≤ n ∧ AccG (lv + 1) L [⟨73, 6, v8, l9.map GValue.el⟩] [(i2, .cells a0.cs), (i4, .cells [.str ([]), .str ([]), .nils, .int .u8 0, .int .i64 0, .int .i64 0, .int .i64 0, .int .i64 0, .int .i64 0, .int .i64 0, .str ([]), .int .i64 0, .bool false]), (i6, .cells [.str a0.path, .str a0.rule_, v8, .int .u8 a0.scope.frame.turn, .int .i64 a0.scope.frame.at_.x, .int .i64 a0.scope.frame.at_.y, .int .i64 a0.scope.frame.at_.z, .int .i64 a0.scope.size_.x, .int .i64 a0.scope.size_.y, .int .i64 a0.scope.size_.z, .str a0.leaf, .int .i64 a0.fault, .bool a0.open_])] ∧ go_ref27_Twin_L1 k a0 l9 x10 = some r ∧ σ = ⟨an 1 (.ptr (lv + 1) i2 0 :: .ptr (lv + 1) i4 0 :: .ptr (lv + 1) i6 0 :: .int .i64 x10 :: an 21 []), ⟨lv + 1, L, E⟩, [], E⟩) n ⟨an 1 (.ptr (lv + 1) i2 0 :: .ptr (lv + 1) i4 0 :: .ptr (lv + 1) i6 0 :: .int .i64 0 :: an 21 []), ⟨lv + 1, L, E⟩, [], E⟩ (weak_tmps ?_) ⟨0, .nils, ([]), L, Nat.le_refl _, hA, h, rfl⟩ ?_
  · (try simp only [an]); repeat (first | exact VLeL.nil | refine VLeL.cons (by first | exact VLe.refl _ | exact VLe.any _ | exact VLe.nil _ _ | (refine VLe.agg' ?_; repeat (first | exact VLeL.nil | refine VLeL.cons (by first | exact VLe.refl _ | exact VLe.any _ | exact VLe.nil _ _) ?_))) ?_)
  · rintro k σ ⟨x10, v8, l9, L, hk, hA, h, rfl⟩
    rcases k with _ | n
    · simp [go_ref27_Twin_L1] at h
    · rw [go_ref27_Twin_L1] at h
      repeat refine sat_seq ?_
      refine satO_reg ?_
      have g0 := hA.get (k := 0) rfl
      have g1 := hA.get (k := 1) rfl
      have g2 := hA.get (k := 2) rfl
      obtain ⟨w0a, w0b, w0c⟩ := hA.whole (j := 0) rfl
      refine satO_step 5 [] ⟨an 1 (.ptr (lv + 1) i2 0 :: .ptr (lv + 1) i4 0 :: .ptr (lv + 1) i6 0 :: .int .i64 x10 :: an 2 (.int .i64 x10 :: .ptr (lv + 1) i2 2 :: .sl 6 (a0.args.map GValue.el) false :: .int .i64 (a0.args.length : Int) :: .bool (decide (x10 < (a0.args.length : Int))) :: an 14 [])), ⟨lv + 1, L, E⟩, [], E⟩ [] (by simp -implicitDefEqProofs [GNode.cs, g0, g1, g2, w0a, w0b, w0c]) claims_nil ?_
      refine satO_nil ?_
      repeat refine sat_seq ?_
      refine sat_cond rfl (fun hb => ?_) (fun hb => ?_)
      · have h := ite_t hb h
        repeat refine sat_seq ?_
        refine sat_skip ?_
        repeat refine sat_seq ?_
        refine sat_block ?_
        repeat refine sat_seq ?_
        obtain ⟨x11, q12, h⟩ := bnd_hi h
        obtain ⟨q12, q13⟩ := ix_some q12
        obtain ⟨y14, q15, h⟩ := bnd_hi h
        have g0 := hA.get (k := 0) rfl
        have g1 := hA.get (k := 1) rfl
        have g2 := hA.get (k := 2) rfl
        obtain ⟨w0a, w0b, w0c⟩ := hA.whole (j := 0) rfl
        refine satO_drt 9 (by kernel_rfl) (by kernel_rfl) [.agg y14.cs] ⟨an 1 (.ptr (lv + 1) i2 0 :: .ptr (lv + 1) i4 0 :: .ptr (lv + 1) i6 0 :: .int .i64 x10 :: an 2 (.int .i64 x10 :: .ptr (lv + 1) i2 2 :: .sl 6 (a0.args.map GValue.el) false :: .int .i64 (a0.args.length : Int) :: .bool (decide (x10 < (a0.args.length : Int))) :: an 2 (.ptr (lv + 1) i6 2 :: v8 :: .ptr (lv + 1) i2 2 :: .sl 6 (a0.args.map GValue.el) false :: .int .i64 x10 :: .ref x11.cs 0 :: .agg x11.cs :: .agg y14.cs :: .sl 6 [.agg y14.cs] true :: an 3 []))), ⟨lv + 1, L, E⟩, [], E⟩ [⟨45, [.agg x11.cs], ⟨lv + 1, L, E⟩, .agg y14.cs, ⟨lv + 1, L, E⟩⟩] (by simp -implicitDefEqProofs [GNode.cs, GValue.cs, g0, g1, g2, w0a, w0b, w0c, q12, q13, GValue.el_cs]) (claims_cons (go_ref03_Twin_ok _ _ _ q15 _) claims_nil) ?_
        obtain ⟨l16, q17, h⟩ := bnd_hi h
        obtain ⟨q17, q18⟩ := ext_some q17
        obtain ⟨v19, L, q20, hA⟩ := hA.push (j := 0) rfl [.agg y14.cs] (by simpa using q17) E
        refine satO_step 1 [] ⟨an 1 (.ptr (lv + 1) i2 0 :: .ptr (lv + 1) i4 0 :: .ptr (lv + 1) i6 0 :: .int .i64 x10 :: an 2 (.int .i64 x10 :: .ptr (lv + 1) i2 2 :: .sl 6 (a0.args.map GValue.el) false :: .int .i64 (a0.args.length : Int) :: .bool (decide (x10 < (a0.args.length : Int))) :: an 2 (.ptr (lv + 1) i6 2 :: v8 :: .ptr (lv + 1) i2 2 :: .sl 6 (a0.args.map GValue.el) false :: .int .i64 x10 :: .ref x11.cs 0 :: .agg x11.cs :: .agg y14.cs :: .sl 6 [.agg y14.cs] true :: v19 :: an 2 []))), ⟨lv + 1, L, E⟩, [], E⟩ [] (by simp -implicitDefEqProofs [q20]) claims_nil ?_
        have hA : AccG (lv + 1) L [⟨73, 6, v19, l16.map GValue.el⟩] [(i2, .cells a0.cs), (i4, .cells [.str ([]), .str ([]), .nils, .int .u8 0, .int .i64 0, .int .i64 0, .int .i64 0, .int .i64 0, .int .i64 0, .int .i64 0, .str ([]), .int .i64 0, .bool false]), (i6, .cells [.str a0.path, .str a0.rule_, v8, .int .u8 a0.scope.frame.turn, .int .i64 a0.scope.frame.at_.x, .int .i64 a0.scope.frame.at_.y, .int .i64 a0.scope.frame.at_.z, .int .i64 a0.scope.size_.x, .int .i64 a0.scope.size_.y, .int .i64 a0.scope.size_.z, .str a0.leaf, .int .i64 a0.fault, .bool a0.open_])] := by rw [q18]; simpa [GValue.el_cs] using hA
        have g0 := hA.get (k := 0) rfl
        have g1 := hA.get (k := 1) rfl
        have g2 := hA.get (k := 2) rfl
        obtain ⟨w0a, w0b, w0c⟩ := hA.whole (j := 0) rfl
        refine satO_step 1 [] ⟨an 1 (.ptr (lv + 1) i2 0 :: .ptr (lv + 1) i4 0 :: .ptr (lv + 1) i6 0 :: .int .i64 x10 :: an 2 (.int .i64 x10 :: .ptr (lv + 1) i2 2 :: .sl 6 (a0.args.map GValue.el) false :: .int .i64 (a0.args.length : Int) :: .bool (decide (x10 < (a0.args.length : Int))) :: an 2 (.ptr (lv + 1) i6 2 :: v8 :: .ptr (lv + 1) i2 2 :: .sl 6 (a0.args.map GValue.el) false :: .int .i64 x10 :: .ref x11.cs 0 :: .agg x11.cs :: .agg y14.cs :: .sl 6 [.agg y14.cs] true :: v19 :: .ptr (lv + 1) i6 2 :: an 1 []))), ⟨lv + 1, L, E⟩, [], E⟩ [] (by simp -implicitDefEqProofs [GNode.cs, GValue.cs, g0, g1, g2, w0a, w0b, w0c]) claims_nil ?_
        have g0 := hA.get (k := 0) rfl
        have g1 := hA.get (k := 1) rfl
        have g2 := hA.get (k := 2) rfl
        obtain ⟨w0a, w0b, w0c⟩ := hA.whole (j := 0) rfl
        refine satO_step 1 [] ⟨an 1 (.ptr (lv + 1) i2 0 :: .ptr (lv + 1) i4 0 :: .ptr (lv + 1) i6 0 :: .int .i64 x10 :: an 2 (.int .i64 x10 :: .ptr (lv + 1) i2 2 :: .sl 6 (a0.args.map GValue.el) false :: .int .i64 (a0.args.length : Int) :: .bool (decide (x10 < (a0.args.length : Int))) :: an 2 (.ptr (lv + 1) i6 2 :: v8 :: .ptr (lv + 1) i2 2 :: .sl 6 (a0.args.map GValue.el) false :: .int .i64 x10 :: .ref x11.cs 0 :: .agg x11.cs :: .agg y14.cs :: .sl 6 [.agg y14.cs] true :: v19 :: .ptr (lv + 1) i6 2 :: an 1 []))), ⟨lv + 1, (L.set i6 (some (.cells [.str a0.path, .str a0.rule_, v19, .int .u8 a0.scope.frame.turn, .int .i64 a0.scope.frame.at_.x, .int .i64 a0.scope.frame.at_.y, .int .i64 a0.scope.frame.at_.z, .int .i64 a0.scope.size_.x, .int .i64 a0.scope.size_.y, .int .i64 a0.scope.size_.z, .str a0.leaf, .int .i64 a0.fault, .bool a0.open_]))), E⟩, [], E⟩ [] (by simp -implicitDefEqProofs [GNode.cs, GValue.cs, g0, g1, g2, w0a, w0b, w0c]) claims_nil ?_
        have hA : AccG (lv + 1) (L.set i6 (some (.cells [.str a0.path, .str a0.rule_, v19, .int .u8 a0.scope.frame.turn, .int .i64 a0.scope.frame.at_.x, .int .i64 a0.scope.frame.at_.y, .int .i64 a0.scope.frame.at_.z, .int .i64 a0.scope.size_.x, .int .i64 a0.scope.size_.y, .int .i64 a0.scope.size_.z, .str a0.leaf, .int .i64 a0.fault, .bool a0.open_]))) [⟨73, 6, v19, l16.map GValue.el⟩] [(i2, .cells a0.cs), (i4, .cells [.str ([]), .str ([]), .nils, .int .u8 0, .int .i64 0, .int .i64 0, .int .i64 0, .int .i64 0, .int .i64 0, .int .i64 0, .str ([]), .int .i64 0, .bool false]), (i6, .cells [.str a0.path, .str a0.rule_, v19, .int .u8 a0.scope.frame.turn, .int .i64 a0.scope.frame.at_.x, .int .i64 a0.scope.frame.at_.y, .int .i64 a0.scope.frame.at_.z, .int .i64 a0.scope.size_.x, .int .i64 a0.scope.size_.y, .int .i64 a0.scope.size_.z, .str a0.leaf, .int .i64 a0.fault, .bool a0.open_])] := hA.upd (k := 2) rfl _
        generalize (L.set i6 (some (.cells [.str a0.path, .str a0.rule_, v19, .int .u8 a0.scope.frame.turn, .int .i64 a0.scope.frame.at_.x, .int .i64 a0.scope.frame.at_.y, .int .i64 a0.scope.frame.at_.z, .int .i64 a0.scope.size_.x, .int .i64 a0.scope.size_.y, .int .i64 a0.scope.size_.z, .str a0.leaf, .int .i64 a0.fault, .bool a0.open_]))) = L at hA ⊢
        refine satO_nil ?_
        repeat refine sat_seq ?_
        refine satO_reg ?_
        have g0 := hA.get (k := 0) rfl
        have g1 := hA.get (k := 1) rfl
        have g2 := hA.get (k := 2) rfl
        obtain ⟨w0a, w0b, w0c⟩ := hA.whole (j := 0) rfl
        refine satO_step 3 [] ⟨an 1 (.ptr (lv + 1) i2 0 :: .ptr (lv + 1) i4 0 :: .ptr (lv + 1) i6 0 :: .int .i64 (IntKind.i64.wrap (x10 + 1)) :: an 2 (.int .i64 x10 :: .ptr (lv + 1) i2 2 :: .sl 6 (a0.args.map GValue.el) false :: .int .i64 (a0.args.length : Int) :: .bool (decide (x10 < (a0.args.length : Int))) :: .int .i64 x10 :: .int .i64 (IntKind.i64.wrap (x10 + 1)) :: .ptr (lv + 1) i6 2 :: v8 :: .ptr (lv + 1) i2 2 :: .sl 6 (a0.args.map GValue.el) false :: .int .i64 x10 :: .ref x11.cs 0 :: .agg x11.cs :: .agg y14.cs :: .sl 6 [.agg y14.cs] true :: v19 :: .ptr (lv + 1) i6 2 :: an 1 [])), ⟨lv + 1, L, E⟩, [], E⟩ [] (by simp -implicitDefEqProofs [GNode.cs, GValue.cs, g0, g1, g2, w0a, w0b, w0c]) claims_nil ?_
        refine satO_nil ?_
        refine ⟨n, ⟨an 1 (.ptr (lv + 1) i2 0 :: .ptr (lv + 1) i4 0 :: .ptr (lv + 1) i6 0 :: .int .i64 (IntKind.i64.wrap (x10 + 1)) :: an 21 []), ⟨lv + 1, L, E⟩, [], E⟩, weak_tmps ?_, ⟨(IntKind.i64.wrap (x10 + 1)), v19, l16, L, by omega, hA, h, rfl⟩, by omega⟩
        (try simp only [an]); repeat (first | exact VLeL.nil | refine VLeL.cons (by first | exact VLe.refl _ | exact VLe.any _ | exact VLe.nil _ _ | (refine VLe.agg' ?_; repeat (first | exact VLeL.nil | refine VLeL.cons (by first | exact VLe.refl _ | exact VLe.any _ | exact VLe.nil _ _) ?_))) ?_)
      · have h := ite_f hb h
        repeat refine sat_seq ?_
        refine sat_exit ?_
        repeat refine sat_seq ?_
        refine satO_reg ?_
        have g0 := hA.get (k := 0) rfl
        have g1 := hA.get (k := 1) rfl
        have g2 := hA.get (k := 2) rfl
        obtain ⟨w0a, w0b, w0c⟩ := hA.whole (j := 0) rfl
        refine satO_step 1 [] ⟨an 1 (.ptr (lv + 1) i2 0 :: .ptr (lv + 1) i4 0 :: .ptr (lv + 1) i6 0 :: .int .i64 x10 :: an 2 (.int .i64 x10 :: .ptr (lv + 1) i2 2 :: .sl 6 (a0.args.map GValue.el) false :: .int .i64 (a0.args.length : Int) :: .bool (decide (x10 < (a0.args.length : Int))) :: an 13 (.agg [.str a0.path, .str a0.rule_, v8, .int .u8 a0.scope.frame.turn, .int .i64 a0.scope.frame.at_.x, .int .i64 a0.scope.frame.at_.y, .int .i64 a0.scope.frame.at_.z, .int .i64 a0.scope.size_.x, .int .i64 a0.scope.size_.y, .int .i64 a0.scope.size_.z, .str a0.leaf, .int .i64 a0.fault, .bool a0.open_] :: []))), ⟨lv + 1, L, E⟩, [], E⟩ [] (by simp -implicitDefEqProofs [GNode.cs, GValue.cs, g0, g1, g2, w0a, w0b, w0c]) claims_nil ?_
        have g0 := hA.get (k := 0) rfl
        have g1 := hA.get (k := 1) rfl
        have g2 := hA.get (k := 2) rfl
        obtain ⟨w0a, w0b, w0c⟩ := hA.whole (j := 0) rfl
        refine satO_step 1 [] ⟨an 1 (.ptr (lv + 1) i2 0 :: .ptr (lv + 1) i4 0 :: .ptr (lv + 1) i6 0 :: .int .i64 x10 :: an 2 (.int .i64 x10 :: .ptr (lv + 1) i2 2 :: .sl 6 (a0.args.map GValue.el) false :: .int .i64 (a0.args.length : Int) :: .bool (decide (x10 < (a0.args.length : Int))) :: an 13 (.agg [.str a0.path, .str a0.rule_, v8, .int .u8 a0.scope.frame.turn, .int .i64 a0.scope.frame.at_.x, .int .i64 a0.scope.frame.at_.y, .int .i64 a0.scope.frame.at_.z, .int .i64 a0.scope.size_.x, .int .i64 a0.scope.size_.y, .int .i64 a0.scope.size_.z, .str a0.leaf, .int .i64 a0.fault, .bool a0.open_] :: []))), ⟨lv + 1, (L.set i4 (some (.cells [.str a0.path, .str a0.rule_, v8, .int .u8 a0.scope.frame.turn, .int .i64 a0.scope.frame.at_.x, .int .i64 a0.scope.frame.at_.y, .int .i64 a0.scope.frame.at_.z, .int .i64 a0.scope.size_.x, .int .i64 a0.scope.size_.y, .int .i64 a0.scope.size_.z, .str a0.leaf, .int .i64 a0.fault, .bool a0.open_]))), E⟩, [], E⟩ [] (by simp -implicitDefEqProofs [GNode.cs, GValue.cs, g0, g1, g2, w0a, w0b, w0c]) claims_nil ?_
        have hA : AccG (lv + 1) (L.set i4 (some (.cells [.str a0.path, .str a0.rule_, v8, .int .u8 a0.scope.frame.turn, .int .i64 a0.scope.frame.at_.x, .int .i64 a0.scope.frame.at_.y, .int .i64 a0.scope.frame.at_.z, .int .i64 a0.scope.size_.x, .int .i64 a0.scope.size_.y, .int .i64 a0.scope.size_.z, .str a0.leaf, .int .i64 a0.fault, .bool a0.open_]))) [⟨73, 6, v8, l9.map GValue.el⟩] [(i2, .cells a0.cs), (i4, .cells [.str a0.path, .str a0.rule_, v8, .int .u8 a0.scope.frame.turn, .int .i64 a0.scope.frame.at_.x, .int .i64 a0.scope.frame.at_.y, .int .i64 a0.scope.frame.at_.z, .int .i64 a0.scope.size_.x, .int .i64 a0.scope.size_.y, .int .i64 a0.scope.size_.z, .str a0.leaf, .int .i64 a0.fault, .bool a0.open_]), (i6, .cells [.str a0.path, .str a0.rule_, v8, .int .u8 a0.scope.frame.turn, .int .i64 a0.scope.frame.at_.x, .int .i64 a0.scope.frame.at_.y, .int .i64 a0.scope.frame.at_.z, .int .i64 a0.scope.size_.x, .int .i64 a0.scope.size_.y, .int .i64 a0.scope.size_.z, .str a0.leaf, .int .i64 a0.fault, .bool a0.open_])] := hA.upd (k := 1) rfl _
        generalize (L.set i4 (some (.cells [.str a0.path, .str a0.rule_, v8, .int .u8 a0.scope.frame.turn, .int .i64 a0.scope.frame.at_.x, .int .i64 a0.scope.frame.at_.y, .int .i64 a0.scope.frame.at_.z, .int .i64 a0.scope.size_.x, .int .i64 a0.scope.size_.y, .int .i64 a0.scope.size_.z, .str a0.leaf, .int .i64 a0.fault, .bool a0.open_]))) = L at hA ⊢
        refine satO_nil ?_
        repeat refine sat_seq ?_
        refine sat_ret ?_
        have g0 := hA.get (k := 0) rfl
        have g1 := hA.get (k := 1) rfl
        have g2 := hA.get (k := 2) rfl
        obtain ⟨w0a, w0b, w0c⟩ := hA.whole (j := 0) rfl
        refine ends (v := .agg [.str a0.path, .str a0.rule_, v8, .int .u8 a0.scope.frame.turn, .int .i64 a0.scope.frame.at_.x, .int .i64 a0.scope.frame.at_.y, .int .i64 a0.scope.frame.at_.z, .int .i64 a0.scope.size_.x, .int .i64 a0.scope.size_.y, .int .i64 a0.scope.size_.z, .str a0.leaf, .int .i64 a0.fault, .bool a0.open_]) (by simp [resultsV, resL, resV, tupOf, Try.f29, pLoad, g0, g1, g2, w0a, w0b, w0c, GNode.cs, GValue.cs]) rfl rfl ?_
        injection h with h
        subst h
        exact (VS.agg' (.cons (.keep _ (by simp [V.kin, V.kinL, GNode.cs, GValue.cs])) (.cons (.keep _ (by simp [V.kin, V.kinL, GNode.cs, GValue.cs])) (.cons (hA.shut (j := 0) rfl (by simp [V.kin, V.kinL, GNode.cs, GValue.cs])) (.cons (.keep _ (by simp [V.kin, V.kinL, GNode.cs, GValue.cs])) (.cons (.keep _ (by simp [V.kin, V.kinL, GNode.cs, GValue.cs])) (.cons (.keep _ (by simp [V.kin, V.kinL, GNode.cs, GValue.cs])) (.cons (.keep _ (by simp [V.kin, V.kinL, GNode.cs, GValue.cs])) (.cons (.keep _ (by simp [V.kin, V.kinL, GNode.cs, GValue.cs])) (.cons (.keep _ (by simp [V.kin, V.kinL, GNode.cs, GValue.cs])) (.cons (.keep _ (by simp [V.kin, V.kinL, GNode.cs, GValue.cs])) (.cons (.keep _ (by simp [V.kin, V.kinL, GNode.cs, GValue.cs])) (.cons (.keep _ (by simp [V.kin, V.kinL, GNode.cs, GValue.cs])) (.cons (.keep _ (by simp [V.kin, V.kinL, GNode.cs, GValue.cs])) .nil))))))))))))))
end Go.Proofs

namespace Go.Proofs
open Go Go.Ab
set_option maxRecDepth 10000
set_option maxHeartbeats 1000000
set_option linter.unusedSimpArgs false
set_option linter.unusedVariables false
theorem go_ref27_Leaves_ok (n : Nat) (a0 : List GNode) (r : (List GNode)) (h : go_ref27_Leaves n a0 = some r) : PCall Try.prog 11 [.sl 13 (a0.map GNode.el) false] (.sl 13 (r.map GNode.el) false) := by
  rcases n with _ | n
  · simp [go_ref27_Leaves] at h
  rw [go_ref27_Leaves] at h
  refine pcall_of Try.func11 rfl Try.ntmps11 (fun _ _ => Try.call11 _ _) fun lv E => ?_
  simp only [List.length_cons, List.length_nil, Nat.reduceAdd, Nat.reduceSub, List.replicate, List.cons_append, List.nil_append]
  have hA := AccG.nil (lv + 1)
  generalize ([] : List (Option AObj)) = L at hA ⊢
  repeat refine sat_seq ?_
  refine satO_reg ?_
  refine satO_step 1 [] ⟨.sl 13 (a0.map GNode.el) false :: an 1 (.nils :: an 24 []), ⟨lv + 1, L, E⟩, [], E⟩ [] (by simp -implicitDefEqProofs []) claims_nil ?_
  refine satO_nil ?_
  repeat refine sat_seq ?_
  refine satO_reg ?_
  refine satO_step 1 [] ⟨.sl 13 (a0.map GNode.el) false :: an 1 (.nils :: .nils :: an 23 []), ⟨lv + 1, L, E⟩, [], E⟩ [] (by simp -implicitDefEqProofs []) claims_nil ?_
  refine satO_nil ?_
  repeat refine sat_seq ?_
  refine satO_reg ?_
  refine satO_step 1 [] ⟨.sl 13 (a0.map GNode.el) false :: an 1 (.nils :: .nils :: .int .i64 0 :: an 22 []), ⟨lv + 1, L, E⟩, [], E⟩ [] (by simp -implicitDefEqProofs []) claims_nil ?_
  refine satO_nil ?_
  repeat refine sat_seq ?_
  refine sat_block ?_
  repeat refine sat_seq ?_
  have hA := hA.cons 40 13
  refine sat_loop (fun k σ => ∃ (x4 : Int) (v2 : V) (l3 : List GNode) (L : List (Option AObj)), k ≤ n ∧ AccG (lv + 1) L [⟨40, 13, v2, l3.map GNode.el⟩] [] ∧ go_ref27_Leaves_L1 k a0 l3 x4 = some r ∧ σ = ⟨.sl 13 (a0.map GNode.el) false :: an 2 (v2 :: .int .i64 x4 :: an 22 []), ⟨lv + 1, L, E⟩, [], E⟩) n ⟨.sl 13 (a0.map GNode.el) false :: an 2 (.nils :: .int .i64 0 :: an 22 []), ⟨lv + 1, L, E⟩, [], E⟩ (weak_tmps ?_) ⟨0, .nils, ([]), L, Nat.le_refl _, hA, h, rfl⟩ ?_
  · (try simp only [an]); repeat (first | exact VLeL.nil | refine VLeL.cons (by first | exact VLe.refl _ | exact VLe.any _ | exact VLe.nil _ _ | (refine VLe.agg' ?_; repeat (first | exact VLeL.nil | refine VLeL.cons (by first | exact VLe.refl _ | exact VLe.any _ | exact VLe.nil _ _) ?_))) ?_)
  · rintro k σ ⟨x4, v2, l3, L, hk, hA, h, rfl⟩
    rcases k with _ | n
    · simp [go_ref27_Leaves_L1] at h
    · rw [go_ref27_Leaves_L1] at h
      repeat refine sat_seq ?_
      refine satO_reg ?_
      obtain ⟨w0a, w0b, w0c⟩ := hA.whole (j := 0) rfl
      refine satO_step 4 [] ⟨.sl 13 (a0.map GNode.el) false :: an 2 (v2 :: .int .i64 x4 :: .int .i64 x4 :: .sl 13 (a0.map GNode.el) false :: .int .i64 (a0.length : Int) :: .bool (decide (x4 < (a0.length : Int))) :: an 18 []), ⟨lv + 1, L, E⟩, [], E⟩ [] (by simp -implicitDefEqProofs [w0a, w0b, w0c]) claims_nil ?_
      refine satO_nil ?_
      repeat refine sat_seq ?_
      refine sat_cond rfl (fun hb => ?_) (fun hb => ?_)
      · have h := ite_t hb h
        repeat refine sat_seq ?_
        refine sat_skip ?_
        repeat refine sat_seq ?_
        refine sat_block ?_
        repeat refine sat_seq ?_
        refine satO_reg ?_
        obtain ⟨x5, q6, h⟩ := bnd_hi h
        obtain ⟨q6, q7⟩ := ix_some q6
        obtain ⟨w0a, w0b, w0c⟩ := hA.whole (j := 0) rfl
        refine satO_step 7 [] ⟨.sl 13 (a0.map GNode.el) false :: an 2 (v2 :: .int .i64 x4 :: .int .i64 x4 :: .sl 13 (a0.map GNode.el) false :: .int .i64 (a0.length : Int) :: .bool (decide (x4 < (a0.length : Int))) :: an 2 (.sl 13 (a0.map GNode.el) false :: .int .i64 x4 :: .ref x5.cs 0 :: .ref x5.cs 1 :: .str x5.rule_ :: .int .i64 (x5.rule_.length : Int) :: .bool ((x5.rule_.length : Int) == 0) :: an 9 [])), ⟨lv + 1, L, E⟩, [], E⟩ [] (by simp -implicitDefEqProofs [GNode.cs, w0a, w0b, w0c, q6, q7, GNode.el_cs]) claims_nil ?_
        refine satO_nil ?_
        repeat refine sat_seq ?_
        refine sat_meet (fun σ => ∃ (k : Nat), k ≤ n ∧ ∃ (v8 : V) (l9 : List GNode) (L : List (Option AObj)), AccG (lv + 1) L [⟨40, 13, v8, l9.map GNode.el⟩] [] ∧ go_ref27_Leaves_J1 k a0 x4 l9 = some r ∧ σ = ⟨.sl 13 (a0.map GNode.el) false :: an 2 (v8 :: .int .i64 x4 :: an 22 []), ⟨lv + 1, L, E⟩, [], E⟩) ?_ ?_
        · refine sat_cond rfl (fun hb => ?_) (fun hb => ?_)
          · have h := ite_t hb h
            repeat refine sat_seq ?_
            refine satO_reg ?_
            obtain ⟨y10, q11, h⟩ := bnd_hi h
            obtain ⟨w0a, w0b, w0c⟩ := hA.whole (j := 0) rfl
            refine satO_step 7 [(.agg y10.cs, none)] ⟨.sl 13 (a0.map GNode.el) false :: an 2 (v2 :: .int .i64 x4 :: .int .i64 x4 :: .sl 13 (a0.map GNode.el) false :: .int .i64 (a0.length : Int) :: .bool (decide (x4 < (a0.length : Int))) :: an 2 (.sl 13 (a0.map GNode.el) false :: .int .i64 x4 :: .ref x5.cs 0 :: .ref x5.cs 1 :: .str x5.rule_ :: .int .i64 (x5.rule_.length : Int) :: .bool ((x5.rule_.length : Int) == 0) :: v2 :: .sl 13 (a0.map GNode.el) false :: .int .i64 x4 :: .ref x5.cs 0 :: .agg x5.cs :: .agg y10.cs :: .sl 13 [.agg y10.cs] true :: an 2 [])), ⟨lv + 1, L, E⟩, [], E⟩ [⟨29, [.agg x5.cs], ⟨lv + 1, L, E⟩, .agg y10.cs, ⟨lv + 1, L, E⟩⟩] (by simp -implicitDefEqProofs [GNode.cs, w0a, w0b, w0c, q6, q7, GNode.el_cs]) (claims_cons (go_ref27_Twin_ok _ _ _ q11 _) claims_nil) ?_
            obtain ⟨l12, q13, h⟩ := bnd_hi h
            obtain ⟨q13, q14⟩ := ext_some q13
            obtain ⟨v15, L, q16, hA⟩ := hA.push (j := 0) rfl [.agg y10.cs] (by simpa using q13) E
            refine satO_step 1 [] ⟨.sl 13 (a0.map GNode.el) false :: an 2 (v2 :: .int .i64 x4 :: .int .i64 x4 :: .sl 13 (a0.map GNode.el) false :: .int .i64 (a0.length : Int) :: .bool (decide (x4 < (a0.length : Int))) :: an 2 (.sl 13 (a0.map GNode.el) false :: .int .i64 x4 :: .ref x5.cs 0 :: .ref x5.cs 1 :: .str x5.rule_ :: .int .i64 (x5.rule_.length : Int) :: .bool ((x5.rule_.length : Int) == 0) :: v2 :: .sl 13 (a0.map GNode.el) false :: .int .i64 x4 :: .ref x5.cs 0 :: .agg x5.cs :: .agg y10.cs :: .sl 13 [.agg y10.cs] true :: v15 :: an 1 [])), ⟨lv + 1, L, E⟩, [], E⟩ [] (by simp -implicitDefEqProofs [q16]) claims_nil ?_
            have hA : AccG (lv + 1) L [⟨40, 13, v15, l12.map GNode.el⟩] [] := by rw [q14]; simpa [GNode.el_cs] using hA
            obtain ⟨w0a, w0b, w0c⟩ := hA.whole (j := 0) rfl
            refine satO_step 1 [] ⟨.sl 13 (a0.map GNode.el) false :: an 2 (v15 :: .int .i64 x4 :: .int .i64 x4 :: .sl 13 (a0.map GNode.el) false :: .int .i64 (a0.length : Int) :: .bool (decide (x4 < (a0.length : Int))) :: an 2 (.sl 13 (a0.map GNode.el) false :: .int .i64 x4 :: .ref x5.cs 0 :: .ref x5.cs 1 :: .str x5.rule_ :: .int .i64 (x5.rule_.length : Int) :: .bool ((x5.rule_.length : Int) == 0) :: v2 :: .sl 13 (a0.map GNode.el) false :: .int .i64 x4 :: .ref x5.cs 0 :: .agg x5.cs :: .agg y10.cs :: .sl 13 [.agg y10.cs] true :: v15 :: an 1 [])), ⟨lv + 1, L, E⟩, [], E⟩ [] (by simp -implicitDefEqProofs [GNode.cs, w0a, w0b, w0c]) claims_nil ?_
            refine satO_nil ?_
            refine ⟨⟨.sl 13 (a0.map GNode.el) false :: an 2 (v15 :: .int .i64 x4 :: an 22 []), ⟨lv + 1, L, E⟩, [], E⟩, weak_tmps ?_, n, by omega, v15, l12, L, hA, h, rfl⟩
            (try simp only [an]); repeat (first | exact VLeL.nil | refine VLeL.cons (by first | exact VLe.refl _ | exact VLe.any _ | exact VLe.nil _ _ | (refine VLe.agg' ?_; repeat (first | exact VLeL.nil | refine VLeL.cons (by first | exact VLe.refl _ | exact VLe.any _ | exact VLe.nil _ _) ?_))) ?_)
          · have h := ite_f hb h
            repeat refine sat_seq ?_
            refine sat_skip ?_
            refine ⟨⟨.sl 13 (a0.map GNode.el) false :: an 2 (v2 :: .int .i64 x4 :: an 22 []), ⟨lv + 1, L, E⟩, [], E⟩, weak_tmps ?_, n, by omega, v2, l3, L, hA, h, rfl⟩
            (try simp only [an]); repeat (first | exact VLeL.nil | refine VLeL.cons (by first | exact VLe.refl _ | exact VLe.any _ | exact VLe.nil _ _ | (refine VLe.agg' ?_; repeat (first | exact VLeL.nil | refine VLeL.cons (by first | exact VLe.refl _ | exact VLe.any _ | exact VLe.nil _ _) ?_))) ?_)
        · rintro σ0 σ hw ⟨k, hk, v8, l9, L, hA, h, rfl⟩
          rcases k with _ | n
          · simp [go_ref27_Leaves_J1] at h
          · rw [go_ref27_Leaves_J1] at h
            refine sat_weak hw ?_
            repeat refine sat_seq ?_
            refine satO_reg ?_
            obtain ⟨w0a, w0b, w0c⟩ := hA.whole (j := 0) rfl
            refine satO_step 3 [] ⟨.sl 13 (a0.map GNode.el) false :: an 2 (v8 :: .int .i64 (IntKind.i64.wrap (x4 + 1)) :: an 4 (.int .i64 x4 :: .int .i64 (IntKind.i64.wrap (x4 + 1)) :: an 16 [])), ⟨lv + 1, L, E⟩, [], E⟩ [] (by simp -implicitDefEqProofs [GNode.cs, w0a, w0b, w0c]) claims_nil ?_
            refine satO_nil ?_
            refine ⟨n, ⟨.sl 13 (a0.map GNode.el) false :: an 2 (v8 :: .int .i64 (IntKind.i64.wrap (x4 + 1)) :: an 22 []), ⟨lv + 1, L, E⟩, [], E⟩, weak_tmps ?_, ⟨(IntKind.i64.wrap (x4 + 1)), v8, l9, L, by omega, hA, h, rfl⟩, by omega⟩
            (try simp only [an]); repeat (first | exact VLeL.nil | refine VLeL.cons (by first | exact VLe.refl _ | exact VLe.any _ | exact VLe.nil _ _ | (refine VLe.agg' ?_; repeat (first | exact VLeL.nil | refine VLeL.cons (by first | exact VLe.refl _ | exact VLe.any _ | exact VLe.nil _ _) ?_))) ?_)
      · have h := ite_f hb h
        repeat refine sat_seq ?_
        refine sat_exit ?_
        repeat refine sat_seq ?_
        refine satO_reg ?_
        obtain ⟨w0a, w0b, w0c⟩ := hA.whole (j := 0) rfl
        refine satO_step 2 [] ⟨.sl 13 (a0.map GNode.el) false :: an 1 (v2 :: v2 :: .int .i64 x4 :: .int .i64 x4 :: .sl 13 (a0.map GNode.el) false :: .int .i64 (a0.length : Int) :: .bool (decide (x4 < (a0.length : Int))) :: an 17 (v2 :: [])), ⟨lv + 1, L, E⟩, [], E⟩ [] (by simp -implicitDefEqProofs [GNode.cs, w0a, w0b, w0c]) claims_nil ?_
        refine satO_nil ?_
        repeat refine sat_seq ?_
        refine sat_ret ?_
        obtain ⟨w0a, w0b, w0c⟩ := hA.whole (j := 0) rfl
        refine ends (v := v2) (by simp [resultsV, resL, resV, tupOf, Try.f11, pLoad, w0a, w0b, w0c, GNode.cs]) rfl rfl ?_
        injection h with h
        subst h
        exact (hA.shut (j := 0) rfl (by simp [V.kin, V.kinL, GNode.cs]))
end Go.Proofs

namespace Go.Proofs
open Go Go.Ab
set_option maxRecDepth 10000
set_option maxHeartbeats 1000000
set_option linter.unusedSimpArgs false
set_option linter.unusedVariables false
theorem go_ref03_Same_ok : ∀ n : Nat, (∀ (a0 : GValue) (a1 : GValue) (r : Bool), go_ref03_Same n a0 a1 = some r → PCall Try.prog 32 [.agg a0.cs, .agg a1.cs] (.bool r)) := by
  intro n; induction n using Nat.strongRecOn with | ind n ih =>
  intro a0 a1 r h
  rcases n with _ | n
  · simp [go_ref03_Same] at h
  rw [go_ref03_Same] at h
  refine pcall_of Try.func32 rfl Try.ntmps32 (fun _ _ => Try.call32 _ _) fun lv E => ?_
  simp only [List.length_cons, List.length_nil, Nat.reduceAdd, Nat.reduceSub, List.replicate, List.cons_append, List.nil_append]
  have hA := AccG.nil (lv + 1)
  generalize ([] : List (Option AObj)) = L at hA ⊢
  repeat refine sat_seq ?_
  refine satO_reg ?_
  refine satO_step 1 [] ⟨.agg a0.cs :: .agg a1.cs :: .ptr (lv + 1) L.length 0 :: an 57 [], ⟨lv + 1, (L ++ [some (.cells a0.cs)]), E⟩, [], E⟩ [] (by simp -implicitDefEqProofs [GValue.cs]) claims_nil ?_
  have hA : AccG (lv + 1) (L ++ [some (.cells a0.cs)]) [] [(L.length, .cells a0.cs)] := hA.obj _
  generalize L.length = i2 at hA ⊢
  generalize (L ++ [some (.cells a0.cs)]) = L at hA ⊢
  refine satO_step 1 [] ⟨.agg a0.cs :: .agg a1.cs :: .ptr (lv + 1) i2 0 :: .ptr (lv + 1) L.length 0 :: an 56 [], ⟨lv + 1, (L ++ [some (.cells a1.cs)]), E⟩, [], E⟩ [] (by simp -implicitDefEqProofs [GValue.cs]) claims_nil ?_
  have hA : AccG (lv + 1) (L ++ [some (.cells a1.cs)]) [] [(i2, .cells a0.cs), (L.length, .cells a1.cs)] := hA.obj _
  generalize L.length = i4 at hA ⊢
  generalize (L ++ [some (.cells a1.cs)]) = L at hA ⊢
  have g0 := hA.get (k := 0) rfl
  have g1 := hA.get (k := 1) rfl
  refine satO_step 1 [] ⟨.agg a0.cs :: .agg a1.cs :: .ptr (lv + 1) i2 0 :: .ptr (lv + 1) i4 0 :: .bool false :: an 55 [], ⟨lv + 1, L, E⟩, [], E⟩ [] (by simp -implicitDefEqProofs [GValue.cs, g0, g1]) claims_nil ?_
  refine satO_nil ?_
  repeat refine sat_seq ?_
  refine sat_meet (fun σ => ∃ (k : Nat), k ≤ n ∧ ∃ (x5 : Bool) (L : List (Option AObj)), AccG (lv + 1) L [] [(i2, .cells a0.cs), (i4, .cells a1.cs)] ∧ go_ref03_Same_J1 k a0 a1 x5 = some r ∧ σ = ⟨an 2 (.ptr (lv + 1) i2 0 :: .ptr (lv + 1) i4 0 :: an 36 (.bool x5 :: an 19 [])), ⟨lv + 1, L, E⟩, [], E⟩) ?_ ?_
  · refine satO_reg ?_
    rcases Bool.eq_false_or_eq_true (!(a0.kind == a1.kind)) with hg6 | hg7
    · have h := ite_t hg6 h
      have g0 := hA.get (k := 0) rfl
      have g1 := hA.get (k := 1) rfl
      refine satO_step 35 [] ⟨.agg a0.cs :: .agg a1.cs :: .ptr (lv + 1) i2 0 :: .ptr (lv + 1) i4 0 :: .bool false :: an 1 (.ptr (lv + 1) i2 0 :: .int .u8 a0.kind :: .ptr (lv + 1) i4 0 :: .int .u8 a1.kind :: .bool (!(a0.kind == a1.kind)) :: .bool (!(a0.kind == a1.kind)) :: .tup [] :: .tup [] :: .tup [] :: .tup [] :: .tup [] :: .bool true :: .bool true :: .tup [] :: .tup [] :: .tup [] :: .tup [] :: .tup [] :: .bool true :: .bool true :: .tup [] :: .tup [] :: .tup [] :: .tup [] :: .tup [] :: .bool true :: .bool true :: .tup [] :: .tup [] :: .tup [] :: .tup [] :: .tup [] :: .tup [] :: .tup [] :: .bool true :: an 19 []), ⟨lv + 1, L, E⟩, [], E⟩ [] (by simp -implicitDefEqProofs [GValue.cs, g0, g1, hg6]) claims_nil ?_
      refine satO_nil ?_
      refine ⟨⟨an 2 (.ptr (lv + 1) i2 0 :: .ptr (lv + 1) i4 0 :: an 36 (.bool true :: an 19 [])), ⟨lv + 1, L, E⟩, [], E⟩, weak_tmps ?_, n, by omega, true, L, hA, h, rfl⟩
      (try simp only [an]); repeat (first | exact VLeL.nil | refine VLeL.cons (by first | exact VLe.refl _ | exact VLe.any _ | exact VLe.nil _ _ | (refine VLe.agg' ?_; repeat (first | exact VLeL.nil | refine VLeL.cons (by first | exact VLe.refl _ | exact VLe.any _ | exact VLe.nil _ _) ?_))) ?_)
    · have h := ite_f hg7 h
      rcases Bool.eq_false_or_eq_true (!((a0.num.num == a1.num.num) && (a0.num.den == a1.num.den))) with hg8 | hg9
      · have h := ite_t hg8 h
        have g0 := hA.get (k := 0) rfl
        have g1 := hA.get (k := 1) rfl
        refine satO_step 35 [] ⟨.agg a0.cs :: .agg a1.cs :: .ptr (lv + 1) i2 0 :: .ptr (lv + 1) i4 0 :: .bool false :: an 1 (.ptr (lv + 1) i2 0 :: .int .u8 a0.kind :: .ptr (lv + 1) i4 0 :: .int .u8 a1.kind :: .bool (!(a0.kind == a1.kind)) :: .bool (!(a0.kind == a1.kind)) :: .ptr (lv + 1) i2 1 :: .agg [.int .i64 a0.num.num, .int .i64 a0.num.den] :: .ptr (lv + 1) i4 1 :: .agg [.int .i64 a1.num.num, .int .i64 a1.num.den] :: .bool (!((a0.num.num == a1.num.num) && (a0.num.den == a1.num.den))) :: .bool (!((a0.num.num == a1.num.num) && (a0.num.den == a1.num.den))) :: .bool (!((a0.num.num == a1.num.num) && (a0.num.den == a1.num.den))) :: .tup [] :: .tup [] :: .tup [] :: .tup [] :: .tup [] :: .bool true :: .bool true :: .tup [] :: .tup [] :: .tup [] :: .tup [] :: .tup [] :: .bool true :: .bool true :: .tup [] :: .tup [] :: .tup [] :: .tup [] :: .tup [] :: .tup [] :: .tup [] :: .bool true :: an 19 []), ⟨lv + 1, L, E⟩, [], E⟩ [] (by simp -implicitDefEqProofs [GValue.cs, g0, g1, hg7, hg8]) claims_nil ?_
        refine satO_nil ?_
        refine ⟨⟨an 2 (.ptr (lv + 1) i2 0 :: .ptr (lv + 1) i4 0 :: an 36 (.bool true :: an 19 [])), ⟨lv + 1, L, E⟩, [], E⟩, weak_tmps ?_, n, by omega, true, L, hA, h, rfl⟩
        (try simp only [an]); repeat (first | exact VLeL.nil | refine VLeL.cons (by first | exact VLe.refl _ | exact VLe.any _ | exact VLe.nil _ _ | (refine VLe.agg' ?_; repeat (first | exact VLeL.nil | refine VLeL.cons (by first | exact VLe.refl _ | exact VLe.any _ | exact VLe.nil _ _) ?_))) ?_)
      · have h := ite_f hg9 h
        rcases Bool.eq_false_or_eq_true (!(a0.truth == a1.truth)) with hg10 | hg11
        · have h := ite_t hg10 h
          have g0 := hA.get (k := 0) rfl
          have g1 := hA.get (k := 1) rfl
          refine satO_step 35 [] ⟨.agg a0.cs :: .agg a1.cs :: .ptr (lv + 1) i2 0 :: .ptr (lv + 1) i4 0 :: .bool false :: an 1 (.ptr (lv + 1) i2 0 :: .int .u8 a0.kind :: .ptr (lv + 1) i4 0 :: .int .u8 a1.kind :: .bool (!(a0.kind == a1.kind)) :: .bool (!(a0.kind == a1.kind)) :: .ptr (lv + 1) i2 1 :: .agg [.int .i64 a0.num.num, .int .i64 a0.num.den] :: .ptr (lv + 1) i4 1 :: .agg [.int .i64 a1.num.num, .int .i64 a1.num.den] :: .bool (!((a0.num.num == a1.num.num) && (a0.num.den == a1.num.den))) :: .bool (!((a0.num.num == a1.num.num) && (a0.num.den == a1.num.den))) :: .bool (!((a0.num.num == a1.num.num) && (a0.num.den == a1.num.den))) :: .ptr (lv + 1) i2 3 :: .bool a0.truth :: .ptr (lv + 1) i4 3 :: .bool a1.truth :: .bool (!(a0.truth == a1.truth)) :: .bool (!(a0.truth == a1.truth)) :: .bool (!(a0.truth == a1.truth)) :: .tup [] :: .tup [] :: .tup [] :: .tup [] :: .tup [] :: .bool true :: .bool true :: .tup [] :: .tup [] :: .tup [] :: .tup [] :: .tup [] :: .tup [] :: .tup [] :: .bool true :: an 19 []), ⟨lv + 1, L, E⟩, [], E⟩ [] (by simp -implicitDefEqProofs [GValue.cs, g0, g1, hg7, hg9, hg10]) claims_nil ?_
          refine satO_nil ?_
          refine ⟨⟨an 2 (.ptr (lv + 1) i2 0 :: .ptr (lv + 1) i4 0 :: an 36 (.bool true :: an 19 [])), ⟨lv + 1, L, E⟩, [], E⟩, weak_tmps ?_, n, by omega, true, L, hA, h, rfl⟩
          (try simp only [an]); repeat (first | exact VLeL.nil | refine VLeL.cons (by first | exact VLe.refl _ | exact VLe.any _ | exact VLe.nil _ _ | (refine VLe.agg' ?_; repeat (first | exact VLeL.nil | refine VLeL.cons (by first | exact VLe.refl _ | exact VLe.any _ | exact VLe.nil _ _) ?_))) ?_)
        · have h := ite_f hg11 h
          rcases Bool.eq_false_or_eq_true (!(a0.str == a1.str)) with hg12 | hg13
          · have h := ite_t hg12 h
            have g0 := hA.get (k := 0) rfl
            have g1 := hA.get (k := 1) rfl
            refine satO_step 35 [] ⟨.agg a0.cs :: .agg a1.cs :: .ptr (lv + 1) i2 0 :: .ptr (lv + 1) i4 0 :: .bool false :: an 1 (.ptr (lv + 1) i2 0 :: .int .u8 a0.kind :: .ptr (lv + 1) i4 0 :: .int .u8 a1.kind :: .bool (!(a0.kind == a1.kind)) :: .bool (!(a0.kind == a1.kind)) :: .ptr (lv + 1) i2 1 :: .agg [.int .i64 a0.num.num, .int .i64 a0.num.den] :: .ptr (lv + 1) i4 1 :: .agg [.int .i64 a1.num.num, .int .i64 a1.num.den] :: .bool (!((a0.num.num == a1.num.num) && (a0.num.den == a1.num.den))) :: .bool (!((a0.num.num == a1.num.num) && (a0.num.den == a1.num.den))) :: .bool (!((a0.num.num == a1.num.num) && (a0.num.den == a1.num.den))) :: .ptr (lv + 1) i2 3 :: .bool a0.truth :: .ptr (lv + 1) i4 3 :: .bool a1.truth :: .bool (!(a0.truth == a1.truth)) :: .bool (!(a0.truth == a1.truth)) :: .bool (!(a0.truth == a1.truth)) :: .ptr (lv + 1) i2 4 :: .str a0.str :: .ptr (lv + 1) i4 4 :: .str a1.str :: .bool (!(a0.str == a1.str)) :: .bool (!(a0.str == a1.str)) :: .bool (!(a0.str == a1.str)) :: .tup [] :: .tup [] :: .tup [] :: .tup [] :: .tup [] :: .tup [] :: .tup [] :: .bool true :: an 19 []), ⟨lv + 1, L, E⟩, [], E⟩ [] (by simp -implicitDefEqProofs [GValue.cs, g0, g1, hg7, hg9, hg11, hg12]) claims_nil ?_
            refine satO_nil ?_
            refine ⟨⟨an 2 (.ptr (lv + 1) i2 0 :: .ptr (lv + 1) i4 0 :: an 36 (.bool true :: an 19 [])), ⟨lv + 1, L, E⟩, [], E⟩, weak_tmps ?_, n, by omega, true, L, hA, h, rfl⟩
            (try simp only [an]); repeat (first | exact VLeL.nil | refine VLeL.cons (by first | exact VLe.refl _ | exact VLe.any _ | exact VLe.nil _ _ | (refine VLe.agg' ?_; repeat (first | exact VLeL.nil | refine VLeL.cons (by first | exact VLe.refl _ | exact VLe.any _ | exact VLe.nil _ _) ?_))) ?_)
          · have h := ite_f hg13 h
            have g0 := hA.get (k := 0) rfl
            have g1 := hA.get (k := 1) rfl
            refine satO_step 35 [] ⟨.agg a0.cs :: .agg a1.cs :: .ptr (lv + 1) i2 0 :: .ptr (lv + 1) i4 0 :: .bool false :: an 1 (.ptr (lv + 1) i2 0 :: .int .u8 a0.kind :: .ptr (lv + 1) i4 0 :: .int .u8 a1.kind :: .bool (!(a0.kind == a1.kind)) :: .bool (!(a0.kind == a1.kind)) :: .ptr (lv + 1) i2 1 :: .agg [.int .i64 a0.num.num, .int .i64 a0.num.den] :: .ptr (lv + 1) i4 1 :: .agg [.int .i64 a1.num.num, .int .i64 a1.num.den] :: .bool (!((a0.num.num == a1.num.num) && (a0.num.den == a1.num.den))) :: .bool (!((a0.num.num == a1.num.num) && (a0.num.den == a1.num.den))) :: .bool (!((a0.num.num == a1.num.num) && (a0.num.den == a1.num.den))) :: .ptr (lv + 1) i2 3 :: .bool a0.truth :: .ptr (lv + 1) i4 3 :: .bool a1.truth :: .bool (!(a0.truth == a1.truth)) :: .bool (!(a0.truth == a1.truth)) :: .bool (!(a0.truth == a1.truth)) :: .ptr (lv + 1) i2 4 :: .str a0.str :: .ptr (lv + 1) i4 4 :: .str a1.str :: .bool (!(a0.str == a1.str)) :: .bool (!(a0.str == a1.str)) :: .bool (!(a0.str == a1.str)) :: .ptr (lv + 1) i2 5 :: .sl 6 (a0.list.map GValue.el) false :: .int .i64 (a0.list.length : Int) :: .ptr (lv + 1) i4 5 :: .sl 6 (a1.list.map GValue.el) false :: .int .i64 (a1.list.length : Int) :: .bool (!((a0.list.length : Int) == (a1.list.length : Int))) :: .bool (!((a0.list.length : Int) == (a1.list.length : Int))) :: an 19 []), ⟨lv + 1, L, E⟩, [], E⟩ [] (by simp -implicitDefEqProofs [GValue.cs, g0, g1, hg7, hg9, hg11, hg13]) claims_nil ?_
            refine satO_nil ?_
            refine ⟨⟨an 2 (.ptr (lv + 1) i2 0 :: .ptr (lv + 1) i4 0 :: an 36 (.bool (!((a0.list.length : Int) == (a1.list.length : Int))) :: an 19 [])), ⟨lv + 1, L, E⟩, [], E⟩, weak_tmps ?_, n, by omega, (!((a0.list.length : Int) == (a1.list.length : Int))), L, hA, h, rfl⟩
            (try simp only [an]); repeat (first | exact VLeL.nil | refine VLeL.cons (by first | exact VLe.refl _ | exact VLe.any _ | exact VLe.nil _ _ | (refine VLe.agg' ?_; repeat (first | exact VLeL.nil | refine VLeL.cons (by first | exact VLe.refl _ | exact VLe.any _ | exact VLe.nil _ _) ?_))) ?_)
  · rintro σ0 σ hw ⟨k, hk, x5, L, hA, h, rfl⟩
    rcases k with _ | n
    · simp [go_ref03_Same_J1] at h
    · rw [go_ref03_Same_J1] at h
      refine sat_weak hw ?_
      repeat refine sat_seq ?_
      refine sat_cond rfl (fun hb => ?_) (fun hb => ?_)
      · have h := ite_t hb h
        repeat refine sat_seq ?_
        refine satO_reg ?_
        have g0 := hA.get (k := 0) rfl
        have g1 := hA.get (k := 1) rfl
        refine satO_step 1 [] ⟨an 2 (.ptr (lv + 1) i2 0 :: .ptr (lv + 1) i4 0 :: .bool false :: an 35 (.bool x5 :: an 19 [])), ⟨lv + 1, L, E⟩, [], E⟩ [] (by simp -implicitDefEqProofs [GValue.cs, g0, g1]) claims_nil ?_
        refine satO_nil ?_
        repeat refine sat_seq ?_
        refine sat_ret ?_
        have g0 := hA.get (k := 0) rfl
        have g1 := hA.get (k := 1) rfl
        refine ends (v := .bool false) (by simp [resultsV, resL, resV, tupOf, Try.f32, pLoad, g0, g1, GValue.cs]) rfl rfl ?_
        injection h with h
        subst h
        exact (.keep _ (by simp [V.kin, V.kinL, GValue.cs]))
      · have h := ite_f hb h
        repeat refine sat_seq ?_
        refine sat_skip ?_
        repeat refine sat_seq ?_
        refine satO_reg ?_
        have g0 := hA.get (k := 0) rfl
        have g1 := hA.get (k := 1) rfl
        refine satO_step 1 [] ⟨an 2 (.ptr (lv + 1) i2 0 :: .ptr (lv + 1) i4 0 :: an 1 (.int .i64 0 :: an 34 (.bool x5 :: an 19 []))), ⟨lv + 1, L, E⟩, [], E⟩ [] (by simp -implicitDefEqProofs [GValue.cs, g0, g1]) claims_nil ?_
        refine satO_nil ?_
        repeat refine sat_seq ?_
        refine sat_block ?_
        repeat refine sat_seq ?_
        refine sat_loop (fun k σ => ∃ (x14 : Int) (L : List (Option AObj)), k ≤ n ∧ AccG (lv + 1) L [] [(i2, .cells a0.cs), (i4, .cells a1.cs)] ∧ go_ref03_Same_L1 k a0 a1 x14 = some r ∧ σ = ⟨an 2 (.ptr (lv + 1) i2 0 :: .ptr (lv + 1) i4 0 :: an 1 (.int .i64 x14 :: an 54 [])), ⟨lv + 1, L, E⟩, [], E⟩) n ⟨an 2 (.ptr (lv + 1) i2 0 :: .ptr (lv + 1) i4 0 :: an 1 (.int .i64 0 :: an 54 [])), ⟨lv + 1, L, E⟩, [], E⟩ (weak_tmps ?_) ⟨0, L, Nat.le_refl _, hA, h, rfl⟩ ?_
        · (try simp only [an]); repeat (first | exact VLeL.nil | refine VLeL.cons (by first | exact VLe.refl _ | exact VLe.any _ | exact VLe.nil _ _ | (refine VLe.agg' ?_; repeat (first | exact VLeL.nil | refine VLeL.cons (by first | exact VLe.refl _ | exact VLe.any _ | exact VLe.nil _ _) ?_))) ?_)
        · rintro k σ ⟨x14, L, hk, hA, h, rfl⟩
          rcases k with _ | n
          · simp [go_ref03_Same_L1] at h
          · rw [go_ref03_Same_L1] at h
            repeat refine sat_seq ?_
            refine satO_reg ?_
            have g0 := hA.get (k := 0) rfl
            have g1 := hA.get (k := 1) rfl
            refine satO_step 5 [] ⟨an 2 (.ptr (lv + 1) i2 0 :: .ptr (lv + 1) i4 0 :: an 1 (.int .i64 x14 :: an 35 (.int .i64 x14 :: .ptr (lv + 1) i2 5 :: .sl 6 (a0.list.map GValue.el) false :: .int .i64 (a0.list.length : Int) :: .bool (decide (x14 < (a0.list.length : Int))) :: an 14 []))), ⟨lv + 1, L, E⟩, [], E⟩ [] (by simp -implicitDefEqProofs [GValue.cs, g0, g1]) claims_nil ?_
            refine satO_nil ?_
            repeat refine sat_seq ?_
            refine sat_cond rfl (fun hb => ?_) (fun hb => ?_)
            · have h := ite_t hb h
              repeat refine sat_seq ?_
              refine sat_skip ?_
              repeat refine sat_seq ?_
              refine sat_block ?_
              repeat refine sat_seq ?_
              obtain ⟨x15, q16, h⟩ := bnd_hi h
              obtain ⟨q16, q17⟩ := ix_some q16
              obtain ⟨x18, q19, h⟩ := bnd_hi h
              obtain ⟨q19, q20⟩ := ix_some q19
              obtain ⟨y21, q22, h⟩ := bnd_hi h
              have g0 := hA.get (k := 0) rfl
              have g1 := hA.get (k := 1) rfl
              refine satO_drw (by kernel_rfl) (by kernel_rfl) [.bool y21] ⟨an 2 (.ptr (lv + 1) i2 0 :: .ptr (lv + 1) i4 0 :: an 1 (.int .i64 x14 :: an 35 (.int .i64 x14 :: .ptr (lv + 1) i2 5 :: .sl 6 (a0.list.map GValue.el) false :: .int .i64 (a0.list.length : Int) :: .bool (decide (x14 < (a0.list.length : Int))) :: an 2 (.ptr (lv + 1) i2 5 :: .sl 6 (a0.list.map GValue.el) false :: .int .i64 x14 :: .ref x15.cs 0 :: .agg x15.cs :: .ptr (lv + 1) i4 5 :: .sl 6 (a1.list.map GValue.el) false :: .int .i64 x14 :: .ref x18.cs 0 :: .agg x18.cs :: .bool y21 :: .bool (!y21) :: [])))), ⟨lv + 1, L, E⟩, [], E⟩ [⟨32, [.agg x15.cs, .agg x18.cs], ⟨lv + 1, L, E⟩, .bool y21, ⟨lv + 1, L, E⟩⟩] (by simp -implicitDefEqProofs [GValue.cs, g0, g1, q16, q17, GValue.el_cs, q19, q20, GValue.el_cs]) (claims_cons (ih _ (by omega) _ _ _ q22 _) claims_nil) ?_
              repeat refine sat_seq ?_
              refine sat_cond rfl (fun hb => ?_) (fun hb => ?_)
              · have h := ite_t hb h
                repeat refine sat_seq ?_
                refine satO_reg ?_
                have g0 := hA.get (k := 0) rfl
                have g1 := hA.get (k := 1) rfl
                refine satO_step 1 [] ⟨an 2 (.ptr (lv + 1) i2 0 :: .ptr (lv + 1) i4 0 :: .bool false :: .int .i64 x14 :: an 35 (.int .i64 x14 :: .ptr (lv + 1) i2 5 :: .sl 6 (a0.list.map GValue.el) false :: .int .i64 (a0.list.length : Int) :: .bool (decide (x14 < (a0.list.length : Int))) :: an 2 (.ptr (lv + 1) i2 5 :: .sl 6 (a0.list.map GValue.el) false :: .int .i64 x14 :: .ref x15.cs 0 :: .agg x15.cs :: .ptr (lv + 1) i4 5 :: .sl 6 (a1.list.map GValue.el) false :: .int .i64 x14 :: .ref x18.cs 0 :: .agg x18.cs :: .bool y21 :: .bool (!y21) :: []))), ⟨lv + 1, L, E⟩, [], E⟩ [] (by simp -implicitDefEqProofs [GValue.cs, g0, g1]) claims_nil ?_
                refine satO_nil ?_
                repeat refine sat_seq ?_
                refine sat_ret ?_
                have g0 := hA.get (k := 0) rfl
                have g1 := hA.get (k := 1) rfl
                refine ends (v := .bool false) (by simp [resultsV, resL, resV, tupOf, Try.f32, pLoad, g0, g1, GValue.cs]) rfl rfl ?_
                injection h with h
                subst h
                exact (.keep _ (by simp [V.kin, V.kinL, GValue.cs]))
              · have h := ite_f hb h
                repeat refine sat_seq ?_
                refine sat_skip ?_
                repeat refine sat_seq ?_
                refine satO_reg ?_
                have g0 := hA.get (k := 0) rfl
                have g1 := hA.get (k := 1) rfl
                refine satO_step 3 [] ⟨an 2 (.ptr (lv + 1) i2 0 :: .ptr (lv + 1) i4 0 :: an 1 (.int .i64 (IntKind.i64.wrap (x14 + 1)) :: an 35 (.int .i64 x14 :: .ptr (lv + 1) i2 5 :: .sl 6 (a0.list.map GValue.el) false :: .int .i64 (a0.list.length : Int) :: .bool (decide (x14 < (a0.list.length : Int))) :: .int .i64 x14 :: .int .i64 (IntKind.i64.wrap (x14 + 1)) :: .ptr (lv + 1) i2 5 :: .sl 6 (a0.list.map GValue.el) false :: .int .i64 x14 :: .ref x15.cs 0 :: .agg x15.cs :: .ptr (lv + 1) i4 5 :: .sl 6 (a1.list.map GValue.el) false :: .int .i64 x14 :: .ref x18.cs 0 :: .agg x18.cs :: .bool y21 :: .bool (!y21) :: []))), ⟨lv + 1, L, E⟩, [], E⟩ [] (by simp -implicitDefEqProofs [GValue.cs, g0, g1]) claims_nil ?_
                refine satO_nil ?_
                refine ⟨n, ⟨an 2 (.ptr (lv + 1) i2 0 :: .ptr (lv + 1) i4 0 :: an 1 (.int .i64 (IntKind.i64.wrap (x14 + 1)) :: an 54 [])), ⟨lv + 1, L, E⟩, [], E⟩, weak_tmps ?_, ⟨(IntKind.i64.wrap (x14 + 1)), L, by omega, hA, h, rfl⟩, by omega⟩
                (try simp only [an]); repeat (first | exact VLeL.nil | refine VLeL.cons (by first | exact VLe.refl _ | exact VLe.any _ | exact VLe.nil _ _ | (refine VLe.agg' ?_; repeat (first | exact VLeL.nil | refine VLeL.cons (by first | exact VLe.refl _ | exact VLe.any _ | exact VLe.nil _ _) ?_))) ?_)
            · have h := ite_f hb h
              repeat refine sat_seq ?_
              refine sat_exit ?_
              repeat refine sat_seq ?_
              refine satO_reg ?_
              have g0 := hA.get (k := 0) rfl
              have g1 := hA.get (k := 1) rfl
              refine satO_step 1 [] ⟨an 2 (.ptr (lv + 1) i2 0 :: .ptr (lv + 1) i4 0 :: .bool true :: .int .i64 x14 :: an 35 (.int .i64 x14 :: .ptr (lv + 1) i2 5 :: .sl 6 (a0.list.map GValue.el) false :: .int .i64 (a0.list.length : Int) :: .bool (decide (x14 < (a0.list.length : Int))) :: an 14 [])), ⟨lv + 1, L, E⟩, [], E⟩ [] (by simp -implicitDefEqProofs [GValue.cs, g0, g1]) claims_nil ?_
              refine satO_nil ?_
              repeat refine sat_seq ?_
              refine sat_ret ?_
              have g0 := hA.get (k := 0) rfl
              have g1 := hA.get (k := 1) rfl
              refine ends (v := .bool true) (by simp [resultsV, resL, resV, tupOf, Try.f32, pLoad, g0, g1, GValue.cs]) rfl rfl ?_
              injection h with h
              subst h
              exact (.keep _ (by simp [V.kin, V.kinL, GValue.cs]))
end Go.Proofs

namespace Go.Proofs
open Go Go.Ab
set_option maxRecDepth 10000
set_option maxHeartbeats 1000000
set_option linter.unusedSimpArgs false
set_option linter.unusedVariables false
theorem go_ref27_Same_ok (n : Nat) (a0 : GNode) (a1 : GNode) (r : Bool) (h : go_ref27_Same n a0 a1 = some r) : PCall Try.prog 13 [.agg a0.cs, .agg a1.cs] (.bool r) := by
  rcases n with _ | n
  · simp [go_ref27_Same] at h
  rw [go_ref27_Same] at h
  refine pcall_of Try.func13 rfl Try.ntmps13 (fun _ _ => Try.call13 _ _) fun lv E => ?_
  simp only [List.length_cons, List.length_nil, Nat.reduceAdd, Nat.reduceSub, List.replicate, List.cons_append, List.nil_append]
  have hA := AccG.nil (lv + 1)
  generalize ([] : List (Option AObj)) = L at hA ⊢
  repeat refine sat_seq ?_
  refine satO_reg ?_
  refine satO_step 1 [] ⟨.agg a0.cs :: .agg a1.cs :: .ptr (lv + 1) L.length 0 :: an 71 [], ⟨lv + 1, (L ++ [some (.cells a0.cs)]), E⟩, [], E⟩ [] (by simp -implicitDefEqProofs [GNode.cs]) claims_nil ?_
  have hA : AccG (lv + 1) (L ++ [some (.cells a0.cs)]) [] [(L.length, .cells a0.cs)] := hA.obj _
  generalize L.length = i2 at hA ⊢
  generalize (L ++ [some (.cells a0.cs)]) = L at hA ⊢
  refine satO_step 1 [] ⟨.agg a0.cs :: .agg a1.cs :: .ptr (lv + 1) i2 0 :: .ptr (lv + 1) L.length 0 :: an 70 [], ⟨lv + 1, (L ++ [some (.cells a1.cs)]), E⟩, [], E⟩ [] (by simp -implicitDefEqProofs [GNode.cs]) claims_nil ?_
  have hA : AccG (lv + 1) (L ++ [some (.cells a1.cs)]) [] [(i2, .cells a0.cs), (L.length, .cells a1.cs)] := hA.obj _
  generalize L.length = i4 at hA ⊢
  generalize (L ++ [some (.cells a1.cs)]) = L at hA ⊢
  have g0 := hA.get (k := 0) rfl
  have g1 := hA.get (k := 1) rfl
  refine satO_step 1 [] ⟨.agg a0.cs :: .agg a1.cs :: .ptr (lv + 1) i2 0 :: .ptr (lv + 1) i4 0 :: .bool false :: an 69 [], ⟨lv + 1, L, E⟩, [], E⟩ [] (by simp -implicitDefEqProofs [GNode.cs, g0, g1]) claims_nil ?_
  refine satO_nil ?_
  repeat refine sat_seq ?_
  refine sat_meet (fun σ => ∃ (k : Nat), k ≤ n ∧ ∃ (x5 : Bool) (L : List (Option AObj)), AccG (lv + 1) L [] [(i2, .cells a0.cs), (i4, .cells a1.cs)] ∧ go_ref27_Same_J1 k a0 a1 x5 = some r ∧ σ = ⟨an 2 (.ptr (lv + 1) i2 0 :: .ptr (lv + 1) i4 0 :: an 50 (.bool x5 :: an 19 [])), ⟨lv + 1, L, E⟩, [], E⟩) ?_ ?_
  · refine satO_reg ?_
    rcases Bool.eq_false_or_eq_true (!(a0.path == a1.path)) with hg6 | hg7
    · have h := ite_t hg6 h
      have g0 := hA.get (k := 0) rfl
      have g1 := hA.get (k := 1) rfl
      refine satO_step 49 [] ⟨.agg a0.cs :: .agg a1.cs :: .ptr (lv + 1) i2 0 :: .ptr (lv + 1) i4 0 :: .bool false :: an 1 (.ptr (lv + 1) i2 0 :: .str a0.path :: .ptr (lv + 1) i4 0 :: .str a1.path :: .bool (!(a0.path == a1.path)) :: .bool (!(a0.path == a1.path)) :: .tup [] :: .tup [] :: .tup [] :: .tup [] :: .tup [] :: .bool true :: .bool true :: .tup [] :: .tup [] :: .tup [] :: .tup [] :: .tup [] :: .bool true :: .bool true :: .tup [] :: .tup [] :: .tup [] :: .tup [] :: .tup [] :: .bool true :: .bool true :: .tup [] :: .tup [] :: .tup [] :: .tup [] :: .tup [] :: .bool true :: .bool true :: .tup [] :: .tup [] :: .tup [] :: .tup [] :: .tup [] :: .bool true :: .bool true :: .tup [] :: .tup [] :: .tup [] :: .tup [] :: .tup [] :: .tup [] :: .tup [] :: .bool true :: an 19 []), ⟨lv + 1, L, E⟩, [], E⟩ [] (by simp -implicitDefEqProofs [GNode.cs, g0, g1, hg6]) claims_nil ?_
      refine satO_nil ?_
      refine ⟨⟨an 2 (.ptr (lv + 1) i2 0 :: .ptr (lv + 1) i4 0 :: an 50 (.bool true :: an 19 [])), ⟨lv + 1, L, E⟩, [], E⟩, weak_tmps ?_, n, by omega, true, L, hA, h, rfl⟩
      (try simp only [an]); repeat (first | exact VLeL.nil | refine VLeL.cons (by first | exact VLe.refl _ | exact VLe.any _ | exact VLe.nil _ _ | (refine VLe.agg' ?_; repeat (first | exact VLeL.nil | refine VLeL.cons (by first | exact VLe.refl _ | exact VLe.any _ | exact VLe.nil _ _) ?_))) ?_)
    · have h := ite_f hg7 h
      rcases Bool.eq_false_or_eq_true (!(a0.rule_ == a1.rule_)) with hg8 | hg9
      · have h := ite_t hg8 h
        have g0 := hA.get (k := 0) rfl
        have g1 := hA.get (k := 1) rfl
        refine satO_step 49 [] ⟨.agg a0.cs :: .agg a1.cs :: .ptr (lv + 1) i2 0 :: .ptr (lv + 1) i4 0 :: .bool false :: an 1 (.ptr (lv + 1) i2 0 :: .str a0.path :: .ptr (lv + 1) i4 0 :: .str a1.path :: .bool (!(a0.path == a1.path)) :: .bool (!(a0.path == a1.path)) :: .ptr (lv + 1) i2 1 :: .str a0.rule_ :: .ptr (lv + 1) i4 1 :: .str a1.rule_ :: .bool (!(a0.rule_ == a1.rule_)) :: .bool (!(a0.rule_ == a1.rule_)) :: .bool (!(a0.rule_ == a1.rule_)) :: .tup [] :: .tup [] :: .tup [] :: .tup [] :: .tup [] :: .bool true :: .bool true :: .tup [] :: .tup [] :: .tup [] :: .tup [] :: .tup [] :: .bool true :: .bool true :: .tup [] :: .tup [] :: .tup [] :: .tup [] :: .tup [] :: .bool true :: .bool true :: .tup [] :: .tup [] :: .tup [] :: .tup [] :: .tup [] :: .bool true :: .bool true :: .tup [] :: .tup [] :: .tup [] :: .tup [] :: .tup [] :: .tup [] :: .tup [] :: .bool true :: an 19 []), ⟨lv + 1, L, E⟩, [], E⟩ [] (by simp -implicitDefEqProofs [GNode.cs, g0, g1, hg7, hg8]) claims_nil ?_
        refine satO_nil ?_
        refine ⟨⟨an 2 (.ptr (lv + 1) i2 0 :: .ptr (lv + 1) i4 0 :: an 50 (.bool true :: an 19 [])), ⟨lv + 1, L, E⟩, [], E⟩, weak_tmps ?_, n, by omega, true, L, hA, h, rfl⟩
        (try simp only [an]); repeat (first | exact VLeL.nil | refine VLeL.cons (by first | exact VLe.refl _ | exact VLe.any _ | exact VLe.nil _ _ | (refine VLe.agg' ?_; repeat (first | exact VLeL.nil | refine VLeL.cons (by first | exact VLe.refl _ | exact VLe.any _ | exact VLe.nil _ _) ?_))) ?_)
      · have h := ite_f hg9 h
        rcases Bool.eq_false_or_eq_true (!((a0.scope.frame.turn == a1.scope.frame.turn) && ((a0.scope.frame.at_.x == a1.scope.frame.at_.x) && ((a0.scope.frame.at_.y == a1.scope.frame.at_.y) && ((a0.scope.frame.at_.z == a1.scope.frame.at_.z) && ((a0.scope.size_.x == a1.scope.size_.x) && ((a0.scope.size_.y == a1.scope.size_.y) && (a0.scope.size_.z == a1.scope.size_.z)))))))) with hg10 | hg11
        · have h := ite_t hg10 h
          have g0 := hA.get (k := 0) rfl
          have g1 := hA.get (k := 1) rfl
          refine satO_step 49 [] ⟨.agg a0.cs :: .agg a1.cs :: .ptr (lv + 1) i2 0 :: .ptr (lv + 1) i4 0 :: .bool false :: an 1 (.ptr (lv + 1) i2 0 :: .str a0.path :: .ptr (lv + 1) i4 0 :: .str a1.path :: .bool (!(a0.path == a1.path)) :: .bool (!(a0.path == a1.path)) :: .ptr (lv + 1) i2 1 :: .str a0.rule_ :: .ptr (lv + 1) i4 1 :: .str a1.rule_ :: .bool (!(a0.rule_ == a1.rule_)) :: .bool (!(a0.rule_ == a1.rule_)) :: .bool (!(a0.rule_ == a1.rule_)) :: .ptr (lv + 1) i2 3 :: .agg [.int .u8 a0.scope.frame.turn, .int .i64 a0.scope.frame.at_.x, .int .i64 a0.scope.frame.at_.y, .int .i64 a0.scope.frame.at_.z, .int .i64 a0.scope.size_.x, .int .i64 a0.scope.size_.y, .int .i64 a0.scope.size_.z] :: .ptr (lv + 1) i4 3 :: .agg [.int .u8 a1.scope.frame.turn, .int .i64 a1.scope.frame.at_.x, .int .i64 a1.scope.frame.at_.y, .int .i64 a1.scope.frame.at_.z, .int .i64 a1.scope.size_.x, .int .i64 a1.scope.size_.y, .int .i64 a1.scope.size_.z] :: .bool (!((a0.scope.frame.turn == a1.scope.frame.turn) && ((a0.scope.frame.at_.x == a1.scope.frame.at_.x) && ((a0.scope.frame.at_.y == a1.scope.frame.at_.y) && ((a0.scope.frame.at_.z == a1.scope.frame.at_.z) && ((a0.scope.size_.x == a1.scope.size_.x) && ((a0.scope.size_.y == a1.scope.size_.y) && (a0.scope.size_.z == a1.scope.size_.z)))))))) :: .bool (!((a0.scope.frame.turn == a1.scope.frame.turn) && ((a0.scope.frame.at_.x == a1.scope.frame.at_.x) && ((a0.scope.frame.at_.y == a1.scope.frame.at_.y) && ((a0.scope.frame.at_.z == a1.scope.frame.at_.z) && ((a0.scope.size_.x == a1.scope.size_.x) && ((a0.scope.size_.y == a1.scope.size_.y) && (a0.scope.size_.z == a1.scope.size_.z)))))))) :: .bool (!((a0.scope.frame.turn == a1.scope.frame.turn) && ((a0.scope.frame.at_.x == a1.scope.frame.at_.x) && ((a0.scope.frame.at_.y == a1.scope.frame.at_.y) && ((a0.scope.frame.at_.z == a1.scope.frame.at_.z) && ((a0.scope.size_.x == a1.scope.size_.x) && ((a0.scope.size_.y == a1.scope.size_.y) && (a0.scope.size_.z == a1.scope.size_.z)))))))) :: .tup [] :: .tup [] :: .tup [] :: .tup [] :: .tup [] :: .bool true :: .bool true :: .tup [] :: .tup [] :: .tup [] :: .tup [] :: .tup [] :: .bool true :: .bool true :: .tup [] :: .tup [] :: .tup [] :: .tup [] :: .tup [] :: .bool true :: .bool true :: .tup [] :: .tup [] :: .tup [] :: .tup [] :: .tup [] :: .tup [] :: .tup [] :: .bool true :: an 19 []), ⟨lv + 1, L, E⟩, [], E⟩ [] (by simp -implicitDefEqProofs [GNode.cs, g0, g1, hg7, hg9, hg10]) claims_nil ?_
          refine satO_nil ?_
          refine ⟨⟨an 2 (.ptr (lv + 1) i2 0 :: .ptr (lv + 1) i4 0 :: an 50 (.bool true :: an 19 [])), ⟨lv + 1, L, E⟩, [], E⟩, weak_tmps ?_, n, by omega, true, L, hA, h, rfl⟩
          (try simp only [an]); repeat (first | exact VLeL.nil | refine VLeL.cons (by first | exact VLe.refl _ | exact VLe.any _ | exact VLe.nil _ _ | (refine VLe.agg' ?_; repeat (first | exact VLeL.nil | refine VLeL.cons (by first | exact VLe.refl _ | exact VLe.any _ | exact VLe.nil _ _) ?_))) ?_)
        · have h := ite_f hg11 h
          rcases Bool.eq_false_or_eq_true (!(a0.leaf == a1.leaf)) with hg12 | hg13
          · have h := ite_t hg12 h
            have g0 := hA.get (k := 0) rfl
            have g1 := hA.get (k := 1) rfl
            refine satO_step 49 [] ⟨.agg a0.cs :: .agg a1.cs :: .ptr (lv + 1) i2 0 :: .ptr (lv + 1) i4 0 :: .bool false :: an 1 (.ptr (lv + 1) i2 0 :: .str a0.path :: .ptr (lv + 1) i4 0 :: .str a1.path :: .bool (!(a0.path == a1.path)) :: .bool (!(a0.path == a1.path)) :: .ptr (lv + 1) i2 1 :: .str a0.rule_ :: .ptr (lv + 1) i4 1 :: .str a1.rule_ :: .bool (!(a0.rule_ == a1.rule_)) :: .bool (!(a0.rule_ == a1.rule_)) :: .bool (!(a0.rule_ == a1.rule_)) :: .ptr (lv + 1) i2 3 :: .agg [.int .u8 a0.scope.frame.turn, .int .i64 a0.scope.frame.at_.x, .int .i64 a0.scope.frame.at_.y, .int .i64 a0.scope.frame.at_.z, .int .i64 a0.scope.size_.x, .int .i64 a0.scope.size_.y, .int .i64 a0.scope.size_.z] :: .ptr (lv + 1) i4 3 :: .agg [.int .u8 a1.scope.frame.turn, .int .i64 a1.scope.frame.at_.x, .int .i64 a1.scope.frame.at_.y, .int .i64 a1.scope.frame.at_.z, .int .i64 a1.scope.size_.x, .int .i64 a1.scope.size_.y, .int .i64 a1.scope.size_.z] :: .bool (!((a0.scope.frame.turn == a1.scope.frame.turn) && ((a0.scope.frame.at_.x == a1.scope.frame.at_.x) && ((a0.scope.frame.at_.y == a1.scope.frame.at_.y) && ((a0.scope.frame.at_.z == a1.scope.frame.at_.z) && ((a0.scope.size_.x == a1.scope.size_.x) && ((a0.scope.size_.y == a1.scope.size_.y) && (a0.scope.size_.z == a1.scope.size_.z)))))))) :: .bool (!((a0.scope.frame.turn == a1.scope.frame.turn) && ((a0.scope.frame.at_.x == a1.scope.frame.at_.x) && ((a0.scope.frame.at_.y == a1.scope.frame.at_.y) && ((a0.scope.frame.at_.z == a1.scope.frame.at_.z) && ((a0.scope.size_.x == a1.scope.size_.x) && ((a0.scope.size_.y == a1.scope.size_.y) && (a0.scope.size_.z == a1.scope.size_.z)))))))) :: .bool (!((a0.scope.frame.turn == a1.scope.frame.turn) && ((a0.scope.frame.at_.x == a1.scope.frame.at_.x) && ((a0.scope.frame.at_.y == a1.scope.frame.at_.y) && ((a0.scope.frame.at_.z == a1.scope.frame.at_.z) && ((a0.scope.size_.x == a1.scope.size_.x) && ((a0.scope.size_.y == a1.scope.size_.y) && (a0.scope.size_.z == a1.scope.size_.z)))))))) :: .ptr (lv + 1) i2 10 :: .str a0.leaf :: .ptr (lv + 1) i4 10 :: .str a1.leaf :: .bool (!(a0.leaf == a1.leaf)) :: .bool (!(a0.leaf == a1.leaf)) :: .bool (!(a0.leaf == a1.leaf)) :: .tup [] :: .tup [] :: .tup [] :: .tup [] :: .tup [] :: .bool true :: .bool true :: .tup [] :: .tup [] :: .tup [] :: .tup [] :: .tup [] :: .bool true :: .bool true :: .tup [] :: .tup [] :: .tup [] :: .tup [] :: .tup [] :: .tup [] :: .tup [] :: .bool true :: an 19 []), ⟨lv + 1, L, E⟩, [], E⟩ [] (by simp -implicitDefEqProofs [GNode.cs, g0, g1, hg7, hg9, hg11, hg12]) claims_nil ?_
            refine satO_nil ?_
            refine ⟨⟨an 2 (.ptr (lv + 1) i2 0 :: .ptr (lv + 1) i4 0 :: an 50 (.bool true :: an 19 [])), ⟨lv + 1, L, E⟩, [], E⟩, weak_tmps ?_, n, by omega, true, L, hA, h, rfl⟩
            (try simp only [an]); repeat (first | exact VLeL.nil | refine VLeL.cons (by first | exact VLe.refl _ | exact VLe.any _ | exact VLe.nil _ _ | (refine VLe.agg' ?_; repeat (first | exact VLeL.nil | refine VLeL.cons (by first | exact VLe.refl _ | exact VLe.any _ | exact VLe.nil _ _) ?_))) ?_)
          · have h := ite_f hg13 h
            rcases Bool.eq_false_or_eq_true (!(a0.fault == a1.fault)) with hg14 | hg15
            · have h := ite_t hg14 h
              have g0 := hA.get (k := 0) rfl
              have g1 := hA.get (k := 1) rfl
              refine satO_step 49 [] ⟨.agg a0.cs :: .agg a1.cs :: .ptr (lv + 1) i2 0 :: .ptr (lv + 1) i4 0 :: .bool false :: an 1 (.ptr (lv + 1) i2 0 :: .str a0.path :: .ptr (lv + 1) i4 0 :: .str a1.path :: .bool (!(a0.path == a1.path)) :: .bool (!(a0.path == a1.path)) :: .ptr (lv + 1) i2 1 :: .str a0.rule_ :: .ptr (lv + 1) i4 1 :: .str a1.rule_ :: .bool (!(a0.rule_ == a1.rule_)) :: .bool (!(a0.rule_ == a1.rule_)) :: .bool (!(a0.rule_ == a1.rule_)) :: .ptr (lv + 1) i2 3 :: .agg [.int .u8 a0.scope.frame.turn, .int .i64 a0.scope.frame.at_.x, .int .i64 a0.scope.frame.at_.y, .int .i64 a0.scope.frame.at_.z, .int .i64 a0.scope.size_.x, .int .i64 a0.scope.size_.y, .int .i64 a0.scope.size_.z] :: .ptr (lv + 1) i4 3 :: .agg [.int .u8 a1.scope.frame.turn, .int .i64 a1.scope.frame.at_.x, .int .i64 a1.scope.frame.at_.y, .int .i64 a1.scope.frame.at_.z, .int .i64 a1.scope.size_.x, .int .i64 a1.scope.size_.y, .int .i64 a1.scope.size_.z] :: .bool (!((a0.scope.frame.turn == a1.scope.frame.turn) && ((a0.scope.frame.at_.x == a1.scope.frame.at_.x) && ((a0.scope.frame.at_.y == a1.scope.frame.at_.y) && ((a0.scope.frame.at_.z == a1.scope.frame.at_.z) && ((a0.scope.size_.x == a1.scope.size_.x) && ((a0.scope.size_.y == a1.scope.size_.y) && (a0.scope.size_.z == a1.scope.size_.z)))))))) :: .bool (!((a0.scope.frame.turn == a1.scope.frame.turn) && ((a0.scope.frame.at_.x == a1.scope.frame.at_.x) && ((a0.scope.frame.at_.y == a1.scope.frame.at_.y) && ((a0.scope.frame.at_.z == a1.scope.frame.at_.z) && ((a0.scope.size_.x == a1.scope.size_.x) && ((a0.scope.size_.y == a1.scope.size_.y) && (a0.scope.size_.z == a1.scope.size_.z)))))))) :: .bool (!((a0.scope.frame.turn == a1.scope.frame.turn) && ((a0.scope.frame.at_.x == a1.scope.frame.at_.x) && ((a0.scope.frame.at_.y == a1.scope.frame.at_.y) && ((a0.scope.frame.at_.z == a1.scope.frame.at_.z) && ((a0.scope.size_.x == a1.scope.size_.x) && ((a0.scope.size_.y == a1.scope.size_.y) && (a0.scope.size_.z == a1.scope.size_.z)))))))) :: .ptr (lv + 1) i2 10 :: .str a0.leaf :: .ptr (lv + 1) i4 10 :: .str a1.leaf :: .bool (!(a0.leaf == a1.leaf)) :: .bool (!(a0.leaf == a1.leaf)) :: .bool (!(a0.leaf == a1.leaf)) :: .ptr (lv + 1) i2 11 :: .int .i64 a0.fault :: .ptr (lv + 1) i4 11 :: .int .i64 a1.fault :: .bool (!(a0.fault == a1.fault)) :: .bool (!(a0.fault == a1.fault)) :: .bool (!(a0.fault == a1.fault)) :: .tup [] :: .tup [] :: .tup [] :: .tup [] :: .tup [] :: .bool true :: .bool true :: .tup [] :: .tup [] :: .tup [] :: .tup [] :: .tup [] :: .tup [] :: .tup [] :: .bool true :: an 19 []), ⟨lv + 1, L, E⟩, [], E⟩ [] (by simp -implicitDefEqProofs [GNode.cs, g0, g1, hg7, hg9, hg11, hg13, hg14]) claims_nil ?_
              refine satO_nil ?_
              refine ⟨⟨an 2 (.ptr (lv + 1) i2 0 :: .ptr (lv + 1) i4 0 :: an 50 (.bool true :: an 19 [])), ⟨lv + 1, L, E⟩, [], E⟩, weak_tmps ?_, n, by omega, true, L, hA, h, rfl⟩
              (try simp only [an]); repeat (first | exact VLeL.nil | refine VLeL.cons (by first | exact VLe.refl _ | exact VLe.any _ | exact VLe.nil _ _ | (refine VLe.agg' ?_; repeat (first | exact VLeL.nil | refine VLeL.cons (by first | exact VLe.refl _ | exact VLe.any _ | exact VLe.nil _ _) ?_))) ?_)
            · have h := ite_f hg15 h
              rcases Bool.eq_false_or_eq_true (!(a0.open_ == a1.open_)) with hg16 | hg17
              · have h := ite_t hg16 h
                have g0 := hA.get (k := 0) rfl
                have g1 := hA.get (k := 1) rfl
                refine satO_step 49 [] ⟨.agg a0.cs :: .agg a1.cs :: .ptr (lv + 1) i2 0 :: .ptr (lv + 1) i4 0 :: .bool false :: an 1 (.ptr (lv + 1) i2 0 :: .str a0.path :: .ptr (lv + 1) i4 0 :: .str a1.path :: .bool (!(a0.path == a1.path)) :: .bool (!(a0.path == a1.path)) :: .ptr (lv + 1) i2 1 :: .str a0.rule_ :: .ptr (lv + 1) i4 1 :: .str a1.rule_ :: .bool (!(a0.rule_ == a1.rule_)) :: .bool (!(a0.rule_ == a1.rule_)) :: .bool (!(a0.rule_ == a1.rule_)) :: .ptr (lv + 1) i2 3 :: .agg [.int .u8 a0.scope.frame.turn, .int .i64 a0.scope.frame.at_.x, .int .i64 a0.scope.frame.at_.y, .int .i64 a0.scope.frame.at_.z, .int .i64 a0.scope.size_.x, .int .i64 a0.scope.size_.y, .int .i64 a0.scope.size_.z] :: .ptr (lv + 1) i4 3 :: .agg [.int .u8 a1.scope.frame.turn, .int .i64 a1.scope.frame.at_.x, .int .i64 a1.scope.frame.at_.y, .int .i64 a1.scope.frame.at_.z, .int .i64 a1.scope.size_.x, .int .i64 a1.scope.size_.y, .int .i64 a1.scope.size_.z] :: .bool (!((a0.scope.frame.turn == a1.scope.frame.turn) && ((a0.scope.frame.at_.x == a1.scope.frame.at_.x) && ((a0.scope.frame.at_.y == a1.scope.frame.at_.y) && ((a0.scope.frame.at_.z == a1.scope.frame.at_.z) && ((a0.scope.size_.x == a1.scope.size_.x) && ((a0.scope.size_.y == a1.scope.size_.y) && (a0.scope.size_.z == a1.scope.size_.z)))))))) :: .bool (!((a0.scope.frame.turn == a1.scope.frame.turn) && ((a0.scope.frame.at_.x == a1.scope.frame.at_.x) && ((a0.scope.frame.at_.y == a1.scope.frame.at_.y) && ((a0.scope.frame.at_.z == a1.scope.frame.at_.z) && ((a0.scope.size_.x == a1.scope.size_.x) && ((a0.scope.size_.y == a1.scope.size_.y) && (a0.scope.size_.z == a1.scope.size_.z)))))))) :: .bool (!((a0.scope.frame.turn == a1.scope.frame.turn) && ((a0.scope.frame.at_.x == a1.scope.frame.at_.x) && ((a0.scope.frame.at_.y == a1.scope.frame.at_.y) && ((a0.scope.frame.at_.z == a1.scope.frame.at_.z) && ((a0.scope.size_.x == a1.scope.size_.x) && ((a0.scope.size_.y == a1.scope.size_.y) && (a0.scope.size_.z == a1.scope.size_.z)))))))) :: .ptr (lv + 1) i2 10 :: .str a0.leaf :: .ptr (lv + 1) i4 10 :: .str a1.leaf :: .bool (!(a0.leaf == a1.leaf)) :: .bool (!(a0.leaf == a1.leaf)) :: .bool (!(a0.leaf == a1.leaf)) :: .ptr (lv + 1) i2 11 :: .int .i64 a0.fault :: .ptr (lv + 1) i4 11 :: .int .i64 a1.fault :: .bool (!(a0.fault == a1.fault)) :: .bool (!(a0.fault == a1.fault)) :: .bool (!(a0.fault == a1.fault)) :: .ptr (lv + 1) i2 12 :: .bool a0.open_ :: .ptr (lv + 1) i4 12 :: .bool a1.open_ :: .bool (!(a0.open_ == a1.open_)) :: .bool (!(a0.open_ == a1.open_)) :: .bool (!(a0.open_ == a1.open_)) :: .tup [] :: .tup [] :: .tup [] :: .tup [] :: .tup [] :: .tup [] :: .tup [] :: .bool true :: an 19 []), ⟨lv + 1, L, E⟩, [], E⟩ [] (by simp -implicitDefEqProofs [GNode.cs, g0, g1, hg7, hg9, hg11, hg13, hg15, hg16]) claims_nil ?_
                refine satO_nil ?_
                refine ⟨⟨an 2 (.ptr (lv + 1) i2 0 :: .ptr (lv + 1) i4 0 :: an 50 (.bool true :: an 19 [])), ⟨lv + 1, L, E⟩, [], E⟩, weak_tmps ?_, n, by omega, true, L, hA, h, rfl⟩
                (try simp only [an]); repeat (first | exact VLeL.nil | refine VLeL.cons (by first | exact VLe.refl _ | exact VLe.any _ | exact VLe.nil _ _ | (refine VLe.agg' ?_; repeat (first | exact VLeL.nil | refine VLeL.cons (by first | exact VLe.refl _ | exact VLe.any _ | exact VLe.nil _ _) ?_))) ?_)
              · have h := ite_f hg17 h
                have g0 := hA.get (k := 0) rfl
                have g1 := hA.get (k := 1) rfl
                refine satO_step 49 [] ⟨.agg a0.cs :: .agg a1.cs :: .ptr (lv + 1) i2 0 :: .ptr (lv + 1) i4 0 :: .bool false :: an 1 (.ptr (lv + 1) i2 0 :: .str a0.path :: .ptr (lv + 1) i4 0 :: .str a1.path :: .bool (!(a0.path == a1.path)) :: .bool (!(a0.path == a1.path)) :: .ptr (lv + 1) i2 1 :: .str a0.rule_ :: .ptr (lv + 1) i4 1 :: .str a1.rule_ :: .bool (!(a0.rule_ == a1.rule_)) :: .bool (!(a0.rule_ == a1.rule_)) :: .bool (!(a0.rule_ == a1.rule_)) :: .ptr (lv + 1) i2 3 :: .agg [.int .u8 a0.scope.frame.turn, .int .i64 a0.scope.frame.at_.x, .int .i64 a0.scope.frame.at_.y, .int .i64 a0.scope.frame.at_.z, .int .i64 a0.scope.size_.x, .int .i64 a0.scope.size_.y, .int .i64 a0.scope.size_.z] :: .ptr (lv + 1) i4 3 :: .agg [.int .u8 a1.scope.frame.turn, .int .i64 a1.scope.frame.at_.x, .int .i64 a1.scope.frame.at_.y, .int .i64 a1.scope.frame.at_.z, .int .i64 a1.scope.size_.x, .int .i64 a1.scope.size_.y, .int .i64 a1.scope.size_.z] :: .bool (!((a0.scope.frame.turn == a1.scope.frame.turn) && ((a0.scope.frame.at_.x == a1.scope.frame.at_.x) && ((a0.scope.frame.at_.y == a1.scope.frame.at_.y) && ((a0.scope.frame.at_.z == a1.scope.frame.at_.z) && ((a0.scope.size_.x == a1.scope.size_.x) && ((a0.scope.size_.y == a1.scope.size_.y) && (a0.scope.size_.z == a1.scope.size_.z)))))))) :: .bool (!((a0.scope.frame.turn == a1.scope.frame.turn) && ((a0.scope.frame.at_.x == a1.scope.frame.at_.x) && ((a0.scope.frame.at_.y == a1.scope.frame.at_.y) && ((a0.scope.frame.at_.z == a1.scope.frame.at_.z) && ((a0.scope.size_.x == a1.scope.size_.x) && ((a0.scope.size_.y == a1.scope.size_.y) && (a0.scope.size_.z == a1.scope.size_.z)))))))) :: .bool (!((a0.scope.frame.turn == a1.scope.frame.turn) && ((a0.scope.frame.at_.x == a1.scope.frame.at_.x) && ((a0.scope.frame.at_.y == a1.scope.frame.at_.y) && ((a0.scope.frame.at_.z == a1.scope.frame.at_.z) && ((a0.scope.size_.x == a1.scope.size_.x) && ((a0.scope.size_.y == a1.scope.size_.y) && (a0.scope.size_.z == a1.scope.size_.z)))))))) :: .ptr (lv + 1) i2 10 :: .str a0.leaf :: .ptr (lv + 1) i4 10 :: .str a1.leaf :: .bool (!(a0.leaf == a1.leaf)) :: .bool (!(a0.leaf == a1.leaf)) :: .bool (!(a0.leaf == a1.leaf)) :: .ptr (lv + 1) i2 11 :: .int .i64 a0.fault :: .ptr (lv + 1) i4 11 :: .int .i64 a1.fault :: .bool (!(a0.fault == a1.fault)) :: .bool (!(a0.fault == a1.fault)) :: .bool (!(a0.fault == a1.fault)) :: .ptr (lv + 1) i2 12 :: .bool a0.open_ :: .ptr (lv + 1) i4 12 :: .bool a1.open_ :: .bool (!(a0.open_ == a1.open_)) :: .bool (!(a0.open_ == a1.open_)) :: .bool (!(a0.open_ == a1.open_)) :: .ptr (lv + 1) i2 2 :: .sl 6 (a0.args.map GValue.el) false :: .int .i64 (a0.args.length : Int) :: .ptr (lv + 1) i4 2 :: .sl 6 (a1.args.map GValue.el) false :: .int .i64 (a1.args.length : Int) :: .bool (!((a0.args.length : Int) == (a1.args.length : Int))) :: .bool (!((a0.args.length : Int) == (a1.args.length : Int))) :: an 19 []), ⟨lv + 1, L, E⟩, [], E⟩ [] (by simp -implicitDefEqProofs [GNode.cs, g0, g1, hg7, hg9, hg11, hg13, hg15, hg17]) claims_nil ?_
                refine satO_nil ?_
                refine ⟨⟨an 2 (.ptr (lv + 1) i2 0 :: .ptr (lv + 1) i4 0 :: an 50 (.bool (!((a0.args.length : Int) == (a1.args.length : Int))) :: an 19 [])), ⟨lv + 1, L, E⟩, [], E⟩, weak_tmps ?_, n, by omega, (!((a0.args.length : Int) == (a1.args.length : Int))), L, hA, h, rfl⟩
                (try simp only [an]); repeat (first | exact VLeL.nil | refine VLeL.cons (by first | exact VLe.refl _ | exact VLe.any _ | exact VLe.nil _ _ | (refine VLe.agg' ?_; repeat (first | exact VLeL.nil | refine VLeL.cons (by first | exact VLe.refl _ | exact VLe.any _ | exact VLe.nil _ _) ?_))) ?_)
  · rintro σ0 σ hw ⟨k, hk, x5, L, hA, h, rfl⟩
    rcases k with _ | n
    · simp [go_ref27_Same_J1] at h
    · rw [go_ref27_Same_J1] at h
      refine sat_weak hw ?_
      repeat refine sat_seq ?_
      refine sat_cond rfl (fun hb => ?_) (fun hb => ?_)
      · have h := ite_t hb h
        repeat refine sat_seq ?_
        refine satO_reg ?_
        have g0 := hA.get (k := 0) rfl
        have g1 := hA.get (k := 1) rfl
        refine satO_step 1 [] ⟨an 2 (.ptr (lv + 1) i2 0 :: .ptr (lv + 1) i4 0 :: .bool false :: an 49 (.bool x5 :: an 19 [])), ⟨lv + 1, L, E⟩, [], E⟩ [] (by simp -implicitDefEqProofs [GNode.cs, g0, g1]) claims_nil ?_
        refine satO_nil ?_
        repeat refine sat_seq ?_
        refine sat_ret ?_
        have g0 := hA.get (k := 0) rfl
        have g1 := hA.get (k := 1) rfl
        refine ends (v := .bool false) (by simp [resultsV, resL, resV, tupOf, Try.f13, pLoad, g0, g1, GNode.cs]) rfl rfl ?_
        injection h with h
        subst h
        exact (.keep _ (by simp [V.kin, V.kinL, GNode.cs]))
      · have h := ite_f hb h
        repeat refine sat_seq ?_
        refine sat_skip ?_
        repeat refine sat_seq ?_
        refine satO_reg ?_
        have g0 := hA.get (k := 0) rfl
        have g1 := hA.get (k := 1) rfl
        refine satO_step 1 [] ⟨an 2 (.ptr (lv + 1) i2 0 :: .ptr (lv + 1) i4 0 :: an 1 (.int .i64 0 :: an 48 (.bool x5 :: an 19 []))), ⟨lv + 1, L, E⟩, [], E⟩ [] (by simp -implicitDefEqProofs [GNode.cs, g0, g1]) claims_nil ?_
        refine satO_nil ?_
        repeat refine sat_seq ?_
        refine sat_block ?_
        repeat refine sat_seq ?_
        refine sat_loop (fun k σ => ∃ (x18 : Int) (L : List (Option AObj)), k ≤ n ∧ AccG (lv + 1) L [] [(i2, .cells a0.cs), (i4, .cells a1.cs)] ∧ go_ref27_Same_L1 k a0 a1 x18 = some r ∧ σ = ⟨an 2 (.ptr (lv + 1) i2 0 :: .ptr (lv + 1) i4 0 :: an 1 (.int .i64 x18 :: an 68 [])), ⟨lv + 1, L, E⟩, [], E⟩) n ⟨an 2 (.ptr (lv + 1) i2 0 :: .ptr (lv + 1) i4 0 :: an 1 (.int .i64 0 :: an 68 [])), ⟨lv + 1, L, E⟩, [], E⟩ (weak_tmps ?_) ⟨0, L, Nat.le_refl _, hA, h, rfl⟩ ?_
        · (try simp only [an]); repeat (first | exact VLeL.nil | refine VLeL.cons (by first | exact VLe.refl _ | exact VLe.any _ | exact VLe.nil _ _ | (refine VLe.agg' ?_; repeat (first | exact VLeL.nil | refine VLeL.cons (by first | exact VLe.refl _ | exact VLe.any _ | exact VLe.nil _ _) ?_))) ?_)
        · rintro k σ ⟨x18, L, hk, hA, h, rfl⟩
          rcases k with _ | n
          · simp [go_ref27_Same_L1] at h
          · rw [go_ref27_Same_L1] at h
            repeat refine sat_seq ?_
            refine satO_reg ?_
            have g0 := hA.get (k := 0) rfl
            have g1 := hA.get (k := 1) rfl
            refine satO_step 5 [] ⟨an 2 (.ptr (lv + 1) i2 0 :: .ptr (lv + 1) i4 0 :: an 1 (.int .i64 x18 :: an 49 (.int .i64 x18 :: .ptr (lv + 1) i2 2 :: .sl 6 (a0.args.map GValue.el) false :: .int .i64 (a0.args.length : Int) :: .bool (decide (x18 < (a0.args.length : Int))) :: an 14 []))), ⟨lv + 1, L, E⟩, [], E⟩ [] (by simp -implicitDefEqProofs [GNode.cs, g0, g1]) claims_nil ?_
            refine satO_nil ?_
            repeat refine sat_seq ?_
            refine sat_cond rfl (fun hb => ?_) (fun hb => ?_)
            · have h := ite_t hb h
              repeat refine sat_seq ?_
              refine sat_skip ?_
              repeat refine sat_seq ?_
              refine sat_block ?_
              repeat refine sat_seq ?_
              obtain ⟨x19, q20, h⟩ := bnd_hi h
              obtain ⟨q20, q21⟩ := ix_some q20
              obtain ⟨x22, q23, h⟩ := bnd_hi h
              obtain ⟨q23, q24⟩ := ix_some q23
              obtain ⟨y25, q26, h⟩ := bnd_hi h
              have g0 := hA.get (k := 0) rfl
              have g1 := hA.get (k := 1) rfl
              refine satO_drw (by kernel_rfl) (by kernel_rfl) [.bool y25] ⟨an 2 (.ptr (lv + 1) i2 0 :: .ptr (lv + 1) i4 0 :: an 1 (.int .i64 x18 :: an 49 (.int .i64 x18 :: .ptr (lv + 1) i2 2 :: .sl 6 (a0.args.map GValue.el) false :: .int .i64 (a0.args.length : Int) :: .bool (decide (x18 < (a0.args.length : Int))) :: an 2 (.ptr (lv + 1) i2 2 :: .sl 6 (a0.args.map GValue.el) false :: .int .i64 x18 :: .ref x19.cs 0 :: .agg x19.cs :: .ptr (lv + 1) i4 2 :: .sl 6 (a1.args.map GValue.el) false :: .int .i64 x18 :: .ref x22.cs 0 :: .agg x22.cs :: .bool y25 :: .bool (!y25) :: [])))), ⟨lv + 1, L, E⟩, [], E⟩ [⟨32, [.agg x19.cs, .agg x22.cs], ⟨lv + 1, L, E⟩, .bool y25, ⟨lv + 1, L, E⟩⟩] (by simp -implicitDefEqProofs [GNode.cs, GValue.cs, g0, g1, q20, q21, GValue.el_cs, q23, q24, GValue.el_cs]) (claims_cons (go_ref03_Same_ok _ _ _ _ q26 _) claims_nil) ?_
              repeat refine sat_seq ?_
              refine sat_cond rfl (fun hb => ?_) (fun hb => ?_)
              · have h := ite_t hb h
                repeat refine sat_seq ?_
                refine satO_reg ?_
                have g0 := hA.get (k := 0) rfl
                have g1 := hA.get (k := 1) rfl
                refine satO_step 1 [] ⟨an 2 (.ptr (lv + 1) i2 0 :: .ptr (lv + 1) i4 0 :: .bool false :: .int .i64 x18 :: an 49 (.int .i64 x18 :: .ptr (lv + 1) i2 2 :: .sl 6 (a0.args.map GValue.el) false :: .int .i64 (a0.args.length : Int) :: .bool (decide (x18 < (a0.args.length : Int))) :: an 2 (.ptr (lv + 1) i2 2 :: .sl 6 (a0.args.map GValue.el) false :: .int .i64 x18 :: .ref x19.cs 0 :: .agg x19.cs :: .ptr (lv + 1) i4 2 :: .sl 6 (a1.args.map GValue.el) false :: .int .i64 x18 :: .ref x22.cs 0 :: .agg x22.cs :: .bool y25 :: .bool (!y25) :: []))), ⟨lv + 1, L, E⟩, [], E⟩ [] (by simp -implicitDefEqProofs [GNode.cs, GValue.cs, g0, g1]) claims_nil ?_
                refine satO_nil ?_
                repeat refine sat_seq ?_
                refine sat_ret ?_
                have g0 := hA.get (k := 0) rfl
                have g1 := hA.get (k := 1) rfl
                refine ends (v := .bool false) (by simp [resultsV, resL, resV, tupOf, Try.f13, pLoad, g0, g1, GNode.cs, GValue.cs]) rfl rfl ?_
                injection h with h
                subst h
                exact (.keep _ (by simp [V.kin, V.kinL, GNode.cs, GValue.cs]))
              · have h := ite_f hb h
                repeat refine sat_seq ?_
                refine sat_skip ?_
                repeat refine sat_seq ?_
                refine satO_reg ?_
                have g0 := hA.get (k := 0) rfl
                have g1 := hA.get (k := 1) rfl
                refine satO_step 3 [] ⟨an 2 (.ptr (lv + 1) i2 0 :: .ptr (lv + 1) i4 0 :: an 1 (.int .i64 (IntKind.i64.wrap (x18 + 1)) :: an 49 (.int .i64 x18 :: .ptr (lv + 1) i2 2 :: .sl 6 (a0.args.map GValue.el) false :: .int .i64 (a0.args.length : Int) :: .bool (decide (x18 < (a0.args.length : Int))) :: .int .i64 x18 :: .int .i64 (IntKind.i64.wrap (x18 + 1)) :: .ptr (lv + 1) i2 2 :: .sl 6 (a0.args.map GValue.el) false :: .int .i64 x18 :: .ref x19.cs 0 :: .agg x19.cs :: .ptr (lv + 1) i4 2 :: .sl 6 (a1.args.map GValue.el) false :: .int .i64 x18 :: .ref x22.cs 0 :: .agg x22.cs :: .bool y25 :: .bool (!y25) :: []))), ⟨lv + 1, L, E⟩, [], E⟩ [] (by simp -implicitDefEqProofs [GNode.cs, GValue.cs, g0, g1]) claims_nil ?_
                refine satO_nil ?_
                refine ⟨n, ⟨an 2 (.ptr (lv + 1) i2 0 :: .ptr (lv + 1) i4 0 :: an 1 (.int .i64 (IntKind.i64.wrap (x18 + 1)) :: an 68 [])), ⟨lv + 1, L, E⟩, [], E⟩, weak_tmps ?_, ⟨(IntKind.i64.wrap (x18 + 1)), L, by omega, hA, h, rfl⟩, by omega⟩
                (try simp only [an]); repeat (first | exact VLeL.nil | refine VLeL.cons (by first | exact VLe.refl _ | exact VLe.any _ | exact VLe.nil _ _ | (refine VLe.agg' ?_; repeat (first | exact VLeL.nil | refine VLeL.cons (by first | exact VLe.refl _ | exact VLe.any _ | exact VLe.nil _ _) ?_))) ?_)
            · have h := ite_f hb h
              repeat refine sat_seq ?_
              refine sat_exit ?_
              repeat refine sat_seq ?_
              refine satO_reg ?_
              have g0 := hA.get (k := 0) rfl
              have g1 := hA.get (k := 1) rfl
              refine satO_step 1 [] ⟨an 2 (.ptr (lv + 1) i2 0 :: .ptr (lv + 1) i4 0 :: .bool true :: .int .i64 x18 :: an 49 (.int .i64 x18 :: .ptr (lv + 1) i2 2 :: .sl 6 (a0.args.map GValue.el) false :: .int .i64 (a0.args.length : Int) :: .bool (decide (x18 < (a0.args.length : Int))) :: an 14 [])), ⟨lv + 1, L, E⟩, [], E⟩ [] (by simp -implicitDefEqProofs [GNode.cs, GValue.cs, g0, g1]) claims_nil ?_
              refine satO_nil ?_
              repeat refine sat_seq ?_
              refine sat_ret ?_
              have g0 := hA.get (k := 0) rfl
              have g1 := hA.get (k := 1) rfl
              refine ends (v := .bool true) (by simp [resultsV, resL, resV, tupOf, Try.f13, pLoad, g0, g1, GNode.cs, GValue.cs]) rfl rfl ?_
              injection h with h
              subst h
              exact (.keep _ (by simp [V.kin, V.kinL, GNode.cs, GValue.cs]))
end Go.Proofs

namespace Go.Proofs
open Go Go.Ab
set_option maxRecDepth 10000
set_option maxHeartbeats 1000000
set_option linter.unusedSimpArgs false
set_option linter.unusedVariables false
theorem go_ref27_SameAll_ok (n : Nat) (a0 : List GNode) (a1 : List GNode) (r : Bool) (h : go_ref27_SameAll n a0 a1 = some r) : PCall Try.prog 9 [.sl 13 (a0.map GNode.el) false, .sl 13 (a1.map GNode.el) false] (.bool r) := by
  rcases n with _ | n
  · simp [go_ref27_SameAll] at h
  rw [go_ref27_SameAll] at h
  refine pcall_of Try.func9 rfl Try.ntmps9 (fun _ _ => Try.call9 _ _) fun lv E => ?_
  simp only [List.length_cons, List.length_nil, Nat.reduceAdd, Nat.reduceSub, List.replicate, List.cons_append, List.nil_append]
  have hA := AccG.nil (lv + 1)
  generalize ([] : List (Option AObj)) = L at hA ⊢
  repeat refine sat_seq ?_
  refine satO_reg ?_
  refine satO_step 1 [] ⟨.sl 13 (a0.map GNode.el) false :: .sl 13 (a1.map GNode.el) false :: an 2 (.bool false :: an 22 []), ⟨lv + 1, L, E⟩, [], E⟩ [] (by simp -implicitDefEqProofs []) claims_nil ?_
  refine satO_nil ?_
  repeat refine sat_seq ?_
  refine satO_reg ?_
  refine satO_step 5 [] ⟨.sl 13 (a0.map GNode.el) false :: .sl 13 (a1.map GNode.el) false :: an 2 (.bool false :: an 1 (.sl 13 (a0.map GNode.el) false :: .int .i64 (a0.length : Int) :: .sl 13 (a1.map GNode.el) false :: .int .i64 (a1.length : Int) :: .bool (!((a0.length : Int) == (a1.length : Int))) :: an 16 [])), ⟨lv + 1, L, E⟩, [], E⟩ [] (by simp -implicitDefEqProofs []) claims_nil ?_
  refine satO_nil ?_
  repeat refine sat_seq ?_
  refine sat_cond rfl (fun hb => ?_) (fun hb => ?_)
  · have h := ite_t hb h
    repeat refine sat_seq ?_
    refine satO_reg ?_
    refine satO_step 1 [] ⟨.sl 13 (a0.map GNode.el) false :: .sl 13 (a1.map GNode.el) false :: an 2 (.bool false :: an 1 (.sl 13 (a0.map GNode.el) false :: .int .i64 (a0.length : Int) :: .sl 13 (a1.map GNode.el) false :: .int .i64 (a1.length : Int) :: .bool (!((a0.length : Int) == (a1.length : Int))) :: an 16 [])), ⟨lv + 1, L, E⟩, [], E⟩ [] (by simp -implicitDefEqProofs []) claims_nil ?_
    refine satO_nil ?_
    repeat refine sat_seq ?_
    refine sat_ret ?_
    refine ends (v := .bool false) (by simp [resultsV, resL, resV, tupOf, Try.f9, pLoad]) rfl rfl ?_
    injection h with h
    subst h
    exact (.keep _ (by simp [V.kin, V.kinL]))
  · have h := ite_f hb h
    repeat refine sat_seq ?_
    refine sat_skip ?_
    repeat refine sat_seq ?_
    refine satO_reg ?_
    refine satO_step 1 [] ⟨.sl 13 (a0.map GNode.el) false :: .sl 13 (a1.map GNode.el) false :: an 2 (.bool false :: .int .i64 0 :: .sl 13 (a0.map GNode.el) false :: .int .i64 (a0.length : Int) :: .sl 13 (a1.map GNode.el) false :: .int .i64 (a1.length : Int) :: .bool (!((a0.length : Int) == (a1.length : Int))) :: an 16 []), ⟨lv + 1, L, E⟩, [], E⟩ [] (by simp -implicitDefEqProofs []) claims_nil ?_
    refine satO_nil ?_
    repeat refine sat_seq ?_
    refine sat_block ?_
    repeat refine sat_seq ?_
    refine sat_loop (fun k σ => ∃ (x1 : Int) (L : List (Option AObj)), k ≤ n ∧ AccG (lv + 1) L [] [] ∧ go_ref27_SameAll_L1 k a0 a1 x1 = some r ∧ σ = ⟨.sl 13 (a0.map GNode.el) false :: .sl 13 (a1.map GNode.el) false :: an 3 (.int .i64 x1 :: an 21 []), ⟨lv + 1, L, E⟩, [], E⟩) n ⟨.sl 13 (a0.map GNode.el) false :: .sl 13 (a1.map GNode.el) false :: an 3 (.int .i64 0 :: an 21 []), ⟨lv + 1, L, E⟩, [], E⟩ (weak_tmps ?_) ⟨0, L, Nat.le_refl _, hA, h, rfl⟩ ?_
    · (try simp only [an]); repeat (first | exact VLeL.nil | refine VLeL.cons (by first | exact VLe.refl _ | exact VLe.any _ | exact VLe.nil _ _ | (refine VLe.agg' ?_; repeat (first | exact VLeL.nil | refine VLeL.cons (by first | exact VLe.refl _ | exact VLe.any _ | exact VLe.nil _ _) ?_))) ?_)
    · rintro k σ ⟨x1, L, hk, hA, h, rfl⟩
      rcases k with _ | n
      · simp [go_ref27_SameAll_L1] at h
      · rw [go_ref27_SameAll_L1] at h
        repeat refine sat_seq ?_
        refine satO_reg ?_
        refine satO_step 4 [] ⟨.sl 13 (a0.map GNode.el) false :: .sl 13 (a1.map GNode.el) false :: an 3 (.int .i64 x1 :: an 5 (.int .i64 x1 :: .sl 13 (a0.map GNode.el) false :: .int .i64 (a0.length : Int) :: .bool (decide (x1 < (a0.length : Int))) :: an 12 [])), ⟨lv + 1, L, E⟩, [], E⟩ [] (by simp -implicitDefEqProofs []) claims_nil ?_
        refine satO_nil ?_
        repeat refine sat_seq ?_
        refine sat_cond rfl (fun hb => ?_) (fun hb => ?_)
        · have h := ite_t hb h
          repeat refine sat_seq ?_
          refine sat_skip ?_
          repeat refine sat_seq ?_
          refine sat_block ?_
          repeat refine sat_seq ?_
          obtain ⟨x2, q3, h⟩ := bnd_hi h
          obtain ⟨q3, q4⟩ := ix_some q3
          obtain ⟨x5, q6, h⟩ := bnd_hi h
          obtain ⟨q6, q7⟩ := ix_some q6
          obtain ⟨y8, q9, h⟩ := bnd_hi h
          refine satO_drw (by kernel_rfl) (by kernel_rfl) [.bool y8] ⟨.sl 13 (a0.map GNode.el) false :: .sl 13 (a1.map GNode.el) false :: an 3 (.int .i64 x1 :: an 5 (.int .i64 x1 :: .sl 13 (a0.map GNode.el) false :: .int .i64 (a0.length : Int) :: .bool (decide (x1 < (a0.length : Int))) :: an 2 (.sl 13 (a0.map GNode.el) false :: .int .i64 x1 :: .ref x2.cs 0 :: .agg x2.cs :: .sl 13 (a1.map GNode.el) false :: .int .i64 x1 :: .ref x5.cs 0 :: .agg x5.cs :: .bool y8 :: .bool (!y8) :: []))), ⟨lv + 1, L, E⟩, [], E⟩ [⟨13, [.agg x2.cs, .agg x5.cs], ⟨lv + 1, L, E⟩, .bool y8, ⟨lv + 1, L, E⟩⟩] (by simp -implicitDefEqProofs [GNode.cs, q3, q4, GNode.el_cs, q6, q7, GNode.el_cs]) (claims_cons (go_ref27_Same_ok _ _ _ _ q9 _) claims_nil) ?_
          repeat refine sat_seq ?_
          refine sat_cond rfl (fun hb => ?_) (fun hb => ?_)
          · have h := ite_t hb h
            repeat refine sat_seq ?_
            refine satO_reg ?_
            refine satO_step 1 [] ⟨.sl 13 (a0.map GNode.el) false :: .sl 13 (a1.map GNode.el) false :: an 2 (.bool false :: .int .i64 x1 :: an 5 (.int .i64 x1 :: .sl 13 (a0.map GNode.el) false :: .int .i64 (a0.length : Int) :: .bool (decide (x1 < (a0.length : Int))) :: an 2 (.sl 13 (a0.map GNode.el) false :: .int .i64 x1 :: .ref x2.cs 0 :: .agg x2.cs :: .sl 13 (a1.map GNode.el) false :: .int .i64 x1 :: .ref x5.cs 0 :: .agg x5.cs :: .bool y8 :: .bool (!y8) :: []))), ⟨lv + 1, L, E⟩, [], E⟩ [] (by simp -implicitDefEqProofs [GNode.cs]) claims_nil ?_
            refine satO_nil ?_
            repeat refine sat_seq ?_
            refine sat_ret ?_
            refine ends (v := .bool false) (by simp [resultsV, resL, resV, tupOf, Try.f9, pLoad, GNode.cs]) rfl rfl ?_
            injection h with h
            subst h
            exact (.keep _ (by simp [V.kin, V.kinL, GNode.cs]))
          · have h := ite_f hb h
            repeat refine sat_seq ?_
            refine sat_skip ?_
            repeat refine sat_seq ?_
            refine satO_reg ?_
            refine satO_step 3 [] ⟨.sl 13 (a0.map GNode.el) false :: .sl 13 (a1.map GNode.el) false :: an 3 (.int .i64 (IntKind.i64.wrap (x1 + 1)) :: an 5 (.int .i64 x1 :: .sl 13 (a0.map GNode.el) false :: .int .i64 (a0.length : Int) :: .bool (decide (x1 < (a0.length : Int))) :: .int .i64 x1 :: .int .i64 (IntKind.i64.wrap (x1 + 1)) :: .sl 13 (a0.map GNode.el) false :: .int .i64 x1 :: .ref x2.cs 0 :: .agg x2.cs :: .sl 13 (a1.map GNode.el) false :: .int .i64 x1 :: .ref x5.cs 0 :: .agg x5.cs :: .bool y8 :: .bool (!y8) :: [])), ⟨lv + 1, L, E⟩, [], E⟩ [] (by simp -implicitDefEqProofs [GNode.cs]) claims_nil ?_
            refine satO_nil ?_
            refine ⟨n, ⟨.sl 13 (a0.map GNode.el) false :: .sl 13 (a1.map GNode.el) false :: an 3 (.int .i64 (IntKind.i64.wrap (x1 + 1)) :: an 21 []), ⟨lv + 1, L, E⟩, [], E⟩, weak_tmps ?_, ⟨(IntKind.i64.wrap (x1 + 1)), L, by omega, hA, h, rfl⟩, by omega⟩
            (try simp only [an]); repeat (first | exact VLeL.nil | refine VLeL.cons (by first | exact VLe.refl _ | exact VLe.any _ | exact VLe.nil _ _ | (refine VLe.agg' ?_; repeat (first | exact VLeL.nil | refine VLeL.cons (by first | exact VLe.refl _ | exact VLe.any _ | exact VLe.nil _ _) ?_))) ?_)
        · have h := ite_f hb h
          repeat refine sat_seq ?_
          refine sat_exit ?_
          repeat refine sat_seq ?_
          refine satO_reg ?_
          refine satO_step 1 [] ⟨.sl 13 (a0.map GNode.el) false :: .sl 13 (a1.map GNode.el) false :: an 2 (.bool true :: .int .i64 x1 :: an 5 (.int .i64 x1 :: .sl 13 (a0.map GNode.el) false :: .int .i64 (a0.length : Int) :: .bool (decide (x1 < (a0.length : Int))) :: an 12 [])), ⟨lv + 1, L, E⟩, [], E⟩ [] (by simp -implicitDefEqProofs [GNode.cs]) claims_nil ?_
          refine satO_nil ?_
          repeat refine sat_seq ?_
          refine sat_ret ?_
          refine ends (v := .bool true) (by simp [resultsV, resL, resV, tupOf, Try.f9, pLoad, GNode.cs]) rfl rfl ?_
          injection h with h
          subst h
          exact (.keep _ (by simp [V.kin, V.kinL, GNode.cs]))
end Go.Proofs

namespace Go.Proofs
open Go Go.Ab
set_option maxRecDepth 10000
set_option maxHeartbeats 1000000
set_option linter.unusedSimpArgs false
set_option linter.unusedVariables false
theorem go_value_Same_ok : ∀ n : Nat, (∀ (a0 : GValue) (a1 : GValue) (r : Bool), go_value_Same n a0 a1 = some r → PCall Try.prog 31 [.agg a0.cs, .agg a1.cs] (.bool r)) := by
  intro n; induction n using Nat.strongRecOn with | ind n ih =>
  intro a0 a1 r h
  rcases n with _ | n
  · simp [go_value_Same] at h
  rw [go_value_Same] at h
  refine pcall_of Try.func31 rfl Try.ntmps31 (fun _ _ => Try.call31 _ _) fun lv E => ?_
  simp only [List.length_cons, List.length_nil, Nat.reduceAdd, Nat.reduceSub, List.replicate, List.cons_append, List.nil_append]
  have hA := AccG.nil (lv + 1)
  generalize ([] : List (Option AObj)) = L at hA ⊢
  repeat refine sat_seq ?_
  refine satO_reg ?_
  refine satO_step 1 [] ⟨.agg a0.cs :: .agg a1.cs :: .ptr (lv + 1) L.length 0 :: an 57 [], ⟨lv + 1, (L ++ [some (.cells a0.cs)]), E⟩, [], E⟩ [] (by simp -implicitDefEqProofs [GValue.cs]) claims_nil ?_
  have hA : AccG (lv + 1) (L ++ [some (.cells a0.cs)]) [] [(L.length, .cells a0.cs)] := hA.obj _
  generalize L.length = i2 at hA ⊢
  generalize (L ++ [some (.cells a0.cs)]) = L at hA ⊢
  refine satO_step 1 [] ⟨.agg a0.cs :: .agg a1.cs :: .ptr (lv + 1) i2 0 :: .ptr (lv + 1) L.length 0 :: an 56 [], ⟨lv + 1, (L ++ [some (.cells a1.cs)]), E⟩, [], E⟩ [] (by simp -implicitDefEqProofs [GValue.cs]) claims_nil ?_
  have hA : AccG (lv + 1) (L ++ [some (.cells a1.cs)]) [] [(i2, .cells a0.cs), (L.length, .cells a1.cs)] := hA.obj _
  generalize L.length = i4 at hA ⊢
  generalize (L ++ [some (.cells a1.cs)]) = L at hA ⊢
  have g0 := hA.get (k := 0) rfl
  have g1 := hA.get (k := 1) rfl
  refine satO_step 1 [] ⟨.agg a0.cs :: .agg a1.cs :: .ptr (lv + 1) i2 0 :: .ptr (lv + 1) i4 0 :: .bool false :: an 55 [], ⟨lv + 1, L, E⟩, [], E⟩ [] (by simp -implicitDefEqProofs [GValue.cs, g0, g1]) claims_nil ?_
  refine satO_nil ?_
  repeat refine sat_seq ?_
  refine sat_meet (fun σ => ∃ (k : Nat), k ≤ n ∧ ∃ (x5 : Bool) (L : List (Option AObj)), AccG (lv + 1) L [] [(i2, .cells a0.cs), (i4, .cells a1.cs)] ∧ go_value_Same_J1 k a0 a1 x5 = some r ∧ σ = ⟨an 2 (.ptr (lv + 1) i2 0 :: .ptr (lv + 1) i4 0 :: an 36 (.bool x5 :: an 19 [])), ⟨lv + 1, L, E⟩, [], E⟩) ?_ ?_
  · refine satO_reg ?_
    rcases Bool.eq_false_or_eq_true (!(a0.kind == a1.kind)) with hg6 | hg7
    · have h := ite_t hg6 h
      have g0 := hA.get (k := 0) rfl
      have g1 := hA.get (k := 1) rfl
      refine satO_step 35 [] ⟨.agg a0.cs :: .agg a1.cs :: .ptr (lv + 1) i2 0 :: .ptr (lv + 1) i4 0 :: .bool false :: an 1 (.ptr (lv + 1) i2 0 :: .int .u8 a0.kind :: .ptr (lv + 1) i4 0 :: .int .u8 a1.kind :: .bool (!(a0.kind == a1.kind)) :: .bool (!(a0.kind == a1.kind)) :: .tup [] :: .tup [] :: .tup [] :: .tup [] :: .tup [] :: .bool true :: .bool true :: .tup [] :: .tup [] :: .tup [] :: .tup [] :: .tup [] :: .bool true :: .bool true :: .tup [] :: .tup [] :: .tup [] :: .tup [] :: .tup [] :: .bool true :: .bool true :: .tup [] :: .tup [] :: .tup [] :: .tup [] :: .tup [] :: .tup [] :: .tup [] :: .bool true :: an 19 []), ⟨lv + 1, L, E⟩, [], E⟩ [] (by simp -implicitDefEqProofs [GValue.cs, g0, g1, hg6]) claims_nil ?_
      refine satO_nil ?_
      refine ⟨⟨an 2 (.ptr (lv + 1) i2 0 :: .ptr (lv + 1) i4 0 :: an 36 (.bool true :: an 19 [])), ⟨lv + 1, L, E⟩, [], E⟩, weak_tmps ?_, n, by omega, true, L, hA, h, rfl⟩
      (try simp only [an]); repeat (first | exact VLeL.nil | refine VLeL.cons (by first | exact VLe.refl _ | exact VLe.any _ | exact VLe.nil _ _ | (refine VLe.agg' ?_; repeat (first | exact VLeL.nil | refine VLeL.cons (by first | exact VLe.refl _ | exact VLe.any _ | exact VLe.nil _ _) ?_))) ?_)
    · have h := ite_f hg7 h
      rcases Bool.eq_false_or_eq_true (!((a0.num.num == a1.num.num) && (a0.num.den == a1.num.den))) with hg8 | hg9
      · have h := ite_t hg8 h
        have g0 := hA.get (k := 0) rfl
        have g1 := hA.get (k := 1) rfl
        refine satO_step 35 [] ⟨.agg a0.cs :: .agg a1.cs :: .ptr (lv + 1) i2 0 :: .ptr (lv + 1) i4 0 :: .bool false :: an 1 (.ptr (lv + 1) i2 0 :: .int .u8 a0.kind :: .ptr (lv + 1) i4 0 :: .int .u8 a1.kind :: .bool (!(a0.kind == a1.kind)) :: .bool (!(a0.kind == a1.kind)) :: .ptr (lv + 1) i2 1 :: .agg [.int .i64 a0.num.num, .int .i64 a0.num.den] :: .ptr (lv + 1) i4 1 :: .agg [.int .i64 a1.num.num, .int .i64 a1.num.den] :: .bool (!((a0.num.num == a1.num.num) && (a0.num.den == a1.num.den))) :: .bool (!((a0.num.num == a1.num.num) && (a0.num.den == a1.num.den))) :: .bool (!((a0.num.num == a1.num.num) && (a0.num.den == a1.num.den))) :: .tup [] :: .tup [] :: .tup [] :: .tup [] :: .tup [] :: .bool true :: .bool true :: .tup [] :: .tup [] :: .tup [] :: .tup [] :: .tup [] :: .bool true :: .bool true :: .tup [] :: .tup [] :: .tup [] :: .tup [] :: .tup [] :: .tup [] :: .tup [] :: .bool true :: an 19 []), ⟨lv + 1, L, E⟩, [], E⟩ [] (by simp -implicitDefEqProofs [GValue.cs, g0, g1, hg7, hg8]) claims_nil ?_
        refine satO_nil ?_
        refine ⟨⟨an 2 (.ptr (lv + 1) i2 0 :: .ptr (lv + 1) i4 0 :: an 36 (.bool true :: an 19 [])), ⟨lv + 1, L, E⟩, [], E⟩, weak_tmps ?_, n, by omega, true, L, hA, h, rfl⟩
        (try simp only [an]); repeat (first | exact VLeL.nil | refine VLeL.cons (by first | exact VLe.refl _ | exact VLe.any _ | exact VLe.nil _ _ | (refine VLe.agg' ?_; repeat (first | exact VLeL.nil | refine VLeL.cons (by first | exact VLe.refl _ | exact VLe.any _ | exact VLe.nil _ _) ?_))) ?_)
      · have h := ite_f hg9 h
        rcases Bool.eq_false_or_eq_true (!(a0.truth == a1.truth)) with hg10 | hg11
        · have h := ite_t hg10 h
          have g0 := hA.get (k := 0) rfl
          have g1 := hA.get (k := 1) rfl
          refine satO_step 35 [] ⟨.agg a0.cs :: .agg a1.cs :: .ptr (lv + 1) i2 0 :: .ptr (lv + 1) i4 0 :: .bool false :: an 1 (.ptr (lv + 1) i2 0 :: .int .u8 a0.kind :: .ptr (lv + 1) i4 0 :: .int .u8 a1.kind :: .bool (!(a0.kind == a1.kind)) :: .bool (!(a0.kind == a1.kind)) :: .ptr (lv + 1) i2 1 :: .agg [.int .i64 a0.num.num, .int .i64 a0.num.den] :: .ptr (lv + 1) i4 1 :: .agg [.int .i64 a1.num.num, .int .i64 a1.num.den] :: .bool (!((a0.num.num == a1.num.num) && (a0.num.den == a1.num.den))) :: .bool (!((a0.num.num == a1.num.num) && (a0.num.den == a1.num.den))) :: .bool (!((a0.num.num == a1.num.num) && (a0.num.den == a1.num.den))) :: .ptr (lv + 1) i2 3 :: .bool a0.truth :: .ptr (lv + 1) i4 3 :: .bool a1.truth :: .bool (!(a0.truth == a1.truth)) :: .bool (!(a0.truth == a1.truth)) :: .bool (!(a0.truth == a1.truth)) :: .tup [] :: .tup [] :: .tup [] :: .tup [] :: .tup [] :: .bool true :: .bool true :: .tup [] :: .tup [] :: .tup [] :: .tup [] :: .tup [] :: .tup [] :: .tup [] :: .bool true :: an 19 []), ⟨lv + 1, L, E⟩, [], E⟩ [] (by simp -implicitDefEqProofs [GValue.cs, g0, g1, hg7, hg9, hg10]) claims_nil ?_
          refine satO_nil ?_
          refine ⟨⟨an 2 (.ptr (lv + 1) i2 0 :: .ptr (lv + 1) i4 0 :: an 36 (.bool true :: an 19 [])), ⟨lv + 1, L, E⟩, [], E⟩, weak_tmps ?_, n, by omega, true, L, hA, h, rfl⟩
          (try simp only [an]); repeat (first | exact VLeL.nil | refine VLeL.cons (by first | exact VLe.refl _ | exact VLe.any _ | exact VLe.nil _ _ | (refine VLe.agg' ?_; repeat (first | exact VLeL.nil | refine VLeL.cons (by first | exact VLe.refl _ | exact VLe.any _ | exact VLe.nil _ _) ?_))) ?_)
        · have h := ite_f hg11 h
          rcases Bool.eq_false_or_eq_true (!(a0.str == a1.str)) with hg12 | hg13
          · have h := ite_t hg12 h
            have g0 := hA.get (k := 0) rfl
            have g1 := hA.get (k := 1) rfl
            refine satO_step 35 [] ⟨.agg a0.cs :: .agg a1.cs :: .ptr (lv + 1) i2 0 :: .ptr (lv + 1) i4 0 :: .bool false :: an 1 (.ptr (lv + 1) i2 0 :: .int .u8 a0.kind :: .ptr (lv + 1) i4 0 :: .int .u8 a1.kind :: .bool (!(a0.kind == a1.kind)) :: .bool (!(a0.kind == a1.kind)) :: .ptr (lv + 1) i2 1 :: .agg [.int .i64 a0.num.num, .int .i64 a0.num.den] :: .ptr (lv + 1) i4 1 :: .agg [.int .i64 a1.num.num, .int .i64 a1.num.den] :: .bool (!((a0.num.num == a1.num.num) && (a0.num.den == a1.num.den))) :: .bool (!((a0.num.num == a1.num.num) && (a0.num.den == a1.num.den))) :: .bool (!((a0.num.num == a1.num.num) && (a0.num.den == a1.num.den))) :: .ptr (lv + 1) i2 3 :: .bool a0.truth :: .ptr (lv + 1) i4 3 :: .bool a1.truth :: .bool (!(a0.truth == a1.truth)) :: .bool (!(a0.truth == a1.truth)) :: .bool (!(a0.truth == a1.truth)) :: .ptr (lv + 1) i2 4 :: .str a0.str :: .ptr (lv + 1) i4 4 :: .str a1.str :: .bool (!(a0.str == a1.str)) :: .bool (!(a0.str == a1.str)) :: .bool (!(a0.str == a1.str)) :: .tup [] :: .tup [] :: .tup [] :: .tup [] :: .tup [] :: .tup [] :: .tup [] :: .bool true :: an 19 []), ⟨lv + 1, L, E⟩, [], E⟩ [] (by simp -implicitDefEqProofs [GValue.cs, g0, g1, hg7, hg9, hg11, hg12]) claims_nil ?_
            refine satO_nil ?_
            refine ⟨⟨an 2 (.ptr (lv + 1) i2 0 :: .ptr (lv + 1) i4 0 :: an 36 (.bool true :: an 19 [])), ⟨lv + 1, L, E⟩, [], E⟩, weak_tmps ?_, n, by omega, true, L, hA, h, rfl⟩
            (try simp only [an]); repeat (first | exact VLeL.nil | refine VLeL.cons (by first | exact VLe.refl _ | exact VLe.any _ | exact VLe.nil _ _ | (refine VLe.agg' ?_; repeat (first | exact VLeL.nil | refine VLeL.cons (by first | exact VLe.refl _ | exact VLe.any _ | exact VLe.nil _ _) ?_))) ?_)
          · have h := ite_f hg13 h
            have g0 := hA.get (k := 0) rfl
            have g1 := hA.get (k := 1) rfl
            refine satO_step 35 [] ⟨.agg a0.cs :: .agg a1.cs :: .ptr (lv + 1) i2 0 :: .ptr (lv + 1) i4 0 :: .bool false :: an 1 (.ptr (lv + 1) i2 0 :: .int .u8 a0.kind :: .ptr (lv + 1) i4 0 :: .int .u8 a1.kind :: .bool (!(a0.kind == a1.kind)) :: .bool (!(a0.kind == a1.kind)) :: .ptr (lv + 1) i2 1 :: .agg [.int .i64 a0.num.num, .int .i64 a0.num.den] :: .ptr (lv + 1) i4 1 :: .agg [.int .i64 a1.num.num, .int .i64 a1.num.den] :: .bool (!((a0.num.num == a1.num.num) && (a0.num.den == a1.num.den))) :: .bool (!((a0.num.num == a1.num.num) && (a0.num.den == a1.num.den))) :: .bool (!((a0.num.num == a1.num.num) && (a0.num.den == a1.num.den))) :: .ptr (lv + 1) i2 3 :: .bool a0.truth :: .ptr (lv + 1) i4 3 :: .bool a1.truth :: .bool (!(a0.truth == a1.truth)) :: .bool (!(a0.truth == a1.truth)) :: .bool (!(a0.truth == a1.truth)) :: .ptr (lv + 1) i2 4 :: .str a0.str :: .ptr (lv + 1) i4 4 :: .str a1.str :: .bool (!(a0.str == a1.str)) :: .bool (!(a0.str == a1.str)) :: .bool (!(a0.str == a1.str)) :: .ptr (lv + 1) i2 5 :: .sl 6 (a0.list.map GValue.el) false :: .int .i64 (a0.list.length : Int) :: .ptr (lv + 1) i4 5 :: .sl 6 (a1.list.map GValue.el) false :: .int .i64 (a1.list.length : Int) :: .bool (!((a0.list.length : Int) == (a1.list.length : Int))) :: .bool (!((a0.list.length : Int) == (a1.list.length : Int))) :: an 19 []), ⟨lv + 1, L, E⟩, [], E⟩ [] (by simp -implicitDefEqProofs [GValue.cs, g0, g1, hg7, hg9, hg11, hg13]) claims_nil ?_
            refine satO_nil ?_
            refine ⟨⟨an 2 (.ptr (lv + 1) i2 0 :: .ptr (lv + 1) i4 0 :: an 36 (.bool (!((a0.list.length : Int) == (a1.list.length : Int))) :: an 19 [])), ⟨lv + 1, L, E⟩, [], E⟩, weak_tmps ?_, n, by omega, (!((a0.list.length : Int) == (a1.list.length : Int))), L, hA, h, rfl⟩
            (try simp only [an]); repeat (first | exact VLeL.nil | refine VLeL.cons (by first | exact VLe.refl _ | exact VLe.any _ | exact VLe.nil _ _ | (refine VLe.agg' ?_; repeat (first | exact VLeL.nil | refine VLeL.cons (by first | exact VLe.refl _ | exact VLe.any _ | exact VLe.nil _ _) ?_))) ?_)
  · rintro σ0 σ hw ⟨k, hk, x5, L, hA, h, rfl⟩
    rcases k with _ | n
    · simp [go_value_Same_J1] at h
    · rw [go_value_Same_J1] at h
      refine sat_weak hw ?_
      repeat refine sat_seq ?_
      refine sat_cond rfl (fun hb => ?_) (fun hb => ?_)
      · have h := ite_t hb h
        repeat refine sat_seq ?_
        refine satO_reg ?_
        have g0 := hA.get (k := 0) rfl
        have g1 := hA.get (k := 1) rfl
        refine satO_step 1 [] ⟨an 2 (.ptr (lv + 1) i2 0 :: .ptr (lv + 1) i4 0 :: .bool false :: an 35 (.bool x5 :: an 19 [])), ⟨lv + 1, L, E⟩, [], E⟩ [] (by simp -implicitDefEqProofs [GValue.cs, g0, g1]) claims_nil ?_
        refine satO_nil ?_
        repeat refine sat_seq ?_
        refine sat_ret ?_
        have g0 := hA.get (k := 0) rfl
        have g1 := hA.get (k := 1) rfl
        refine ends (v := .bool false) (by simp [resultsV, resL, resV, tupOf, Try.f31, pLoad, g0, g1, GValue.cs]) rfl rfl ?_
        injection h with h
        subst h
        exact (.keep _ (by simp [V.kin, V.kinL, GValue.cs]))
      · have h := ite_f hb h
        repeat refine sat_seq ?_
        refine sat_skip ?_
        repeat refine sat_seq ?_
        refine satO_reg ?_
        have g0 := hA.get (k := 0) rfl
        have g1 := hA.get (k := 1) rfl
        refine satO_step 4 [] ⟨an 2 (.ptr (lv + 1) i2 0 :: .ptr (lv + 1) i4 0 :: an 36 (.bool x5 :: .ptr (lv + 1) i2 5 :: .sl 6 (a0.list.map GValue.el) false :: .int .i64 (a0.list.length : Int) :: .int .i64 0 :: an 15 [])), ⟨lv + 1, L, E⟩, [], E⟩ [] (by simp -implicitDefEqProofs [GValue.cs, g0, g1]) claims_nil ?_
        refine satO_nil ?_
        repeat refine sat_seq ?_
        refine sat_block ?_
        repeat refine sat_seq ?_
        refine sat_loop (fun k σ => ∃ (x14 : Int) (L : List (Option AObj)), k ≤ n ∧ AccG (lv + 1) L [] [(i2, .cells a0.cs), (i4, .cells a1.cs)] ∧ go_value_Same_L1 k a0 a1 x14 = some r ∧ σ = ⟨an 2 (.ptr (lv + 1) i2 0 :: .ptr (lv + 1) i4 0 :: an 39 (.int .i64 (a0.list.length : Int) :: .int .i64 x14 :: an 15 [])), ⟨lv + 1, L, E⟩, [], E⟩) n ⟨an 2 (.ptr (lv + 1) i2 0 :: .ptr (lv + 1) i4 0 :: an 39 (.int .i64 (a0.list.length : Int) :: .int .i64 0 :: an 15 [])), ⟨lv + 1, L, E⟩, [], E⟩ (weak_tmps ?_) ⟨0, L, Nat.le_refl _, hA, h, rfl⟩ ?_
        · (try simp only [an]); repeat (first | exact VLeL.nil | refine VLeL.cons (by first | exact VLe.refl _ | exact VLe.any _ | exact VLe.nil _ _ | (refine VLe.agg' ?_; repeat (first | exact VLeL.nil | refine VLeL.cons (by first | exact VLe.refl _ | exact VLe.any _ | exact VLe.nil _ _) ?_))) ?_)
        · rintro k σ ⟨x14, L, hk, hA, h, rfl⟩
          rcases k with _ | n
          · simp [go_value_Same_L1] at h
          · rw [go_value_Same_L1] at h
            repeat refine sat_seq ?_
            refine satO_reg ?_
            have g0 := hA.get (k := 0) rfl
            have g1 := hA.get (k := 1) rfl
            refine satO_step 1 [] ⟨an 2 (.ptr (lv + 1) i2 0 :: .ptr (lv + 1) i4 0 :: an 39 (.int .i64 (a0.list.length : Int) :: .int .i64 x14 :: .bool (decide (x14 < (a0.list.length : Int))) :: an 14 [])), ⟨lv + 1, L, E⟩, [], E⟩ [] (by simp -implicitDefEqProofs [GValue.cs, g0, g1]) claims_nil ?_
            refine satO_nil ?_
            repeat refine sat_seq ?_
            refine sat_cond rfl (fun hb => ?_) (fun hb => ?_)
            · have h := ite_t hb h
              repeat refine sat_seq ?_
              refine sat_skip ?_
              repeat refine sat_seq ?_
              refine sat_block ?_
              repeat refine sat_seq ?_
              refine satO_reg ?_
              have g0 := hA.get (k := 0) rfl
              have g1 := hA.get (k := 1) rfl
              refine satO_step 2 [] ⟨an 2 (.ptr (lv + 1) i2 0 :: .ptr (lv + 1) i4 0 :: an 1 (.int .i64 x14 :: an 37 (.int .i64 (a0.list.length : Int) :: .int .i64 x14 :: .bool (decide (x14 < (a0.list.length : Int))) :: .int .i64 x14 :: an 13 []))), ⟨lv + 1, L, E⟩, [], E⟩ [] (by simp -implicitDefEqProofs [GValue.cs, g0, g1]) claims_nil ?_
              refine satO_nil ?_
              repeat refine sat_seq ?_
              obtain ⟨x15, q16, h⟩ := bnd_hi h
              obtain ⟨q16, q17⟩ := ix_some q16
              obtain ⟨x18, q19, h⟩ := bnd_hi h
              obtain ⟨q19, q20⟩ := ix_some q19
              obtain ⟨y21, q22, h⟩ := bnd_hi h
              have g0 := hA.get (k := 0) rfl
              have g1 := hA.get (k := 1) rfl
              refine satO_drw (by kernel_rfl) (by kernel_rfl) [.bool y21] ⟨an 2 (.ptr (lv + 1) i2 0 :: .ptr (lv + 1) i4 0 :: an 1 (.int .i64 x14 :: an 37 (.int .i64 (a0.list.length : Int) :: .int .i64 x14 :: .bool (decide (x14 < (a0.list.length : Int))) :: .int .i64 x14 :: .ptr (lv + 1) i2 5 :: .sl 6 (a0.list.map GValue.el) false :: .int .i64 x14 :: .ref x15.cs 0 :: .agg x15.cs :: .ptr (lv + 1) i4 5 :: .sl 6 (a1.list.map GValue.el) false :: .int .i64 x14 :: .ref x18.cs 0 :: .agg x18.cs :: .bool y21 :: .bool (!y21) :: an 1 []))), ⟨lv + 1, L, E⟩, [], E⟩ [⟨31, [.agg x15.cs, .agg x18.cs], ⟨lv + 1, L, E⟩, .bool y21, ⟨lv + 1, L, E⟩⟩] (by simp -implicitDefEqProofs [GValue.cs, g0, g1, q16, q17, GValue.el_cs, q19, q20, GValue.el_cs]) (claims_cons (ih _ (by omega) _ _ _ q22 _) claims_nil) ?_
              repeat refine sat_seq ?_
              refine sat_cond rfl (fun hb => ?_) (fun hb => ?_)
              · have h := ite_t hb h
                repeat refine sat_seq ?_
                refine satO_reg ?_
                have g0 := hA.get (k := 0) rfl
                have g1 := hA.get (k := 1) rfl
                refine satO_step 1 [] ⟨an 2 (.ptr (lv + 1) i2 0 :: .ptr (lv + 1) i4 0 :: .bool false :: .int .i64 x14 :: an 37 (.int .i64 (a0.list.length : Int) :: .int .i64 x14 :: .bool (decide (x14 < (a0.list.length : Int))) :: .int .i64 x14 :: .ptr (lv + 1) i2 5 :: .sl 6 (a0.list.map GValue.el) false :: .int .i64 x14 :: .ref x15.cs 0 :: .agg x15.cs :: .ptr (lv + 1) i4 5 :: .sl 6 (a1.list.map GValue.el) false :: .int .i64 x14 :: .ref x18.cs 0 :: .agg x18.cs :: .bool y21 :: .bool (!y21) :: an 1 [])), ⟨lv + 1, L, E⟩, [], E⟩ [] (by simp -implicitDefEqProofs [GValue.cs, g0, g1]) claims_nil ?_
                refine satO_nil ?_
                repeat refine sat_seq ?_
                refine sat_ret ?_
                have g0 := hA.get (k := 0) rfl
                have g1 := hA.get (k := 1) rfl
                refine ends (v := .bool false) (by simp [resultsV, resL, resV, tupOf, Try.f31, pLoad, g0, g1, GValue.cs]) rfl rfl ?_
                injection h with h
                subst h
                exact (.keep _ (by simp [V.kin, V.kinL, GValue.cs]))
              · have h := ite_f hb h
                repeat refine sat_seq ?_
                refine sat_skip ?_
                repeat refine sat_seq ?_
                refine satO_reg ?_
                have g0 := hA.get (k := 0) rfl
                have g1 := hA.get (k := 1) rfl
                refine satO_step 2 [] ⟨an 2 (.ptr (lv + 1) i2 0 :: .ptr (lv + 1) i4 0 :: an 1 (.int .i64 x14 :: an 37 (.int .i64 (a0.list.length : Int) :: .int .i64 (IntKind.i64.wrap (x14 + 1)) :: .bool (decide (x14 < (a0.list.length : Int))) :: .int .i64 x14 :: .ptr (lv + 1) i2 5 :: .sl 6 (a0.list.map GValue.el) false :: .int .i64 x14 :: .ref x15.cs 0 :: .agg x15.cs :: .ptr (lv + 1) i4 5 :: .sl 6 (a1.list.map GValue.el) false :: .int .i64 x14 :: .ref x18.cs 0 :: .agg x18.cs :: .bool y21 :: .bool (!y21) :: .int .i64 (IntKind.i64.wrap (x14 + 1)) :: []))), ⟨lv + 1, L, E⟩, [], E⟩ [] (by simp -implicitDefEqProofs [GValue.cs, g0, g1]) claims_nil ?_
                refine satO_nil ?_
                refine ⟨n, ⟨an 2 (.ptr (lv + 1) i2 0 :: .ptr (lv + 1) i4 0 :: an 39 (.int .i64 (a0.list.length : Int) :: .int .i64 (IntKind.i64.wrap (x14 + 1)) :: an 15 [])), ⟨lv + 1, L, E⟩, [], E⟩, weak_tmps ?_, ⟨(IntKind.i64.wrap (x14 + 1)), L, by omega, hA, h, rfl⟩, by omega⟩
                (try simp only [an]); repeat (first | exact VLeL.nil | refine VLeL.cons (by first | exact VLe.refl _ | exact VLe.any _ | exact VLe.nil _ _ | (refine VLe.agg' ?_; repeat (first | exact VLeL.nil | refine VLeL.cons (by first | exact VLe.refl _ | exact VLe.any _ | exact VLe.nil _ _) ?_))) ?_)
            · have h := ite_f hb h
              repeat refine sat_seq ?_
              refine sat_exit ?_
              repeat refine sat_seq ?_
              refine satO_reg ?_
              have g0 := hA.get (k := 0) rfl
              have g1 := hA.get (k := 1) rfl
              refine satO_step 1 [] ⟨an 2 (.ptr (lv + 1) i2 0 :: .ptr (lv + 1) i4 0 :: .bool true :: an 38 (.int .i64 (a0.list.length : Int) :: .int .i64 x14 :: .bool (decide (x14 < (a0.list.length : Int))) :: an 14 [])), ⟨lv + 1, L, E⟩, [], E⟩ [] (by simp -implicitDefEqProofs [GValue.cs, g0, g1]) claims_nil ?_
              refine satO_nil ?_
              repeat refine sat_seq ?_
              refine sat_ret ?_
              have g0 := hA.get (k := 0) rfl
              have g1 := hA.get (k := 1) rfl
              refine ends (v := .bool true) (by simp [resultsV, resL, resV, tupOf, Try.f31, pLoad, g0, g1, GValue.cs]) rfl rfl ?_
              injection h with h
              subst h
              exact (.keep _ (by simp [V.kin, V.kinL, GValue.cs]))
end Go.Proofs

namespace Go.Proofs
open Go Go.Ab
set_option maxRecDepth 10000
set_option maxHeartbeats 1000000
set_option linter.unusedSimpArgs false
set_option linter.unusedVariables false
theorem go_slices_EqualFunc_Value_Value_Value_Value__value_Same_ok (n : Nat) (a0 : List GValue) (a1 : List GValue) (r : Bool) (h : go_slices_EqualFunc_Value_Value_Value_Value__value_Same n a0 a1 = some r) : PCall Try.prog 30 [.sl 6 (a0.map GValue.el) false, .sl 6 (a1.map GValue.el) false, .fn 31 [] []] (.bool r) := by
  rcases n with _ | n
  · simp [go_slices_EqualFunc_Value_Value_Value_Value__value_Same] at h
  rw [go_slices_EqualFunc_Value_Value_Value_Value__value_Same] at h
  refine pcall_of Try.func30 rfl Try.ntmps30 (fun _ _ => Try.call30 _ _) fun lv E => ?_
  simp only [List.length_cons, List.length_nil, Nat.reduceAdd, Nat.reduceSub, List.replicate, List.cons_append, List.nil_append]
  have hA := AccG.nil (lv + 1)
  generalize ([] : List (Option AObj)) = L at hA ⊢
  repeat refine sat_seq ?_
  refine satO_reg ?_
  refine satO_step 1 [] ⟨.sl 6 (a0.map GValue.el) false :: .sl 6 (a1.map GValue.el) false :: .fn 31 [] [] :: an 3 (.bool false :: an 25 []), ⟨lv + 1, L, E⟩, [], E⟩ [] (by simp -implicitDefEqProofs []) claims_nil ?_
  refine satO_nil ?_
  repeat refine sat_seq ?_
  refine satO_reg ?_
  refine satO_step 5 [] ⟨.sl 6 (a0.map GValue.el) false :: .sl 6 (a1.map GValue.el) false :: .fn 31 [] [] :: an 3 (.bool false :: an 3 (.sl 6 (a0.map GValue.el) false :: .int .i64 (a0.length : Int) :: .sl 6 (a1.map GValue.el) false :: .int .i64 (a1.length : Int) :: .bool (!((a0.length : Int) == (a1.length : Int))) :: an 17 [])), ⟨lv + 1, L, E⟩, [], E⟩ [] (by simp -implicitDefEqProofs []) claims_nil ?_
  refine satO_nil ?_
  repeat refine sat_seq ?_
  refine sat_cond rfl (fun hb => ?_) (fun hb => ?_)
  · have h := ite_t hb h
    repeat refine sat_seq ?_
    refine satO_reg ?_
    refine satO_step 1 [] ⟨.sl 6 (a0.map GValue.el) false :: .sl 6 (a1.map GValue.el) false :: .fn 31 [] [] :: an 3 (.bool false :: an 3 (.sl 6 (a0.map GValue.el) false :: .int .i64 (a0.length : Int) :: .sl 6 (a1.map GValue.el) false :: .int .i64 (a1.length : Int) :: .bool (!((a0.length : Int) == (a1.length : Int))) :: an 17 [])), ⟨lv + 1, L, E⟩, [], E⟩ [] (by simp -implicitDefEqProofs []) claims_nil ?_
    refine satO_nil ?_
    repeat refine sat_seq ?_
    refine sat_ret ?_
    refine ends (v := .bool false) (by simp [resultsV, resL, resV, tupOf, Try.f30, pLoad]) rfl rfl ?_
    injection h with h
    subst h
    exact (.keep _ (by simp [V.kin, V.kinL]))
  · have h := ite_f hb h
    repeat refine sat_seq ?_
    refine sat_skip ?_
    repeat refine sat_seq ?_
    refine satO_reg ?_
    refine satO_step 3 [] ⟨.sl 6 (a0.map GValue.el) false :: .sl 6 (a1.map GValue.el) false :: .fn 31 [] [] :: an 3 (.bool false :: an 3 (.sl 6 (a0.map GValue.el) false :: .int .i64 (a0.length : Int) :: .sl 6 (a1.map GValue.el) false :: .int .i64 (a1.length : Int) :: .bool (!((a0.length : Int) == (a1.length : Int))) :: .sl 6 (a0.map GValue.el) false :: .int .i64 (a0.length : Int) :: .int .i64 0 :: an 14 [])), ⟨lv + 1, L, E⟩, [], E⟩ [] (by simp -implicitDefEqProofs []) claims_nil ?_
    refine satO_nil ?_
    repeat refine sat_seq ?_
    refine sat_block ?_
    repeat refine sat_seq ?_
    refine sat_loop (fun k σ => ∃ (x1 : Int) (L : List (Option AObj)), k ≤ n ∧ AccG (lv + 1) L [] [] ∧ go_slices_EqualFunc_Value_Value_Value_Value__value_Same_L1 k a0 a1 x1 = some r ∧ σ = ⟨an 1 (.sl 6 (a1.map GValue.el) false :: .fn 31 [] [] :: an 12 (.sl 6 (a0.map GValue.el) false :: .int .i64 (a0.length : Int) :: .int .i64 x1 :: an 14 [])), ⟨lv + 1, L, E⟩, [], E⟩) n ⟨an 1 (.sl 6 (a1.map GValue.el) false :: .fn 31 [] [] :: an 12 (.sl 6 (a0.map GValue.el) false :: .int .i64 (a0.length : Int) :: .int .i64 0 :: an 14 [])), ⟨lv + 1, L, E⟩, [], E⟩ (weak_tmps ?_) ⟨0, L, Nat.le_refl _, hA, h, rfl⟩ ?_
    · (try simp only [an]); repeat (first | exact VLeL.nil | refine VLeL.cons (by first | exact VLe.refl _ | exact VLe.any _ | exact VLe.nil _ _ | (refine VLe.agg' ?_; repeat (first | exact VLeL.nil | refine VLeL.cons (by first | exact VLe.refl _ | exact VLe.any _ | exact VLe.nil _ _) ?_))) ?_)
    · rintro k σ ⟨x1, L, hk, hA, h, rfl⟩
      rcases k with _ | n
      · simp [go_slices_EqualFunc_Value_Value_Value_Value__value_Same_L1] at h
      · rw [go_slices_EqualFunc_Value_Value_Value_Value__value_Same_L1] at h
        repeat refine sat_seq ?_
        refine satO_reg ?_
        refine satO_step 1 [] ⟨an 1 (.sl 6 (a1.map GValue.el) false :: .fn 31 [] [] :: an 12 (.sl 6 (a0.map GValue.el) false :: .int .i64 (a0.length : Int) :: .int .i64 x1 :: .bool (decide (x1 < (a0.length : Int))) :: an 13 [])), ⟨lv + 1, L, E⟩, [], E⟩ [] (by simp -implicitDefEqProofs []) claims_nil ?_
        refine satO_nil ?_
        repeat refine sat_seq ?_
        refine sat_cond rfl (fun hb => ?_) (fun hb => ?_)
        · have h := ite_t hb h
          repeat refine sat_seq ?_
          refine sat_skip ?_
          repeat refine sat_seq ?_
          refine sat_block ?_
          repeat refine sat_seq ?_
          refine satO_reg ?_
          obtain ⟨x2, q3, h⟩ := bnd_hi h
          obtain ⟨q3, q4⟩ := ix_some q3
          refine satO_step 3 [] ⟨an 1 (.sl 6 (a1.map GValue.el) false :: .fn 31 [] [] :: an 12 (.sl 6 (a0.map GValue.el) false :: .int .i64 (a0.length : Int) :: .int .i64 x1 :: .bool (decide (x1 < (a0.length : Int))) :: .int .i64 x1 :: .ref x2.cs 0 :: .agg x2.cs :: an 10 [])), ⟨lv + 1, L, E⟩, [], E⟩ [] (by simp -implicitDefEqProofs [GValue.cs, q3, q4, GValue.el_cs]) claims_nil ?_
          refine satO_step 1 [] ⟨an 1 (.sl 6 (a1.map GValue.el) false :: .fn 31 [] [] :: an 5 (.ptr (lv + 1) L.length 0 :: an 6 (.sl 6 (a0.map GValue.el) false :: .int .i64 (a0.length : Int) :: .int .i64 x1 :: .bool (decide (x1 < (a0.length : Int))) :: .int .i64 x1 :: .ref x2.cs 0 :: .agg x2.cs :: an 10 []))), ⟨lv + 1, (L ++ [some (.cells [.int .u8 0, .int .i64 0, .int .i64 0, .bool false, .str ([]), .nils])]), E⟩, [], E⟩ [] (by simp -implicitDefEqProofs [GValue.cs]) claims_nil ?_
          have hA : AccG (lv + 1) (L ++ [some (.cells [.int .u8 0, .int .i64 0, .int .i64 0, .bool false, .str ([]), .nils])]) [] [(L.length, .cells [.int .u8 0, .int .i64 0, .int .i64 0, .bool false, .str ([]), .nils])] := hA.obj _
          generalize L.length = i6 at hA ⊢
          generalize (L ++ [some (.cells [.int .u8 0, .int .i64 0, .int .i64 0, .bool false, .str ([]), .nils])]) = L at hA ⊢
          have g0 := hA.get (k := 0) rfl
          refine satO_step 1 [] ⟨an 1 (.sl 6 (a1.map GValue.el) false :: .fn 31 [] [] :: an 4 (.int .i64 x1 :: .ptr (lv + 1) i6 0 :: an 6 (.sl 6 (a0.map GValue.el) false :: .int .i64 (a0.length : Int) :: .int .i64 x1 :: .bool (decide (x1 < (a0.length : Int))) :: .int .i64 x1 :: .ref x2.cs 0 :: .agg x2.cs :: an 10 []))), ⟨lv + 1, L, E⟩, [], E⟩ [] (by simp -implicitDefEqProofs [GValue.cs, g0]) claims_nil ?_
          have g0 := hA.get (k := 0) rfl
          refine satO_step 1 [] ⟨an 1 (.sl 6 (a1.map GValue.el) false :: .fn 31 [] [] :: an 4 (.int .i64 x1 :: .ptr (lv + 1) i6 0 :: an 6 (.sl 6 (a0.map GValue.el) false :: .int .i64 (a0.length : Int) :: .int .i64 x1 :: .bool (decide (x1 < (a0.length : Int))) :: .int .i64 x1 :: .ref x2.cs 0 :: .agg x2.cs :: an 10 []))), ⟨lv + 1, (L.set i6 (some (.cells x2.cs))), E⟩, [], E⟩ [] (by simp -implicitDefEqProofs [GValue.cs, g0]) claims_nil ?_
          have hA : AccG (lv + 1) (L.set i6 (some (.cells x2.cs))) [] [(i6, .cells x2.cs)] := hA.upd (k := 0) rfl _
          generalize (L.set i6 (some (.cells x2.cs))) = L at hA ⊢
          refine satO_nil ?_
          repeat refine sat_seq ?_
          refine satO_reg ?_
          obtain ⟨x7, q8, h⟩ := bnd_hi h
          obtain ⟨q8, q9⟩ := ix_some q8
          have g0 := hA.get (k := 0) rfl
          refine satO_step 4 [] ⟨an 1 (.sl 6 (a1.map GValue.el) false :: .fn 31 [] [] :: an 4 (.int .i64 x1 :: .ptr (lv + 1) i6 0 :: an 6 (.sl 6 (a0.map GValue.el) false :: .int .i64 (a0.length : Int) :: .int .i64 x1 :: .bool (decide (x1 < (a0.length : Int))) :: .int .i64 x1 :: .ref x2.cs 0 :: .agg x2.cs :: .sl 6 (a1.map GValue.el) false :: .int .i64 x1 :: .ref x7.cs 0 :: .agg x7.cs :: an 6 []))), ⟨lv + 1, L, E⟩, [], E⟩ [] (by simp -implicitDefEqProofs [GValue.cs, g0, q8, q9, GValue.el_cs]) claims_nil ?_
          refine satO_step 1 [] ⟨an 1 (.sl 6 (a1.map GValue.el) false :: .fn 31 [] [] :: an 4 (.int .i64 x1 :: .ptr (lv + 1) i6 0 :: .ptr (lv + 1) L.length 0 :: an 5 (.sl 6 (a0.map GValue.el) false :: .int .i64 (a0.length : Int) :: .int .i64 x1 :: .bool (decide (x1 < (a0.length : Int))) :: .int .i64 x1 :: .ref x2.cs 0 :: .agg x2.cs :: .sl 6 (a1.map GValue.el) false :: .int .i64 x1 :: .ref x7.cs 0 :: .agg x7.cs :: an 6 []))), ⟨lv + 1, (L ++ [some (.cells [.int .u8 0, .int .i64 0, .int .i64 0, .bool false, .str ([]), .nils])]), E⟩, [], E⟩ [] (by simp -implicitDefEqProofs [GValue.cs]) claims_nil ?_
          have hA : AccG (lv + 1) (L ++ [some (.cells [.int .u8 0, .int .i64 0, .int .i64 0, .bool false, .str ([]), .nils])]) [] [(i6, .cells x2.cs), (L.length, .cells [.int .u8 0, .int .i64 0, .int .i64 0, .bool false, .str ([]), .nils])] := hA.obj _
          generalize L.length = i11 at hA ⊢
          generalize (L ++ [some (.cells [.int .u8 0, .int .i64 0, .int .i64 0, .bool false, .str ([]), .nils])]) = L at hA ⊢
          have g0 := hA.get (k := 0) rfl
          have g1 := hA.get (k := 1) rfl
          refine satO_step 1 [] ⟨an 1 (.sl 6 (a1.map GValue.el) false :: .fn 31 [] [] :: an 4 (.int .i64 x1 :: .ptr (lv + 1) i6 0 :: .ptr (lv + 1) i11 0 :: an 5 (.sl 6 (a0.map GValue.el) false :: .int .i64 (a0.length : Int) :: .int .i64 x1 :: .bool (decide (x1 < (a0.length : Int))) :: .int .i64 x1 :: .ref x2.cs 0 :: .agg x2.cs :: .sl 6 (a1.map GValue.el) false :: .int .i64 x1 :: .ref x7.cs 0 :: .agg x7.cs :: an 6 []))), ⟨lv + 1, (L.set i11 (some (.cells x7.cs))), E⟩, [], E⟩ [] (by simp -implicitDefEqProofs [GValue.cs, g0, g1]) claims_nil ?_
          have hA : AccG (lv + 1) (L.set i11 (some (.cells x7.cs))) [] [(i6, .cells x2.cs), (i11, .cells x7.cs)] := hA.upd (k := 1) rfl _
          generalize (L.set i11 (some (.cells x7.cs))) = L at hA ⊢
          refine satO_nil ?_
          repeat refine sat_seq ?_
          refine satO_reg ?_
          obtain ⟨y12, q13, h⟩ := bnd_hi h
          have g0 := hA.get (k := 0) rfl
          have g1 := hA.get (k := 1) rfl
          refine satO_step 5 [(.bool y12, none)] ⟨an 1 (.sl 6 (a1.map GValue.el) false :: .fn 31 [] [] :: an 4 (.int .i64 x1 :: .ptr (lv + 1) i6 0 :: .ptr (lv + 1) i11 0 :: an 5 (.sl 6 (a0.map GValue.el) false :: .int .i64 (a0.length : Int) :: .int .i64 x1 :: .bool (decide (x1 < (a0.length : Int))) :: .int .i64 x1 :: .ref x2.cs 0 :: .agg x2.cs :: .sl 6 (a1.map GValue.el) false :: .int .i64 x1 :: .ref x7.cs 0 :: .agg x7.cs :: .fn 31 [] [] :: .agg x2.cs :: .agg x7.cs :: .bool y12 :: .bool (!y12) :: an 1 []))), ⟨lv + 1, L, E⟩, [], E⟩ [⟨31, [.agg x2.cs, .agg x7.cs], ⟨lv + 1, L, E⟩, .bool y12, ⟨lv + 1, L, E⟩⟩] (by simp -implicitDefEqProofs [GValue.cs, g0, g1]) (claims_cons (go_value_Same_ok _ _ _ _ q13 _) claims_nil) ?_
          refine satO_nil ?_
          repeat refine sat_seq ?_
          refine sat_cond rfl (fun hb => ?_) (fun hb => ?_)
          · have h := ite_t hb h
            repeat refine sat_seq ?_
            refine satO_reg ?_
            have g0 := hA.get (k := 0) rfl
            have g1 := hA.get (k := 1) rfl
            refine satO_step 1 [] ⟨an 1 (.sl 6 (a1.map GValue.el) false :: .fn 31 [] [] :: an 3 (.bool false :: .int .i64 x1 :: .ptr (lv + 1) i6 0 :: .ptr (lv + 1) i11 0 :: an 5 (.sl 6 (a0.map GValue.el) false :: .int .i64 (a0.length : Int) :: .int .i64 x1 :: .bool (decide (x1 < (a0.length : Int))) :: .int .i64 x1 :: .ref x2.cs 0 :: .agg x2.cs :: .sl 6 (a1.map GValue.el) false :: .int .i64 x1 :: .ref x7.cs 0 :: .agg x7.cs :: .fn 31 [] [] :: .agg x2.cs :: .agg x7.cs :: .bool y12 :: .bool (!y12) :: an 1 []))), ⟨lv + 1, L, E⟩, [], E⟩ [] (by simp -implicitDefEqProofs [GValue.cs, g0, g1]) claims_nil ?_
            refine satO_nil ?_
            repeat refine sat_seq ?_
            refine sat_ret ?_
            have g0 := hA.get (k := 0) rfl
            have g1 := hA.get (k := 1) rfl
            refine ends (v := .bool false) (by simp [resultsV, resL, resV, tupOf, Try.f30, pLoad, g0, g1, GValue.cs]) rfl rfl ?_
            injection h with h
            subst h
            exact (.keep _ (by simp [V.kin, V.kinL, GValue.cs]))
          · have h := ite_f hb h
            repeat refine sat_seq ?_
            refine sat_skip ?_
            repeat refine sat_seq ?_
            refine satO_reg ?_
            have g0 := hA.get (k := 0) rfl
            have g1 := hA.get (k := 1) rfl
            refine satO_step 2 [] ⟨an 1 (.sl 6 (a1.map GValue.el) false :: .fn 31 [] [] :: an 4 (.int .i64 x1 :: .ptr (lv + 1) i6 0 :: .ptr (lv + 1) i11 0 :: an 5 (.sl 6 (a0.map GValue.el) false :: .int .i64 (a0.length : Int) :: .int .i64 (IntKind.i64.wrap (x1 + 1)) :: .bool (decide (x1 < (a0.length : Int))) :: .int .i64 x1 :: .ref x2.cs 0 :: .agg x2.cs :: .sl 6 (a1.map GValue.el) false :: .int .i64 x1 :: .ref x7.cs 0 :: .agg x7.cs :: .fn 31 [] [] :: .agg x2.cs :: .agg x7.cs :: .bool y12 :: .bool (!y12) :: .int .i64 (IntKind.i64.wrap (x1 + 1)) :: []))), ⟨lv + 1, L, E⟩, [], E⟩ [] (by simp -implicitDefEqProofs [GValue.cs, g0, g1]) claims_nil ?_
            refine satO_nil ?_
            have hA : AccG (lv + 1) L [] [] := hA.sel [] (by simp) rfl (.cons _ (.cons _ .slnil))
            refine ⟨n, ⟨an 1 (.sl 6 (a1.map GValue.el) false :: .fn 31 [] [] :: an 12 (.sl 6 (a0.map GValue.el) false :: .int .i64 (a0.length : Int) :: .int .i64 (IntKind.i64.wrap (x1 + 1)) :: an 14 [])), ⟨lv + 1, L, E⟩, [], E⟩, weak_tmps ?_, ⟨(IntKind.i64.wrap (x1 + 1)), L, by omega, hA, h, rfl⟩, by omega⟩
            (try simp only [an]); repeat (first | exact VLeL.nil | refine VLeL.cons (by first | exact VLe.refl _ | exact VLe.any _ | exact VLe.nil _ _ | (refine VLe.agg' ?_; repeat (first | exact VLeL.nil | refine VLeL.cons (by first | exact VLe.refl _ | exact VLe.any _ | exact VLe.nil _ _) ?_))) ?_)
        · have h := ite_f hb h
          repeat refine sat_seq ?_
          refine sat_exit ?_
          repeat refine sat_seq ?_
          refine satO_reg ?_
          refine satO_step 1 [] ⟨an 1 (.sl 6 (a1.map GValue.el) false :: .fn 31 [] [] :: an 3 (.bool true :: an 8 (.sl 6 (a0.map GValue.el) false :: .int .i64 (a0.length : Int) :: .int .i64 x1 :: .bool (decide (x1 < (a0.length : Int))) :: an 13 []))), ⟨lv + 1, L, E⟩, [], E⟩ [] (by simp -implicitDefEqProofs [GValue.cs]) claims_nil ?_
          refine satO_nil ?_
          repeat refine sat_seq ?_
          refine sat_ret ?_
          refine ends (v := .bool true) (by simp [resultsV, resL, resV, tupOf, Try.f30, pLoad, GValue.cs]) rfl rfl ?_
          injection h with h
          subst h
          exact (.keep _ (by simp [V.kin, V.kinL, GValue.cs]))
end Go.Proofs
