/-
  gambrellaw04.ExprEvals answers true, and its arguments read as before, where they hold together at most 1048576 values and letters.
-/
import Derived.Test.YtfhpamcehnfhoaaGreatOwn2
import Derived.Test.YtfhpamcehnfhoaaGreatOwn4
import Derived.Test.YtfhpamcehnfhoaaGreatRows
import Derived.Test.YtfhpamcehnfhoaaGreatChecked
namespace Go.Proofs.YtfhpamcehnfhoaaGreat
open Go Go.Ab
mutual
theorem bulk_eq {H : Type} : ∀ d : DataW H, Rows.uptoBulk d = bulk d
  | .lit .nil | .lit (.string _) | .lit (.int ..) | .lit (.bool _) | .lit (.float ..) | .nil | .held _ => rfl
  | .ptr d | .iface _ d => by simp only [Rows.uptoBulk, bulk]; rw [bulk_eq d]
  | .slice es sp => by simp only [Rows.uptoBulk, bulk]; rw [bulkAll_eq es, bulkAll_eq sp]
  | .agg ps => by simp only [Rows.uptoBulk, bulk]; rw [bulkAll_eq ps]
  | .map es => by simp only [Rows.uptoBulk, bulk]; rw [bulkEntries_eq es]
theorem bulkAll_eq {H : Type} : ∀ ds : List (DataW H), Rows.uptoBulkAll ds = bulkAll ds
  | [] => rfl
  | d :: r => by simp only [Rows.uptoBulkAll, bulkAll]; rw [bulk_eq d, bulkAll_eq r]
theorem bulkEntries_eq {H : Type} : ∀ es : List (Lit × DataW H), Rows.uptoBulkEntries es = bulkEntries es
  | [] => rfl
  | x :: r => by simp only [Rows.uptoBulkEntries, bulkEntries]; rw [bulkEntry_eq x, bulkEntries_eq r]
theorem bulkEntry_eq {H : Type} : ∀ x : Lit × DataW H, Rows.uptoBulkEntry x = bulkEntry x
  | (.nil, d) | (.string _, d) | (.int .., d) | (.bool _, d) | (.float .., d) => by simp only [Rows.uptoBulkEntry, bulkEntry]; rw [bulk_eq d]
end
theorem laidOut : laidOutB Tryz.prog = true := by kernel_rfl
theorem own : ownKnob Tryz.prog.godebug = none := by kernel_rfl
set_option maxRecDepth 100000 in
theorem contract (H : Type) (enc : TypeId × Value → H) (W : World) (base : Nat) (args : Array Value) (ds gs : List (DataW H)) (before : List MemPlace)
    (hval : ∀ (j : Nat) t v, Tryz.f4.params[j]? = some t → args[j]? = some v → Value.okWide Tryz.prog W .any base t v)
    (hW : DataW.Whole enc Tryz.prog Tryz.f4.params.toList Rows.exprEvalsSpec.vars false W args.toList ds gs before) (hk : Rows.uptoSmall H (ds ++ gs) = true) :
    Calls Tryz.prog 4 args W fun e W' => ∃ v, e = .returned v ∧ Rows.exprEvalsSpec.post enc Tryz.prog Tryz.f4 false true false false W args v W' := by
  have hW' := hW
  obtain ⟨p, q, hA, hV, rfl, _, _⟩ := hW
  rw [Tryz.params4] at hA hval
  obtain ⟨rfl, _⟩ := ChangeShapes.trodVars_none hV
  obtain ⟨v0, vs0, d0, ds0, p0, q0, hargs, rfl, rfl, h0, r0⟩ := ChangeShapes.trodAll_cons hA
  obtain ⟨v1, vs1, d1, ds1, p1, q1, rfl, rfl, rfl, h1, r1⟩ := ChangeShapes.trodAll_cons r0
  obtain ⟨rfl, rfl, rfl⟩ := ChangeShapes.trodAll_nil r1
  obtain rfl : args = #[v0, v1] := by cases args; simp_all
  obtain ⟨x0, k0, g0, s0⟩ := Tryz.arg29.get enc W base v0 d0 p0 h0 (hval 0 29 v0 rfl rfl)
  obtain ⟨x1, k1, g1, s1⟩ := Tryz.arg43.get enc W base v1 d1 p1 h1 (hval 1 43 v1 rfl rfl)
  have w0 : x0.size ≤ bulk d0 := s0
  have w1 : (x1.map GBind.size).sum ≤ bulk d1 := by
    simp only [Ty.slice] at s1
    show (x1.map GBind.ty.size).sum ≤ _; omega
  have hb : bulkAll [d0, d1] ≤ 1048576 := by rw [← bulkAll_eq]; simpa [Rows.uptoSmall] using hk
  simp only [bulkAll] at hb
  have w : x0.size + (x1.map GBind.size).sum ≤ 1048576 := by
    refine Nat.le_trans (?_ : _ ≤ bulk d0 + bulk d1) (by omega)
    exact Nat.add_le_add (w0) w1
  obtain ⟨n, hn⟩ := evals_plain x0 x1 g0 g1 w
  have hp := go_gambrellaw04_ExprEvals_pc n x0 x1 true hn
  refine (law_calls (hp H0) (fun _ _ => Tryz.call4 _ _) (relA_of (cs := [v0, v1]) rfl fun j v hj => ?_)).mono fun e W' ⟨he, hg⟩ => ?_
  · match j with
    | 0 => simp at hj; subst hj; exact ⟨v0, rfl, k0⟩
    | 1 => simp at hj; subst hj; exact ⟨v1, rfl, k1⟩
    | j + 2 => simp at hj
  · exact ⟨_, he, law_post laidOut rfl (by rw [Tryz.params4]; intro t ht; simp at ht; rcases ht with rfl | rfl <;> exact ⟨by kernel_rfl, of_decide_eq_true (by kernel_rfl)⟩) (by kernel_rfl) Tryz.underlying4 ⟨rfl, rfl, rfl⟩ hW' hg⟩
set_option maxRecDepth 100000 in
theorem lifted (os : Os) (started : os.Started) (H : Type) (enc : TypeId × Value → H) (F : Stop.Interp) :
    ReturnsInHanded {} Tryz.checked os 4 .any ((Rows.OpenSpec.upto Rows.exprEvalsSpec).pre6 enc Tryz.prog Tryz.f4 Rows.exprEvalsUptoRow.domain false) (((Rows.OpenSpec.upto Rows.exprEvalsSpec).at F).post enc Tryz.prog Tryz.f4 false true false false) := by
  refine returnsInHanded_of_cond (C := Tryz.checked) (s := Rows.OpenSpec.upto Rows.exprEvalsSpec) (k := Rows.uptoSmall) rfl own started (by kernel_rfl) Tryz.func4
    (OpenSpec.witness (enc := enc) (C := Tryz.checked) (s := Rows.OpenSpec.upto Rows.exprEvalsSpec) (k := Rows.uptoSmall) rfl false ⟨#[], #[.agg #[.int .u8 0, .int .u8 0, .int .i64 0, .int .i64 0, .bool false, .string ⟨#[]⟩, .slice none 0 0, .string ⟨#[]⟩, .slice none 0 0], .slice none 0 0], []⟩ 8 (by kernel_rfl) (by kernel_rfl) (by kernel_rfl)
      (x := ([.agg [.lit (.int .u8 0), .agg [.lit (.int .u8 0), .agg [.lit (.int .i64 0), .lit (.int .i64 0)], .lit (.bool false), .lit (.string []), .nil], .lit (.string []), .nil], .nil], [], [])) (by kernel_rfl) rfl (by kernel_rfl)) ?_
  intro W base args ds gs before hval hW _ hk _
  exact contract H enc W base args ds gs before hval hW hk
theorem proved : Rows.ExprEvalsUptoSaid :=
  OpenClaim.holds_of_cond 4 Tryz.f4 rfl rfl rfl rfl rfl rfl rfl ⟨rfl, rfl, rfl, rfl, rfl⟩ rfl rfl rfl rfl rfl (by kernel_rfl) Tryz.func4 (by kernel_rfl)
    (of_decide_eq_true (by kernel_rfl)) (by unfold Func.isWrapper; first | (rw [if_pos (by decide +kernel)]; kernel_rfl) | (rw [if_neg (by decide +kernel)]; exact ⟨rfl, rfl⟩))
    (fun os started H enc _ F => lifted os started H enc F)
#print axioms proved
end Go.Proofs.YtfhpamcehnfhoaaGreat
