/-
  gambrellaw31.EditFollows answers true, and its arguments read as before (a tied card: its listed variables hold what the program lays), where they hold together at most 1048576 values and letters.
-/
import Derived.Test.YtoimblncdeimoaaDoorWalk3
import Derived.Test.YtoimblncdeimoaaDoorReads
import Derived.Test.YtoimblncdeimoaaDoorP31
import Derived.Test.YtoimblncdeimoaaDoorCards
import Derived.Test.YtoimblncdeimoaaDoorTie
import Derived.WalkKit
import Derived.ProofKit
import Derived.Deep.DeepHandedRow
import Derived.Lib.LaidTab
import Derived.Test.YtoimblncdeimoaaDoorChecked
namespace Go.Proofs.YtoimblncdeimoaaDoor
open Go Go.Ab

mutual
theorem bulk_eq {H : Type} : ∀ d : DataW H, Rows.uptoBulk d = bulk d
  | .lit .nil | .lit (.string _) | .lit (.int ..) | .lit (.bool _) | .lit (.float ..) | .nil | .held _ => rfl
  | .ptr d | .iface _ d => by simp only [Rows.uptoBulk, bulk]; rw [bulk_eq d]
  | .slice es sp => by simp only [Rows.uptoBulk, bulk]; rw [bulkAll_eq es, bulkAll_eq sp]
  | .agg ps => by simp only [Rows.uptoBulk, bulk]; rw [bulkAll_eq ps]
  | .map es => by simp only [Rows.uptoBulk, bulk]; rw [bulkEntries_eq es]
theorem bulkAll_eq {H : Type} : ∀ ds : List (DataW H), Rows.uptoBulkAll ds = bulkAll ds
  | [] => rfl
  | d :: r => by simp only [Rows.uptoBulkAll, bulkAll]; rw [bulk_eq d, bulkAll_eq r]
theorem bulkEntries_eq {H : Type} : ∀ es : List (Lit × DataW H), Rows.uptoBulkEntries es = bulkEntries es
  | [] => rfl
  | x :: r => by simp only [Rows.uptoBulkEntries, bulkEntries]; rw [bulkEntry_eq x, bulkEntries_eq r]
theorem bulkEntry_eq {H : Type} : ∀ x : Lit × DataW H, Rows.uptoBulkEntry x = bulkEntry x
  | (.nil, d) | (.string _, d) | (.int .., d) | (.bool _, d) | (.float .., d) => by simp only [Rows.uptoBulkEntry, bulkEntry]; rw [bulk_eq d]
end

theorem laidOut : laidOutB Tryd.prog = true := by kernel_rfl
theorem own : ownKnob Tryd.prog.godebug = none := by kernel_rfl

set_option maxRecDepth 100000 in
theorem contract (H : Type) (enc : TypeId × Value → H) (W : World) (base : Nat) (args : Array Value) (ds gs : List (DataW H)) (before : List MemPlace)
    (hval : ∀ (j : Nat) t v, Tryd.f3.params[j]? = some t → args[j]? = some v → Value.okWide Tryd.prog W .any base t v)
    (hW : DataW.Whole enc Tryd.prog Tryd.f3.params.toList Rows.editFollowsSpec.vars false W args.toList ds gs before) (hk : Rows.uptoSmall H (ds ++ gs) = true) :
    Calls Tryd.prog 3 args W fun e W' => ∃ v, e = .returned v ∧ Rows.editFollowsSpec.post enc Tryd.prog Tryd.f3 false true false false W args v W' := by
  have hW' := hW
  obtain ⟨p, q, hA, hV, rfl, _, _⟩ := hW
  rw [Tryd.params3] at hA hval
  obtain ⟨rfl, _⟩ := ChangeShapes.trodVars_none hV
  obtain ⟨v0, vs0, d0, ds0, p0, q0, hargs, rfl, rfl, h0, r0⟩ := ChangeShapes.trodAll_cons hA
  obtain ⟨v1, vs1, d1, ds1, p1, q1, rfl, rfl, rfl, h1, r1⟩ := ChangeShapes.trodAll_cons r0
  obtain ⟨v2, vs2, d2, ds2, p2, q2, rfl, rfl, rfl, h2, r2⟩ := ChangeShapes.trodAll_cons r1
  obtain ⟨rfl, rfl, rfl⟩ := ChangeShapes.trodAll_nil r2
  obtain rfl : args = #[v0, v1, v2] := by cases args; simp_all
  obtain ⟨x0, k0, _, s0⟩ := Tryd.arg22.get enc W base v0 d0 p0 h0 (hval 0 22 v0 rfl rfl)
  obtain ⟨x1, k1, _, s1⟩ := Tryd.arg9.get enc W base v1 d1 p1 h1 (hval 1 9 v1 rfl rfl)
  obtain ⟨x2, k2, _, s2⟩ := Tryd.arg9.get enc W base v2 d2 p2 h2 (hval 2 9 v2 rfl rfl)
  have w0 : (x0.map GOver.size).sum ≤ bulk d0 := by
    simp only [Ty.slice] at s0
    show (x0.map GOver.ty.size).sum ≤ _; omega
  have w1 : x1.length ≤ bulk d1 := by simp only [Ty.str] at s1; omega
  have w2 : x2.length ≤ bulk d2 := by simp only [Ty.str] at s2; omega
  have hb : bulkAll [d0, d1, d2] ≤ 1048576 := by rw [← bulkAll_eq]; simpa [Rows.uptoSmall] using hk
  simp only [bulkAll] at hb
  have w : (x0.map GOver.size).sum + x1.length + x2.length ≤ 1048576 := by
    refine Nat.le_trans (?_ : _ ≤ bulk d0 + bulk d1 + bulk d2) (by omega)
    exact Nat.add_le_add (Nat.add_le_add (w0) w1) w2
  obtain ⟨n, hn⟩ := follows_plain x0 x1 x2 w
  have hp := go_gambrellaw31_EditFollows_ok n x0 x1 x2 true hn
  refine (law_calls (hp H0) (fun _ _ => Tryd.call3 _ _) (relA_of (cs := [v0, v1, v2]) rfl fun j v hj => ?_)).mono fun e W' ⟨he, hg⟩ => ?_
  · match j with
    | 0 => simp at hj; subst hj; exact ⟨v0, rfl, k0⟩
    | 1 => simp at hj; subst hj; exact ⟨v1, rfl, k1⟩
    | 2 => simp at hj; subst hj; exact ⟨v2, rfl, k2⟩
    | j + 3 => simp at hj
  · exact ⟨_, he, law_post laidOut rfl (by rw [Tryd.params3]; intro t ht; simp at ht; rcases ht with rfl | rfl | rfl <;> exact ⟨by kernel_rfl, of_decide_eq_true (by kernel_rfl)⟩) (by kernel_rfl) Tryd.underlying4 ⟨rfl, rfl, rfl⟩ hW' hg⟩

/-- a world for the witness: the settled one, the listed variables holding what the program lays -/
noncomputable def laidWorld (os : Os) : World := { World.holding Tryd.prog os ⟨#[], #[], []⟩ with heap := (((World.holding Tryd.prog os ⟨#[], #[], []⟩).heap.modify 1 fun
      | .cells _ t frozen => .cells (Go.Pinned.utf8FirstZ.map fun (n : Nat) => Value.int .u8 n).toArray t frozen
      | o => o).modify 2 fun
      | .cells _ t frozen => .cells #[.int .u8 128, .int .u8 191, .int .u8 160, .int .u8 191, .int .u8 128, .int .u8 159, .int .u8 144, .int .u8 191, .int .u8 128, .int .u8 143, .int .u8 0, .int .u8 0, .int .u8 0, .int .u8 0, .int .u8 0, .int .u8 0, .int .u8 0, .int .u8 0, .int .u8 0, .int .u8 0, .int .u8 0, .int .u8 0, .int .u8 0, .int .u8 0, .int .u8 0, .int .u8 0, .int .u8 0, .int .u8 0, .int .u8 0, .int .u8 0, .int .u8 0, .int .u8 0] t frozen
      | o => o) }
set_option maxRecDepth 100000 in
theorem laid_met (os : Os) : laidMet Tryd.prog Rows.editFollowsUptoRow.laid ((laidWorld os).forCall (fun _ _ => 0) ⟨#[], #[.slice none 0 0, .string ⟨#[]⟩, .string ⟨#[]⟩], []⟩).memory :=
  laidMet_of_run' 8 (by kernel_rfl) (by kernel_rfl)
theorem reads (os : Os) {H : Type} (enc : TypeId × Value → H) : ∃ places, DataW.whole enc Tryd.prog ((laidWorld os).forCall (fun _ _ => 0) ⟨#[], #[.slice none 0 0, .string ⟨#[]⟩, .string ⟨#[]⟩], []⟩).memory Tryd.f3.params.toList Rows.editFollowsSpec.vars false (#[.slice none 0 0, .string ⟨#[]⟩, .string ⟨#[]⟩] : Array Value).toList 8 = some ([.nil, .lit (.string []), .lit (.string [])], [], places) :=
  ⟨[], by kernel_rfl⟩

set_option maxRecDepth 100000 in
theorem lifted (os : Os) (started : os.Started) (H : Type) (enc : TypeId × Value → H) (F : Stop.Interp) :
    ReturnsInHanded {} Tryd.checked os 3 .any ((Rows.OpenSpec.upto Rows.editFollowsSpec).preRow enc Tryd.prog Tryd.f3 Rows.editFollowsUptoRow.domain false Rows.editFollowsUptoRow.laid) (((Rows.OpenSpec.upto Rows.editFollowsSpec).at F).post enc Tryd.prog Tryd.f3 false true false false) := by
  obtain ⟨places, hx⟩ := reads os enc
  refine returnsInHanded_of_row (C := Tryd.checked) (s := Rows.OpenSpec.upto Rows.editFollowsSpec) own started (by kernel_rfl) Tryd.func3
    (witness_row_at (enc := enc) (C := Tryd.checked) false (laidWorld os) #[.slice none 0 0, .string ⟨#[]⟩, .string ⟨#[]⟩] rfl (by kernel_rfl) (by kernel_rfl) (by kernel_rfl)
      (OpenSpec.preRow_of_cond 8 hx (by kernel_rfl) (fun k hk => by cases hk; kernel_rfl) (by kernel_rfl) (laid_met os))) ?_
  intro W base args ds gs before hval hW _ hcond _ hL _ _
  exact contract H enc W base args ds gs before hval hW (hcond _ rfl)

theorem saidUpto : Rows.EditFollowsUptoSaid :=
  OpenClaim.holds_of_cond 3 Tryd.f3 rfl rfl rfl rfl rfl rfl rfl ⟨rfl, rfl, rfl, rfl, rfl⟩ rfl rfl rfl rfl rfl (by kernel_rfl) Tryd.func3 (by kernel_rfl)
    (of_decide_eq_true (by kernel_rfl)) (by unfold Func.isWrapper; first | (rw [if_pos (by decide +kernel)]; kernel_rfl) | (rw [if_neg (by decide +kernel)]; exact ⟨rfl, rfl⟩))
    (fun os started H enc _ F => by rw [OpenClaim.pre_eq_preRow]; exact lifted os started H enc F)

/-- no parameter wants a stand-in; the program's own looks are off -/
theorem plainLooks (f : FuncId) (fn : Func) (hf : Tryd.pinned.checked.prog.funcNamed Rows.editFollowsUptoRow.func = some f) (hfn : Tryd.pinned.checked.prog.funcs[f]? = some fn) :
    false = Tryd.pinned.checked.prog.looks [] ∧ ∀ (j : Nat) t, fn.params[j]? = some t → Tryd.pinned.checked.prog.wantsStandIn t = false := by
  obtain rfl : f = 3 := Option.some.inj ((show Tryd.prog.funcNamed Rows.editFollowsUptoRow.func = some 3 by kernel_rfl).symm.trans hf) |>.symm
  obtain rfl : fn = Tryd.f3 := (Option.some.inj (Tryd.func3.symm.trans hfn)).symm
  refine ⟨by kernel_rfl, fun j t ht => ?_⟩
  rw [Tryd.params3] at ht
  have hm := Array.mem_of_getElem? ht
  have hall : ∀ t ∈ #[22, 9, 9], Tryd.prog.wantsStandIn t = false := by
    intro t ht
    simp at ht
    rcases ht with rfl | rfl | rfl <;> kernel_rfl
  exact hall t hm

theorem proved : Rows.EditFollowsUptoCardSaid :=
  Claim7.holds_tied_plain_at .later [] _ _ _ _ saidUpto (fun _ h => by cases h) (by kernel_rfl) (fun _ h => by cases h) editFollowsUpto_row_tie rfl ⟨rfl, rfl⟩ (by kernel_rfl) rfl plainLooks (by kernel_rfl)
#print axioms proved
end Go.Proofs.YtoimblncdeimoaaDoor
