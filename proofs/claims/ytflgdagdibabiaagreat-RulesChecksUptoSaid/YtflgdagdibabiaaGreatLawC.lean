/-
  gambrellaw25.RulesChecks answers true, and its arguments read as before, where they hold together at most 1048576 values and letters.
-/
import Derived.Test.YtflgdagdibabiaaGreatOwn2
import Derived.Test.YtflgdagdibabiaaGreatOwn4
import Derived.Test.YtflgdagdibabiaaGreatRows
import Derived.Test.YtflgdagdibabiaaGreatChecked
namespace Go.Proofs.YtflgdagdibabiaaGreat
open Go Go.Ab
mutual
theorem ygh {H : Type} : ∀ d : DataW H, Rows.uptoBulk d = ziz d
 | .lit .nil | .lit (.string _) | .lit (.int ..) | .lit (.bool _) | .lit (.float ..) | .nil | .held _ => rfl
 | .ptr d | .iface _ d => by simp only [Rows.uptoBulk, ziz]; rw [ygh d]
 | .slice es sp => by simp only [Rows.uptoBulk, ziz]; rw [zkn es, zkn sp]
 | .agg ps => by simp only [Rows.uptoBulk, ziz]; rw [zkn ps]
 | .map es => by simp only [Rows.uptoBulk, ziz]; rw [zqw es]
theorem zkn {H : Type} : ∀ ds : List (DataW H), Rows.uptoBulkAll ds = zfr ds
 | [] => rfl
 | d :: r => by simp only [Rows.uptoBulkAll, zfr]; rw [ygh d, zkn r]
theorem zqw {H : Type} : ∀ es : List (Lit × DataW H), Rows.uptoBulkEntries es = zmd es
 | [] => rfl
 | x :: r => by simp only [Rows.uptoBulkEntries, zmd]; rw [yfz x, zqw r]
theorem yfz {H : Type} : ∀ x : Lit × DataW H, Rows.uptoBulkEntry x = zxd x
 | (.nil, d) | (.string _, d) | (.int .., d) | (.bool _, d) | (.float .., d) => by simp only [Rows.uptoBulkEntry, zxd]; rw [ygh d]
end
theorem laidOut : laidOutB Tryz.prog = true := by kernel_rfl
theorem ownGd : ownKnob Tryz.prog.godebug = none := by kernel_rfl
theorem yqx {W : World} {g : Gh} {H : yz3} : zkm W g H := ⟨fun k cs h => (by cases h), fun k h => (by cases h)⟩
set_option maxRecDepth 100000 in
theorem zx7 (H : Type) (enc : TypeId × Value → H) (W : World) (base : Nat) (args : Array Value) (ds gs : List (DataW H)) (before : List MemPlace)
  (hval : ∀ (j : Nat) t v, Tryz.f3.params[j]? = some t → args[j]? = some v → Value.okWide Tryz.prog W .any base t v)
  (hW : DataW.Whole enc Tryz.prog Tryz.f3.params.toList Rows.rulesChecksSpec.vars false W args.toList ds gs before) (hk : Rows.uptoSmall H (ds ++ gs) = true) :
  Calls Tryz.prog 3 args W fun e W' => ∃ v, e = .returned v ∧ Rows.rulesChecksSpec.post enc Tryz.prog Tryz.f3 false true false false W args v W' := by
 have hW' := hW
 obtain ⟨p, q, hA, hV, rfl, _, _⟩ := hW
 rw [Tryz.params3] at hA hval
 obtain ⟨rfl, _⟩ := ChangeShapes.trodVars_none hV
 obtain ⟨v0, vs0, d0, ds0, p0, q0, hargs, rfl, rfl, h0, r0⟩ := ChangeShapes.trodAll_cons hA
 obtain ⟨v1, vs1, d1, ds1, p1, q1, rfl, rfl, rfl, h1, r1⟩ := ChangeShapes.trodAll_cons r0
 obtain ⟨v2, vs2, d2, ds2, p2, q2, rfl, rfl, rfl, h2, r2⟩ := ChangeShapes.trodAll_cons r1
 obtain ⟨rfl, rfl, rfl⟩ := ChangeShapes.trodAll_nil r2
 obtain rfl : args = #[v0, v1, v2] := by cases args; simp_all
 obtain ⟨x0, k0, g0, s0⟩ := Tryz.yuf.get enc W base v0 d0 p0 h0 (hval 0 25 v0 rfl rfl)
 obtain ⟨x1, k1, g1, s1⟩ := Tryz.yuf.get enc W base v1 d1 p1 h1 (hval 1 25 v1 rfl rfl)
 obtain ⟨x2, k2, g2, s2⟩ := Tryz.arg9.get enc W base v2 d2 p2 h2 (hval 2 9 v2 rfl rfl)
 have w0 : x0.size ≤ ziz d0 := s0
 have w1 : x1.size ≤ ziz d1 := s1
 have w2 : x2.length ≤ ziz d2 := by simp only [Ty.str] at s2; omega
 have hb : zfr [d0, d1, d2] ≤ 1048576 := by rw [← zkn]; simpa [Rows.uptoSmall] using hk
 simp only [zfr] at hb
 have w : x0.size + x1.size + x2.length ≤ 1048576 := by
  refine Nat.le_trans (?_ : _ ≤ ziz d0 + ziz d1 + ziz d2) (by omega)
  exact Nat.add_le_add (Nat.add_le_add (w0) w1) w2
 obtain ⟨n, hn⟩ := yed x0 x1 x2 g0 g1 w
 have hp := zig n x0 x1 x2 true hn
 refine (ypn (hp H0) (fun _ _ => Tryz.call3 _ _) (ytk (cs := [v0, v1, v2]) rfl fun j v hj => ?_) yqx).mono fun e W' ⟨he, hg⟩ => ?_
 ·match j with
  | 0 => simp at hj; subst hj; exact ⟨v0, rfl, k0⟩
  | 1 => simp at hj; subst hj; exact ⟨v1, rfl, k1⟩
  | 2 => simp at hj; subst hj; exact ⟨v2, rfl, k2⟩
  | j + 3 => simp at hj
 ·exact ⟨_, he, yrw laidOut rfl (by rw [Tryz.params3]; intro t ht; simp at ht; rcases ht with rfl | rfl | rfl <;> exact ⟨by kernel_rfl, of_decide_eq_true (by kernel_rfl)⟩) (by kernel_rfl) Tryz.underlying4 ⟨rfl, rfl, rfl⟩ hW' hg⟩
set_option maxRecDepth 100000 in
theorem lifted (os : Os) (started : os.Started) (H : Type) (enc : TypeId × Value → H) (F : Stop.Interp) :
  ReturnsInHanded {} Tryz.checked os 3 .any ((Rows.OpenSpec.upto Rows.rulesChecksSpec).pre6 enc Tryz.prog Tryz.f3 Rows.rulesChecksUptoRow.domain false) (((Rows.OpenSpec.upto Rows.rulesChecksSpec).at F).post enc Tryz.prog Tryz.f3 false true false false) := by
 refine returnsInHanded_of_cond (C := Tryz.checked) (s := Rows.OpenSpec.upto Rows.rulesChecksSpec) (k := Rows.uptoSmall) rfl ownGd started (by kernel_rfl) Tryz.func3
  (OpenSpec.witness (enc := enc) (C := Tryz.checked) (s := Rows.OpenSpec.upto Rows.rulesChecksSpec) (k := Rows.uptoSmall) rfl false ⟨#[], #[.agg #[.slice none 0 0, .slice none 0 0], .agg #[.slice none 0 0, .slice none 0 0], .string ⟨#[]⟩], []⟩ 8 (by kernel_rfl) (by kernel_rfl) (by kernel_rfl)
   (x := ([.agg [.nil, .nil], .agg [.nil, .nil], .lit (.string [])], [], [])) (by kernel_rfl) rfl (by kernel_rfl)) ?_
 intro W base args ds gs before hval hW _ hk _
 exact zx7 H enc W base args ds gs before hval hW hk
theorem proved : Rows.RulesChecksUptoSaid :=
 OpenClaim.holds_of_cond 3 Tryz.f3 rfl rfl rfl rfl rfl rfl rfl ⟨rfl, rfl, rfl, rfl, rfl⟩ rfl rfl rfl rfl rfl (by kernel_rfl) Tryz.func3 (by kernel_rfl)
  (of_decide_eq_true (by kernel_rfl)) (by unfold Func.isWrapper; first | (rw [if_pos (by decide +kernel)]; kernel_rfl) | (rw [if_neg (by decide +kernel)]; exact ⟨rfl, rfl⟩))
  (fun os started H enc _ F => lifted os started H enc F)
#print axioms proved
end Go.Proofs.YtflgdagdibabiaaGreat

