/-
  BINARY OPERATIONS, a law each.
-/
import Derived.Test.YtfhpamcehnfhoaaGreatDoorAbAcc
namespace Go.Ab
open Go
set_option linter.unusedSimpArgs false
set_option linter.unusedVariables false
section
variable {P : Program}
@[simp] theorem pBin_i_add (t : Nat) (k : IntKind) (a b : Int) : pBin P .add t (.int k a) (.int k b) = intBin .add k a b := by unfold pBin; simp
@[simp] theorem pBin_i_sub (t : Nat) (k : IntKind) (a b : Int) : pBin P .sub t (.int k a) (.int k b) = intBin .sub k a b := by unfold pBin; simp
@[simp] theorem pBin_i_mul (t : Nat) (k : IntKind) (a b : Int) : pBin P .mul t (.int k a) (.int k b) = intBin .mul k a b := by unfold pBin; simp
@[simp] theorem pBin_i_quo (t : Nat) (k : IntKind) (a b : Int) : pBin P .quo t (.int k a) (.int k b) = intBin .quo k a b := by unfold pBin; simp
@[simp] theorem pBin_i_rem (t : Nat) (k : IntKind) (a b : Int) : pBin P .rem t (.int k a) (.int k b) = intBin .rem k a b := by unfold pBin; simp
@[simp] theorem pBin_i_eql (t : Nat) (k : IntKind) (a b : Int) : pBin P .eql t (.int k a) (.int k b) = intBin .eql k a b := by unfold pBin; simp
@[simp] theorem pBin_i_neq (t : Nat) (k : IntKind) (a b : Int) : pBin P .neq t (.int k a) (.int k b) = intBin .neq k a b := by unfold pBin; simp
@[simp] theorem pBin_i_lss (t : Nat) (k : IntKind) (a b : Int) : pBin P .lss t (.int k a) (.int k b) = intBin .lss k a b := by unfold pBin; simp
@[simp] theorem pBin_i_leq (t : Nat) (k : IntKind) (a b : Int) : pBin P .leq t (.int k a) (.int k b) = intBin .leq k a b := by unfold pBin; simp
@[simp] theorem pBin_i_gtr (t : Nat) (k : IntKind) (a b : Int) : pBin P .gtr t (.int k a) (.int k b) = intBin .gtr k a b := by unfold pBin; simp
@[simp] theorem pBin_i_geq (t : Nat) (k : IntKind) (a b : Int) : pBin P .geq t (.int k a) (.int k b) = intBin .geq k a b := by unfold pBin; simp
@[simp] theorem pBin_i_and (t : Nat) (k : IntKind) (a b : Int) : pBin P .and t (.int k a) (.int k b) = intBin .and k a b := by unfold pBin; simp
@[simp] theorem pBin_i_or (t : Nat) (k : IntKind) (a b : Int) : pBin P .or t (.int k a) (.int k b) = intBin .or k a b := by unfold pBin; simp
@[simp] theorem pBin_i_xor (t : Nat) (k : IntKind) (a b : Int) : pBin P .xor t (.int k a) (.int k b) = intBin .xor k a b := by unfold pBin; simp
@[simp] theorem pBin_i_andNot (t : Nat) (k : IntKind) (a b : Int) : pBin P .andNot t (.int k a) (.int k b) = intBin .andNot k a b := by unfold pBin; simp
@[simp] theorem pBin_i_shl (t : Nat) (k k' : IntKind) (a b : Int) : pBin P .shl t (.int k a) (.int k' b) = if b < 0 then none else some (.int k (k.wrap (a * 2 ^ (min b.toNat k.bits)))) := by unfold pBin; simp
@[simp] theorem pBin_i_shr (t : Nat) (k k' : IntKind) (a b : Int) : pBin P .shr t (.int k a) (.int k' b) = if b < 0 then none else some (.int k (a.fdiv (2 ^ (min b.toNat k.bits)))) := by unfold pBin; simp
@[simp] theorem pBin_s (op : BinOp) (t : Nat) (a b : List UInt8) : pBin P op t (.str a) (.str b) = strBin op a b := by unfold pBin; simp
theorem pBin_b_eql {t : Nat} (h : P.underlying t = some .bool) (a b : Bool) : pBin P .eql t (.bool a) (.bool b) = some (.bool (a == b)) := by unfold pBin; simp [V.odd, plainEq, eqv, h]
theorem pBin_p0_eql {t : Nat} {e : Nat} (h : P.underlying t = some (.pointer e))  : pBin P .eql t .nilp .nilp = some (.bool true) := by unfold pBin; simp [V.odd, plainEq, eqv, h]
theorem pBin_p1_eql {t : Nat} {e : Nat} (h : P.underlying t = some (.pointer e)) (l : Nat) (i : Nat) (o : Nat) : pBin P .eql t (.ptr l i o) .nilp = some (.bool false) := by unfold pBin; simp [V.odd, plainEq, eqv, h]
theorem pBin_p2_eql {t : Nat} {e : Nat} (h : P.underlying t = some (.pointer e)) (l : Nat) (i : Nat) (o : Nat) : pBin P .eql t .nilp (.ptr l i o) = some (.bool false) := by unfold pBin; simp [V.odd, plainEq, eqv, h]
theorem pBin_p3_eql {t : Nat} {e : Nat} (h : P.underlying t = some (.pointer e)) (o : Nat) (cs : List V) : pBin P .eql t (.ref cs o) .nilp = some (.bool false) := by unfold pBin; simp [V.odd, plainEq, eqv, h]
theorem pBin_p4_eql {t : Nat} {e : Nat} (h : P.underlying t = some (.pointer e)) (o : Nat) (cs : List V) : pBin P .eql t .nilp (.ref cs o) = some (.bool false) := by unfold pBin; simp [V.odd, plainEq, eqv, h]
theorem pBin_m0_eql {t : Nat} {k e : Nat} (h : P.underlying t = some (.map k e))  : pBin P .eql t .mapn .mapn = some (.bool true) := by unfold pBin; simp [V.odd, plainEq, eqv, h]
theorem pBin_m1_eql {t : Nat} {k e : Nat} (h : P.underlying t = some (.map k e)) (l : Nat) (i : Nat) : pBin P .eql t (.map l i) .mapn = some (.bool false) := by unfold pBin; simp [V.odd, plainEq, eqv, h]
theorem pBin_m2_eql {t : Nat} {k e : Nat} (h : P.underlying t = some (.map k e)) (l : Nat) (i : Nat) : pBin P .eql t .mapn (.map l i) = some (.bool false) := by unfold pBin; simp [V.odd, plainEq, eqv, h]
theorem pBin_s0_eql {t : Nat} {e : Nat} (h : P.underlying t = some (.slice e))  : pBin P .eql t .nils .nils = some (.bool true) := by unfold pBin; simp [V.odd, plainEq, eqv, h]
theorem pBin_b_neq {t : Nat} (h : P.underlying t = some .bool) (a b : Bool) : pBin P .neq t (.bool a) (.bool b) = some (.bool (!(a == b))) := by unfold pBin; simp [V.odd, plainEq, eqv, h]
theorem pBin_p0_neq {t : Nat} {e : Nat} (h : P.underlying t = some (.pointer e))  : pBin P .neq t .nilp .nilp = some (.bool false) := by unfold pBin; simp [V.odd, plainEq, eqv, h]
theorem pBin_p1_neq {t : Nat} {e : Nat} (h : P.underlying t = some (.pointer e)) (l : Nat) (i : Nat) (o : Nat) : pBin P .neq t (.ptr l i o) .nilp = some (.bool true) := by unfold pBin; simp [V.odd, plainEq, eqv, h]
theorem pBin_p2_neq {t : Nat} {e : Nat} (h : P.underlying t = some (.pointer e)) (l : Nat) (i : Nat) (o : Nat) : pBin P .neq t .nilp (.ptr l i o) = some (.bool true) := by unfold pBin; simp [V.odd, plainEq, eqv, h]
theorem pBin_p3_neq {t : Nat} {e : Nat} (h : P.underlying t = some (.pointer e)) (o : Nat) (cs : List V) : pBin P .neq t (.ref cs o) .nilp = some (.bool true) := by unfold pBin; simp [V.odd, plainEq, eqv, h]
theorem pBin_p4_neq {t : Nat} {e : Nat} (h : P.underlying t = some (.pointer e)) (o : Nat) (cs : List V) : pBin P .neq t .nilp (.ref cs o) = some (.bool true) := by unfold pBin; simp [V.odd, plainEq, eqv, h]
theorem pBin_m0_neq {t : Nat} {k e : Nat} (h : P.underlying t = some (.map k e))  : pBin P .neq t .mapn .mapn = some (.bool false) := by unfold pBin; simp [V.odd, plainEq, eqv, h]
theorem pBin_m1_neq {t : Nat} {k e : Nat} (h : P.underlying t = some (.map k e)) (l : Nat) (i : Nat) : pBin P .neq t (.map l i) .mapn = some (.bool true) := by unfold pBin; simp [V.odd, plainEq, eqv, h]
theorem pBin_m2_neq {t : Nat} {k e : Nat} (h : P.underlying t = some (.map k e)) (l : Nat) (i : Nat) : pBin P .neq t .mapn (.map l i) = some (.bool true) := by unfold pBin; simp [V.odd, plainEq, eqv, h]
theorem pBin_s0_neq {t : Nat} {e : Nat} (h : P.underlying t = some (.slice e))  : pBin P .neq t .nils .nils = some (.bool false) := by unfold pBin; simp [V.odd, plainEq, eqv, h]
end
end Go.Ab
