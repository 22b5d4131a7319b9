/-
  internal/strconv.FormatInt AT BASE 10, by the kit's contract.
-/
import Derived.Test.YtfhpamcehnfhoaaGreatDoorShelfP
import Derived.Test.YtfhpamcehnfhoaaGreatDoorAbX6
namespace Go.Proofs.YtfhpamcehnfhoaaGreatDoor
open Go Go.Ab Go.RowKit
set_option linter.unusedVariables false

theorem fi_ok (lv : Nat) (n : Int) (s : List UInt8) (h0 : -9223372036854775808 ≤ n) (h1 : n ≤ 9223372036854775807) (hs : Lib.itoa n = s) : (⟨175, lv, [.int .i64 n, .int .i64 10], .str s⟩ : Ent).ok Tryz.prog := fun H hH W g cargs hG hA => by
  obtain ⟨x, y, rfl, e0, e1⟩ := args2 hA
  cases e0; cases e1
  have htab : Lib.TabIs Tryz.prog W "internal/strconv.uint64pow10" .u64 Lib.pow10Tab := by
    obtain ⟨_, ty, q, hq⟩ := hG.glob 3 gl3 rfl
    unfold Lib.TabIs World.var?
    rw [show Tryz.prog.globalNamed "internal/strconv.uint64pow10" = some 3 by kernel_rfl]
    simp only [Option.bind_some, hq]
    rfl
  have c := Any.internal_strconv_FormatInt_10 { Tryz.laysM173 with } n h0 h1 W htab
  subst hs
  refine .inl ⟨Tryz.call175 _ _, c.mono fun e W' ⟨h1, k, os, h2⟩ => ?_⟩
  subst h1; subst h2
  have hg : Grow W (Sort.grow (W.drewN k) os) := ⟨rfl, rfl, rfl, by simp [Sort.grow, World.drewN], fun b hb => by
    show (W.heap ++ os)[b]? = _
    rw [Array.getElem?_append_left hb]⟩
  exact ⟨_, g, rfl, hg.step, hG.grow hg, .str _⟩
end Go.Proofs.YtfhpamcehnfhoaaGreatDoor
