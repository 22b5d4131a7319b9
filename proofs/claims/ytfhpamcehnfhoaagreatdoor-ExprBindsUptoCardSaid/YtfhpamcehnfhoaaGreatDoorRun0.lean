/-
  CALLS RECKONED APART: the functions without a body.
-/
import Derived.Test.YtfhpamcehnfhoaaGreatDoorProg
import Derived.Test.YtfhpamcehnfhoaaGreatDoorLib7
import Derived.KernelRfl
namespace Go.Proofs.YtfhpamcehnfhoaaGreatDoor
open Go Go.Ab
set_option maxRecDepth 100000
theorem mixed : Tryz.prog.follows .mixedOrders = true := by kernel_rfl
noncomputable def z9l : z8x := (z8d (ye5 202) (z8d (yd2 177) (yd8 130)))
theorem zzl : z58 Tryz.prog z9l := (z2j (ygz Tryz.func202 (by kernel_rfl) (by kernel_rfl) (by kernel_rfl) (by kernel_rfl)) (z2j (yi6 Tryz.func177 (by kernel_rfl) (by kernel_rfl) (by kernel_rfl) (by kernel_rfl)) (yia Tryz.func130 (by kernel_rfl) (by kernel_rfl) (by kernel_rfl) (by kernel_rfl))))
end Go.Proofs.YtfhpamcehnfhoaaGreatDoor

