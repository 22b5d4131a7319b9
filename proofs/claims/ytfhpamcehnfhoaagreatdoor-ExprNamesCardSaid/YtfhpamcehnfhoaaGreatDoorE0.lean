/-
  CALLS RECKONED APART: the functions without a body.
-/
import Derived.Test.YtfhpamcehnfhoaaGreatDoorProg
import Derived.Test.YtfhpamcehnfhoaaGreatDoorAbX6
import Derived.KernelRfl
namespace Go.Proofs.YtfhpamcehnfhoaaGreatDoor
open Go Go.Ab
set_option maxRecDepth 100000

theorem mixed : Tryz.prog.follows .mixedOrders = true := by kernel_rfl
noncomputable def ext : XHook := (hookOr (csHook 202) (hookOr (ibHook 177) (neHook 130)))
theorem ext_ok : HookOk Tryz.prog ext := (hookOr_ok (csHook_ok Tryz.func202 (by kernel_rfl) (by kernel_rfl) (by kernel_rfl) (by kernel_rfl)) (hookOr_ok (ibHook_ok Tryz.func177 (by kernel_rfl) (by kernel_rfl) (by kernel_rfl) (by kernel_rfl)) (neHook_ok Tryz.func130 (by kernel_rfl) (by kernel_rfl) (by kernel_rfl) (by kernel_rfl))))
end Go.Proofs.YtfhpamcehnfhoaaGreatDoor
