/-
  CALLS RECKONED APART: gambrel/gambrellaw04.alive.
-/
import Derived.Test.YtfhpamcehnfhoaaGreatDoorE0
import Derived.Test.YtfhpamcehnfhoaaGreatDoorE1
import Derived.Test.YtfhpamcehnfhoaaGreatDoorE5
import Derived.Test.YtfhpamcehnfhoaaGreatDoorE6
import Derived.Test.YtfhpamcehnfhoaaGreatDoorE7
import Derived.KernelRfl
namespace Go.Proofs.YtfhpamcehnfhoaaGreatDoor
open Go Go.Ab
set_option maxRecDepth 100000

def en73 : Ent := ⟨26, 1, [], .bool true⟩
theorem ok73 : en73.ok Tryz.prog := ent_of_check (hk := (hookOr ext (entHook [en52, en72, en68, en65, en61, en60, en57, en54, en55, en50, en47, en7]))) (lf := 3000) (K := 60) (m := 200) mixed (hookOr_ok ext_ok (entHook_ok ⟨ok52, ok72, ok68, ok65, ok61, ok60, ok57, ok54, ok55, ok50, ok47, ok7, trivial⟩)) (by kernel_rfl)
end Go.Proofs.YtfhpamcehnfhoaaGreatDoor
