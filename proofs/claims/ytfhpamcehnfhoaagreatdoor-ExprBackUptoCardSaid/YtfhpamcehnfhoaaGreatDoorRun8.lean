/-
  CALLS RECKONED APART: gambrel/gambrellaw04.alive.
-/
import Derived.Test.YtfhpamcehnfhoaaGreatDoorRun0
import Derived.Test.YtfhpamcehnfhoaaGreatDoorRun1
import Derived.Test.YtfhpamcehnfhoaaGreatDoorRun5
import Derived.Test.YtfhpamcehnfhoaaGreatDoorRun6
import Derived.Test.YtfhpamcehnfhoaaGreatDoorRun7
import Derived.KernelRfl
namespace Go.Proofs.YtfhpamcehnfhoaaGreatDoor
open Go Go.Ab
set_option maxRecDepth 100000
def en73 : za4 := ⟨26, 1, [], .bool true⟩
theorem ok73 : en73.ok Tryz.prog := zzc (hk := (ze1 zeo (z9o [yl8, en72, en68, en65, en61, en60, en57, en54, en55, en50, en47, en7]))) (lf := 3000) (K := 60) (fl := []) (m := 200) mixed (z7p z1u (z6l ⟨yqd, ok72, ok68, ok65, ok61, ok60, ok57, ok54, ok55, ok50, ok47, ok7, trivial⟩)) (by kernel_rfl)
end Go.Proofs.YtfhpamcehnfhoaaGreatDoor

