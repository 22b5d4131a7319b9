/-
  CALLS RECKONED APART: gambrel/gambrellaw04.alive.
-/
import Derived.Test.YtfhpamcehnfhoaaGreatDoorRun0
import Derived.Test.YtfhpamcehnfhoaaGreatDoorRun1
import Derived.Test.YtfhpamcehnfhoaaGreatDoorRun5
import Derived.Test.YtfhpamcehnfhoaaGreatDoorRun6
import Derived.Test.YtfhpamcehnfhoaaGreatDoorRun7
import Derived.KernelRfl
namespace Go.Proofs.YtfhpamcehnfhoaaGreatDoor
open Go Go.Ab
set_option maxRecDepth 100000
end Go.Proofs.YtfhpamcehnfhoaaGreatDoor

