/-
  CALLS RECKONED APART: gambrel/expr.read, gambrel/gambrellaw04.gives.
-/
import Derived.Test.YtfhpamcehnfhoaaGreatDoorRun0
import Derived.Test.YtfhpamcehnfhoaaGreatDoorRun1
import Derived.KernelRfl
namespace Go.Proofs.YtfhpamcehnfhoaaGreatDoor
open Go Go.Ab
set_option maxRecDepth 100000
end Go.Proofs.YtfhpamcehnfhoaaGreatDoor

