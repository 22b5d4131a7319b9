/-
  CALLS RECKONED APART: gambrel/expr.Fold, gambrel/expr.change, gambrel/expr.read, gambrel/gambrellaw04.folds, internal/strconv.FormatInt.
-/
import Derived.Test.YtfhpamcehnfhoaaGreatDoorRun0
import Derived.Test.YtfhpamcehnfhoaaGreatDoorRun5
import Derived.Test.YtfhpamcehnfhoaaGreatDoorRun6
import Derived.KernelRfl
namespace Go.Proofs.YtfhpamcehnfhoaaGreatDoor
open Go Go.Ab
set_option maxRecDepth 100000
end Go.Proofs.YtfhpamcehnfhoaaGreatDoor

