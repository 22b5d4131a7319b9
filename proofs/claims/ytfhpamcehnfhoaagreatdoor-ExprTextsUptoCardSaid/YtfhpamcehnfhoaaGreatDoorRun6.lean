/-
  CALLS RECKONED APART: gambrel/expr.Check, gambrel/expr.Fold, gambrel/expr.read, gambrel/gambrellaw04.folds, gambrel/gambrellaw04.gives, internal/strconv.FormatInt, strings.Fields.
-/
import Derived.Test.YtfhpamcehnfhoaaGreatDoorRun0
import Derived.Test.YtfhpamcehnfhoaaGreatDoorRun1
import Derived.Test.YtfhpamcehnfhoaaGreatDoorRun5
import Derived.KernelRfl
namespace Go.Proofs.YtfhpamcehnfhoaaGreatDoor
open Go Go.Ab
set_option maxRecDepth 100000
end Go.Proofs.YtfhpamcehnfhoaaGreatDoor

