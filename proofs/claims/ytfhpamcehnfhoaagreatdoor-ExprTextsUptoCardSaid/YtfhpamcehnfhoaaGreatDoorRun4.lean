/-
  CALLS RECKONED APART: gambrel/expr.Fold, gambrel/expr.Text, gambrel/expr.read, internal/strconv.FormatInt, strings.Fields.
-/
import Derived.Test.YtfhpamcehnfhoaaGreatDoorRun0
import Derived.Test.YtfhpamcehnfhoaaGreatDoorRun1
import Derived.Test.YtfhpamcehnfhoaaGreatDoorRun3
import Derived.KernelRfl
namespace Go.Proofs.YtfhpamcehnfhoaaGreatDoor
open Go Go.Ab
set_option maxRecDepth 100000
end Go.Proofs.YtfhpamcehnfhoaaGreatDoor

