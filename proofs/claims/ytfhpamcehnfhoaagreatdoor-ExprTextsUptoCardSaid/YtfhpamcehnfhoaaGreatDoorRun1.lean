/-
  CALLS RECKONED APART: gambrel/expr.Eval, gambrel/expr.read, gambrel/gambrellaw04.gives, internal/strconv.FormatInt, strings.Fields.
-/
import Derived.Test.YtfhpamcehnfhoaaGreatDoorRun0
import Derived.KernelRfl
namespace Go.Proofs.YtfhpamcehnfhoaaGreatDoor
open Go Go.Ab
set_option maxRecDepth 100000
end Go.Proofs.YtfhpamcehnfhoaaGreatDoor

