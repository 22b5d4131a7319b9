/-
  CALLS RECKONED APART: gambrel/expr.Fold, gambrel/expr.Text, gambrel/expr.read, internal/strconv.FormatInt, strings.Fields.
-/
import Derived.Test.YtfhpamcehnfhoaaGreatDoorRun0
import Derived.Test.YtfhpamcehnfhoaaGreatDoorRun1
import Derived.Test.YtfhpamcehnfhoaaGreatDoorRun3
import Derived.KernelRfl
namespace Go.Proofs.YtfhpamcehnfhoaaGreatDoor
open Go Go.Ab
set_option maxRecDepth 100000
def en41 : za4 := ⟨175, 6, [.int .i64 2, .int .i64 10], .str [50]⟩
theorem ok41 : en41.ok Tryz.prog := zzc (hk := zeo) (lf := 3000) (K := 60) (fl := []) (m := 200) mixed z1u (by kernel_rfl)
end Go.Proofs.YtfhpamcehnfhoaaGreatDoor

