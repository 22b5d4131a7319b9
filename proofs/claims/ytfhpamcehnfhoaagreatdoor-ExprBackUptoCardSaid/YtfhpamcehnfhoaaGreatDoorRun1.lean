/-
  CALLS RECKONED APART: gambrel/expr.Eval, gambrel/expr.read, gambrel/gambrellaw04.gives, internal/strconv.FormatInt, strings.Fields.
-/
import Derived.Test.YtfhpamcehnfhoaaGreatDoorRun0
import Derived.KernelRfl
namespace Go.Proofs.YtfhpamcehnfhoaaGreatDoor
open Go Go.Ab
set_option maxRecDepth 100000
def en0 : za4 := ⟨66, 5, [.str [43, 32, 45, 32, 42, 32, 47, 32, 60, 32, 61, 32, 97, 110, 100, 32, 111, 114]], .sl 1 [.str [43], .str [45], .str [42], .str [47], .str [60], .str [61], .str [97, 110, 100], .str [111, 114]] false⟩
theorem ok0 : en0.ok Tryz.prog := zzc (hk := zeo) (lf := 3000) (K := 60) (fl := []) (m := 200) mixed z1u (by kernel_rfl)
def en7 : za4 := ⟨66, 4, [.str [110, 111, 116, 32, 105, 102, 32, 109, 105, 110, 32, 109, 97, 120, 32, 102, 108, 111, 111, 114, 32, 108, 101, 110, 32, 97, 116]], .sl 1 [.str [110, 111, 116], .str [105, 102], .str [109, 105, 110], .str [109, 97, 120], .str [102, 108, 111, 111, 114], .str [108, 101, 110], .str [97, 116]] false⟩
theorem ok7 : en7.ok Tryz.prog := zzc (hk := zeo) (lf := 3000) (K := 60) (fl := []) (m := 200) mixed z1u (by kernel_rfl)
end Go.Proofs.YtfhpamcehnfhoaaGreatDoor

