/-
  CALLS RECKONED APART: gambrel/gambrellaw04.ExprNames.
-/
import Derived.Test.YtfhpamcehnfhoaaGreatDoorE0
import Derived.Test.YtfhpamcehnfhoaaGreatDoorE1
import Derived.Test.YtfhpamcehnfhoaaGreatDoorE2
import Derived.Test.YtfhpamcehnfhoaaGreatDoorE3
import Derived.Test.YtfhpamcehnfhoaaGreatDoorE4
import Derived.Test.YtfhpamcehnfhoaaGreatDoorE5
import Derived.Test.YtfhpamcehnfhoaaGreatDoorE8
import Derived.KernelRfl
namespace Go.Proofs.YtfhpamcehnfhoaaGreatDoor
open Go Go.Ab
set_option maxRecDepth 100000

def en74 : Ent := ⟨4, 0, [], .bool true⟩
theorem ok74 : en74.ok Tryz.prog := ent_of_check (hk := (hookOr ext (entHook [en73, en46, en38, en39, en43, en37, en36, en1, en35, en7, en34, en33, en32, en31, en29, en26, en27, en24, en25, en22, en20, en18, en16, en15, en13, en9, en10, en5, en6, en3]))) (lf := 3000) (K := 60) (m := 200) mixed (hookOr_ok ext_ok (entHook_ok ⟨ok73, ok46, ok38, ok39, ok43, ok37, ok36, ok1, ok35, ok7, ok34, ok33, ok32, ok31, ok29, ok26, ok27, ok24, ok25, ok22, ok20, ok18, ok16, ok15, ok13, ok9, ok10, ok5, ok6, ok3, trivial⟩)) (by kernel_rfl)
end Go.Proofs.YtfhpamcehnfhoaaGreatDoor
