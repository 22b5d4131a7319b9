/-
  THE LINES OF A REPORT, OUT OF A MAP.
-/
import Derived.Test.YtoimblncdeimoaaTypes
import Derived.Test.YtoimblncdeimoaaAbFlat
namespace Go.Ab
open Go
def ltT (x y : GTally) : Bool := Op.bytesLess x.name y.name
def bigT (x : GTally) : Bool := decide (1000000000 < x.count) || decide (1000000000000000000 < x.volume)
/-- what stands in a map by names, in order -/
def bookLines (c : List (List UInt8 × GTally)) : Option (List GTally × Int) :=
  if 200 < c.length then some ([], 4)
  else if c.any (fun p => bigT p.2) then some ([], 16)
  else if (c.map (·.2.name)).Nodup then some ((c.map (·.2)).mergeSort fun x y => !(ltT y x), 0) else none
end Go.Ab
