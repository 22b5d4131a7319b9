/-
  What simp unfolds in the walks.
-/
import Derived.Test.YtoimblncdeimoaaAbFlat
namespace Go.Ab
open Go
attribute [simp] an hRange hNext runC runQ wantedV ox pv St.ev St.put ofConst ofLeaf pBuiltin intBin strBin pExtract pIndex pNilCheck pUn pMinMax pSlice bounds3 bnd sameV pMakeInterface pTypeAssert pConvert pBuild fieldPlaces fillV partsOf pBuildSlice inOrder target hAlloc hBox hStore hMakeMap Heap.get Heap.push Heap.set splice aelem elemsOf srcOf fits withCells bne
end Go.Ab
