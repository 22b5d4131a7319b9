/-
  What simp unfolds in the walks.
-/
import Derived.Test.YtabknpjajioneaaAbGen
namespace Go.Ab
open Go
attribute [simp] an runC runQ wantedV ox pv St.ev St.put ofConst ofLeaf pBuiltin intBin strBin pExtract pIndex pNilCheck pUn pMinMax pSlice bounds3 bnd pLookup mapEs keyKind findV sameV pMakeInterface pTypeAssert pConvert pBuild fieldPlaces fillV partsOf pBuildSlice inOrder target hAlloc hBox hStore hMakeMap hMapUpdate putEs Heap.get Heap.push Heap.set splice aelem elemsOf srcOf fits withCells bne
end Go.Ab
