import Derived.Test.YtjhdidegajjceaaT7
namespace Go.Proofs
open Go Go.Ab
set_option maxRecDepth 10000
set_option maxHeartbeats 400000
set_option linter.unusedSimpArgs false
/-! equality of nodes -/
theorem derive_Same (a b : GNode) (hs : a.size ≤ 1048576) : PCall Try.prog 10 [a.el, b.el] (.bool (eqB a b)) := by
  have hz := a.size_eq
  refine pcall_of Try.func10 rfl Try.ntmps10 (fun _ _ => Try.call10 _ _) fun lv E => ?_
  simp only [List.length_cons, List.length_nil, Nat.reduceAdd, Nat.reduceSub, List.replicate, List.cons_append, List.nil_append]
  repeat (first | refine sat_seq ?_ | refine sat_block ?_ | refine sat_skip ?_ | refine sat_exit ?_)
  refine sat_reg [] (by simp -implicitDefEqProofs [runC, runQ, wantedV, ox, pv, St.ev, St.put, ofConst, ofLeaf, pBuiltin, pLen, intBin, strBin, pIndexAddr, pLoad, pFieldAddr, pExtract, pIndex, pNilCheck, pUn, pMinMax, pSlice, bounds3, bnd, pLookup, mapEs, keyKind, findV, sameV, pMakeInterface, pTypeAssert, pConvert, pBuild, fieldPlaces, fillV, partsOf, pBuildSlice, inOrder, target, hAlloc, hBox, hStore, hMakeMap, hMapUpdate, putEs, Heap.get, Heap.push, Heap.set, V.cells, V.solid, V.leaf, splice, aelem, elemsOf, srcOf, appendTo, fits, withCells, GNode.el_eq]; rfl) claims_nil ?_
  repeat (first | refine sat_seq ?_ | refine sat_block ?_ | refine sat_skip ?_ | refine sat_exit ?_)
  rcases Bool.eq_false_or_eq_true (a.path == b.path) with h1 | h1
  case inr =>
    rw [show eqB a b = false from eqB_false.2 (by rintro rfl; simp at h1)]
    repeat (first | refine sat_seq ?_ | refine sat_block ?_ | refine sat_skip ?_ | refine sat_exit ?_ | refine sat_reg [] (by simp -implicitDefEqProofs [runC, runQ, wantedV, ox, pv, St.ev, St.put, ofConst, ofLeaf, pBuiltin, pLen, intBin, strBin, pIndexAddr, pLoad, pFieldAddr, pExtract, pIndex, pNilCheck, pUn, pMinMax, pSlice, bounds3, bnd, pLookup, mapEs, keyKind, findV, sameV, pMakeInterface, pTypeAssert, pConvert, pBuild, fieldPlaces, fillV, partsOf, pBuildSlice, inOrder, target, hAlloc, hBox, hStore, hMakeMap, hMapUpdate, putEs, Heap.get, Heap.push, Heap.set, V.cells, V.solid, V.leaf, splice, aelem, elemsOf, srcOf, appendTo, fits, withCells, GNode.el_eq, h1]; rfl) claims_nil ?_ | refine sat_drw (by kernel_rfl) (by kernel_rfl) [] (by simp -implicitDefEqProofs [runC, runQ, wantedV, ox, pv, St.ev, St.put, ofConst, ofLeaf, pBuiltin, pLen, intBin, strBin, pIndexAddr, pLoad, pFieldAddr, pExtract, pIndex, pNilCheck, pUn, pMinMax, pSlice, bounds3, bnd, pLookup, mapEs, keyKind, findV, sameV, pMakeInterface, pTypeAssert, pConvert, pBuild, fieldPlaces, fillV, partsOf, pBuildSlice, inOrder, target, hAlloc, hBox, hStore, hMakeMap, hMapUpdate, putEs, Heap.get, Heap.push, Heap.set, V.cells, V.solid, V.leaf, splice, aelem, elemsOf, srcOf, appendTo, fits, withCells, GNode.el_eq, h1]; rfl) claims_nil ?_)
    refine sat_ret ?_
    refine ends (by simp [resultsV, resL, resV, tupOf, Try.f10]; rfl) rfl rfl ?_
    exact .keep _ (by simp [V.kin])
  rcases Bool.eq_false_or_eq_true (a.rule_ == b.rule_) with h2 | h2
  case inr =>
    rw [show eqB a b = false from eqB_false.2 (by rintro rfl; simp at h2)]
    repeat (first | refine sat_seq ?_ | refine sat_block ?_ | refine sat_skip ?_ | refine sat_exit ?_ | refine sat_reg [] (by simp -implicitDefEqProofs [runC, runQ, wantedV, ox, pv, St.ev, St.put, ofConst, ofLeaf, pBuiltin, pLen, intBin, strBin, pIndexAddr, pLoad, pFieldAddr, pExtract, pIndex, pNilCheck, pUn, pMinMax, pSlice, bounds3, bnd, pLookup, mapEs, keyKind, findV, sameV, pMakeInterface, pTypeAssert, pConvert, pBuild, fieldPlaces, fillV, partsOf, pBuildSlice, inOrder, target, hAlloc, hBox, hStore, hMakeMap, hMapUpdate, putEs, Heap.get, Heap.push, Heap.set, V.cells, V.solid, V.leaf, splice, aelem, elemsOf, srcOf, appendTo, fits, withCells, GNode.el_eq, h1, h2]; rfl) claims_nil ?_ | refine sat_drw (by kernel_rfl) (by kernel_rfl) [] (by simp -implicitDefEqProofs [runC, runQ, wantedV, ox, pv, St.ev, St.put, ofConst, ofLeaf, pBuiltin, pLen, intBin, strBin, pIndexAddr, pLoad, pFieldAddr, pExtract, pIndex, pNilCheck, pUn, pMinMax, pSlice, bounds3, bnd, pLookup, mapEs, keyKind, findV, sameV, pMakeInterface, pTypeAssert, pConvert, pBuild, fieldPlaces, fillV, partsOf, pBuildSlice, inOrder, target, hAlloc, hBox, hStore, hMakeMap, hMapUpdate, putEs, Heap.get, Heap.push, Heap.set, V.cells, V.solid, V.leaf, splice, aelem, elemsOf, srcOf, appendTo, fits, withCells, GNode.el_eq, h1, h2]; rfl) claims_nil ?_)
    refine sat_ret ?_
    refine ends (by simp [resultsV, resL, resV, tupOf, Try.f10]; rfl) rfl rfl ?_
    exact .keep _ (by simp [V.kin])
  rcases Bool.eq_false_or_eq_true (a.scope.frame.turn == b.scope.frame.turn && (a.scope.frame.at_.x == b.scope.frame.at_.x && (a.scope.frame.at_.y == b.scope.frame.at_.y && (a.scope.frame.at_.z == b.scope.frame.at_.z && (a.scope.size_.x == b.scope.size_.x && (a.scope.size_.y == b.scope.size_.y && a.scope.size_.z == b.scope.size_.z)))))) with h3 | h3
  case inr =>
    rw [show eqB a b = false from eqB_false.2 (by rintro rfl; simp at h3)]
    repeat (first | refine sat_seq ?_ | refine sat_block ?_ | refine sat_skip ?_ | refine sat_exit ?_ | refine sat_reg [] (by simp -implicitDefEqProofs [runC, runQ, wantedV, ox, pv, St.ev, St.put, ofConst, ofLeaf, pBuiltin, pLen, intBin, strBin, pIndexAddr, pLoad, pFieldAddr, pExtract, pIndex, pNilCheck, pUn, pMinMax, pSlice, bounds3, bnd, pLookup, mapEs, keyKind, findV, sameV, pMakeInterface, pTypeAssert, pConvert, pBuild, fieldPlaces, fillV, partsOf, pBuildSlice, inOrder, target, hAlloc, hBox, hStore, hMakeMap, hMapUpdate, putEs, Heap.get, Heap.push, Heap.set, V.cells, V.solid, V.leaf, splice, aelem, elemsOf, srcOf, appendTo, fits, withCells, GNode.el_eq, h1, h2, h3]; rfl) claims_nil ?_ | refine sat_drw (by kernel_rfl) (by kernel_rfl) [] (by simp -implicitDefEqProofs [runC, runQ, wantedV, ox, pv, St.ev, St.put, ofConst, ofLeaf, pBuiltin, pLen, intBin, strBin, pIndexAddr, pLoad, pFieldAddr, pExtract, pIndex, pNilCheck, pUn, pMinMax, pSlice, bounds3, bnd, pLookup, mapEs, keyKind, findV, sameV, pMakeInterface, pTypeAssert, pConvert, pBuild, fieldPlaces, fillV, partsOf, pBuildSlice, inOrder, target, hAlloc, hBox, hStore, hMakeMap, hMapUpdate, putEs, Heap.get, Heap.push, Heap.set, V.cells, V.solid, V.leaf, splice, aelem, elemsOf, srcOf, appendTo, fits, withCells, GNode.el_eq, h1, h2, h3]; rfl) claims_nil ?_)
    refine sat_ret ?_
    refine ends (by simp [resultsV, resL, resV, tupOf, Try.f10]; rfl) rfl rfl ?_
    exact .keep _ (by simp [V.kin])
  rcases Bool.eq_false_or_eq_true (a.leaf == b.leaf) with h4 | h4
  case inr =>
    rw [show eqB a b = false from eqB_false.2 (by rintro rfl; simp at h4)]
    repeat (first | refine sat_seq ?_ | refine sat_block ?_ | refine sat_skip ?_ | refine sat_exit ?_ | refine sat_reg [] (by simp -implicitDefEqProofs [runC, runQ, wantedV, ox, pv, St.ev, St.put, ofConst, ofLeaf, pBuiltin, pLen, intBin, strBin, pIndexAddr, pLoad, pFieldAddr, pExtract, pIndex, pNilCheck, pUn, pMinMax, pSlice, bounds3, bnd, pLookup, mapEs, keyKind, findV, sameV, pMakeInterface, pTypeAssert, pConvert, pBuild, fieldPlaces, fillV, partsOf, pBuildSlice, inOrder, target, hAlloc, hBox, hStore, hMakeMap, hMapUpdate, putEs, Heap.get, Heap.push, Heap.set, V.cells, V.solid, V.leaf, splice, aelem, elemsOf, srcOf, appendTo, fits, withCells, GNode.el_eq, h1, h2, h3, h4]; rfl) claims_nil ?_ | refine sat_drw (by kernel_rfl) (by kernel_rfl) [] (by simp -implicitDefEqProofs [runC, runQ, wantedV, ox, pv, St.ev, St.put, ofConst, ofLeaf, pBuiltin, pLen, intBin, strBin, pIndexAddr, pLoad, pFieldAddr, pExtract, pIndex, pNilCheck, pUn, pMinMax, pSlice, bounds3, bnd, pLookup, mapEs, keyKind, findV, sameV, pMakeInterface, pTypeAssert, pConvert, pBuild, fieldPlaces, fillV, partsOf, pBuildSlice, inOrder, target, hAlloc, hBox, hStore, hMakeMap, hMapUpdate, putEs, Heap.get, Heap.push, Heap.set, V.cells, V.solid, V.leaf, splice, aelem, elemsOf, srcOf, appendTo, fits, withCells, GNode.el_eq, h1, h2, h3, h4]; rfl) claims_nil ?_)
    refine sat_ret ?_
    refine ends (by simp [resultsV, resL, resV, tupOf, Try.f10]; rfl) rfl rfl ?_
    exact .keep _ (by simp [V.kin])
  rcases Bool.eq_false_or_eq_true (a.fault == b.fault) with h5 | h5
  case inr =>
    rw [show eqB a b = false from eqB_false.2 (by rintro rfl; simp at h5)]
    repeat (first | refine sat_seq ?_ | refine sat_block ?_ | refine sat_skip ?_ | refine sat_exit ?_ | refine sat_reg [] (by simp -implicitDefEqProofs [runC, runQ, wantedV, ox, pv, St.ev, St.put, ofConst, ofLeaf, pBuiltin, pLen, intBin, strBin, pIndexAddr, pLoad, pFieldAddr, pExtract, pIndex, pNilCheck, pUn, pMinMax, pSlice, bounds3, bnd, pLookup, mapEs, keyKind, findV, sameV, pMakeInterface, pTypeAssert, pConvert, pBuild, fieldPlaces, fillV, partsOf, pBuildSlice, inOrder, target, hAlloc, hBox, hStore, hMakeMap, hMapUpdate, putEs, Heap.get, Heap.push, Heap.set, V.cells, V.solid, V.leaf, splice, aelem, elemsOf, srcOf, appendTo, fits, withCells, GNode.el_eq, h1, h2, h3, h4, h5]; rfl) claims_nil ?_ | refine sat_drw (by kernel_rfl) (by kernel_rfl) [] (by simp -implicitDefEqProofs [runC, runQ, wantedV, ox, pv, St.ev, St.put, ofConst, ofLeaf, pBuiltin, pLen, intBin, strBin, pIndexAddr, pLoad, pFieldAddr, pExtract, pIndex, pNilCheck, pUn, pMinMax, pSlice, bounds3, bnd, pLookup, mapEs, keyKind, findV, sameV, pMakeInterface, pTypeAssert, pConvert, pBuild, fieldPlaces, fillV, partsOf, pBuildSlice, inOrder, target, hAlloc, hBox, hStore, hMakeMap, hMapUpdate, putEs, Heap.get, Heap.push, Heap.set, V.cells, V.solid, V.leaf, splice, aelem, elemsOf, srcOf, appendTo, fits, withCells, GNode.el_eq, h1, h2, h3, h4, h5]; rfl) claims_nil ?_)
    refine sat_ret ?_
    refine ends (by simp [resultsV, resL, resV, tupOf, Try.f10]; rfl) rfl rfl ?_
    exact .keep _ (by simp [V.kin])
  rcases Bool.eq_false_or_eq_true (a.open_ == b.open_) with h6 | h6
  case inr =>
    rw [show eqB a b = false from eqB_false.2 (by rintro rfl; simp at h6)]
    repeat (first | refine sat_seq ?_ | refine sat_block ?_ | refine sat_skip ?_ | refine sat_exit ?_ | refine sat_reg [] (by simp -implicitDefEqProofs [runC, runQ, wantedV, ox, pv, St.ev, St.put, ofConst, ofLeaf, pBuiltin, pLen, intBin, strBin, pIndexAddr, pLoad, pFieldAddr, pExtract, pIndex, pNilCheck, pUn, pMinMax, pSlice, bounds3, bnd, pLookup, mapEs, keyKind, findV, sameV, pMakeInterface, pTypeAssert, pConvert, pBuild, fieldPlaces, fillV, partsOf, pBuildSlice, inOrder, target, hAlloc, hBox, hStore, hMakeMap, hMapUpdate, putEs, Heap.get, Heap.push, Heap.set, V.cells, V.solid, V.leaf, splice, aelem, elemsOf, srcOf, appendTo, fits, withCells, GNode.el_eq, h1, h2, h3, h4, h5, h6]; rfl) claims_nil ?_ | refine sat_drw (by kernel_rfl) (by kernel_rfl) [] (by simp -implicitDefEqProofs [runC, runQ, wantedV, ox, pv, St.ev, St.put, ofConst, ofLeaf, pBuiltin, pLen, intBin, strBin, pIndexAddr, pLoad, pFieldAddr, pExtract, pIndex, pNilCheck, pUn, pMinMax, pSlice, bounds3, bnd, pLookup, mapEs, keyKind, findV, sameV, pMakeInterface, pTypeAssert, pConvert, pBuild, fieldPlaces, fillV, partsOf, pBuildSlice, inOrder, target, hAlloc, hBox, hStore, hMakeMap, hMapUpdate, putEs, Heap.get, Heap.push, Heap.set, V.cells, V.solid, V.leaf, splice, aelem, elemsOf, srcOf, appendTo, fits, withCells, GNode.el_eq, h1, h2, h3, h4, h5, h6]; rfl) claims_nil ?_)
    refine sat_ret ?_
    refine ends (by simp [resultsV, resL, resV, tupOf, Try.f10]; rfl) rfl rfl ?_
    exact .keep _ (by simp [V.kin])
  refine sat_reg [(.bool (eqB a.args b.args), none)] (by simp -implicitDefEqProofs [runC, runQ, wantedV, ox, pv, St.ev, St.put, ofConst, ofLeaf, pBuiltin, pLen, intBin, strBin, pIndexAddr, pLoad, pFieldAddr, pExtract, pIndex, pNilCheck, pUn, pMinMax, pSlice, bounds3, bnd, pLookup, mapEs, keyKind, findV, sameV, pMakeInterface, pTypeAssert, pConvert, pBuild, fieldPlaces, fillV, partsOf, pBuildSlice, inOrder, target, hAlloc, hBox, hStore, hMakeMap, hMapUpdate, putEs, Heap.get, Heap.push, Heap.set, V.cells, V.solid, V.leaf, splice, aelem, elemsOf, srcOf, appendTo, fits, withCells, GNode.el_eq, h1, h2, h3, h4, h5, h6]; rfl) ?_ ?_
  · exact (claims_cons (by have h := EqualFuncV a.args b.args (by omega); simp only [encVs] at h; exact h _) claims_nil)
  repeat (first | refine sat_seq ?_ | refine sat_block ?_ | refine sat_skip ?_ | refine sat_exit ?_)
  refine sat_ret ?_
  refine ends (by simp [resultsV, resL, resV, tupOf, Try.f10]; rfl) rfl rfl ?_
  have : eqB a b = eqB a.args b.args := by
    by_cases h7 : a.args = b.args
    · rw [eqB_true.2 h7]; exact eqB_true.2 (GNode.ext' h1 h2 h3 h4 h5 h6 h7)
    · rw [eqB_false.2 h7]; exact eqB_false.2 (by rintro rfl; exact h7 rfl)
  rw [this]
  exact .keep _ (by simp [V.kin])
