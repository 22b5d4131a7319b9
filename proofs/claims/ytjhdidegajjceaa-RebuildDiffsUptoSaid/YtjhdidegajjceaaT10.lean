import Derived.Test.YtjhdidegajjceaaT9
namespace Go.Proofs
open Go Go.Ab
set_option maxRecDepth 10000
set_option maxHeartbeats 400000
set_option linter.unusedSimpArgs false
/-! the map of the first places -/
def mapF (t : List GNode) : Nat → List (V × V)
  | 0 => []
  | k + 1 => match t[k]? with
    | none => mapF t k
    | some x => match find27 (t.take k) x.path with
      | none => mapF t k ++ [(.str x.path, .int .i64 k)]
      | some _ => mapF t k
theorem findV_append (k : V) (d : TypeDesc) (e : V × V) : ∀ (es : List (V × V)) (i : Nat), (∀ r, findV d k es i = some (some r) → findV d k (es ++ [e]) i = some (some r)) ∧ (findV d k es i = some none → findV d k (es ++ [e]) i = findV d k [e] (i + es.length))
  | [], i => ⟨fun r h => by simp [findV] at h, fun _ => by simp⟩
  | x :: es, i => by
    obtain ⟨h1, h2⟩ := findV_append k d e es (i + 1)
    constructor
    · intro r h
      simp only [List.cons_append, findV] at h ⊢
      split at h
      · split at h
        · rw [if_pos (by assumption)]; exact h
        · rw [if_neg (by assumption)]; exact h1 r h
      · cases h
    · intro h
      simp only [List.cons_append, findV] at h ⊢
      split at h
      · split at h
        · cases h
        · rw [if_neg (by assumption), h2 h]; simp only [findV, List.length_cons]; rw [show i + 1 + es.length = i + (es.length + 1) by omega]
      · cases h
theorem find27_take {t : List GNode} {k : Nat} {x : GNode} (h : t[k]? = some x) (p : List UInt8) : find27 (t.take (k + 1)) p = match find27 (t.take k) p with | some i => some i | none => if x.path == p then some k else none := by
  have hk := (List.getElem?_eq_some_iff.1 h).1
  unfold find27
  rw [List.take_add_one, h, List.findIdx?_append]
  cases (t.take k).findIdx? (fun n => n.path == p) with
  | some i => simp
  | none => simp [List.findIdx?_cons]; split <;> simp; omega
theorem mapF_find (t : List GNode) (p : List UInt8) : ∀ k, k ≤ t.length → (∀ i, find27 (t.take k) p = some i → ∃ j, findV .string (.str p) (mapF t k) 0 = some (some (j, .int .i64 i))) ∧ (find27 (t.take k) p = none → findV .string (.str p) (mapF t k) 0 = some none)
  | 0, _ => ⟨fun i h => by simp [find27] at h, fun _ => rfl⟩
  | k + 1, hk => by
    obtain ⟨h1, h2⟩ := mapF_find t p k (by omega)
    have hx : t[k]? = some (t[k]'(by omega)) := List.getElem?_eq_getElem _
    generalize t[k]'(by omega) = x at hx
    rw [find27_take hx]
    simp only [mapF, hx]
    cases hp : find27 (t.take k) p with
    | some i =>
      obtain ⟨j, hj⟩ := h1 i hp
      refine ⟨fun i' hi' => ?_, fun h => by cases h⟩
      injection hi' with hi'; subst hi'
      cases hq : find27 (t.take k) x.path with
      | some _ => exact ⟨j, hj⟩
      | none => exact ⟨j, (findV_append _ _ _ _ _).1 _ hj⟩
    | none =>
      have hn := h2 hp
      by_cases he : (x.path == p) = true
      · have he' : x.path = p := by simpa using he
        rw [he', hp]
        simp only [BEq.rfl, if_true]
        refine ⟨fun i hi => ?_, fun h => by cases h⟩
        injection hi with hi; subst hi
        exact ⟨0 + (mapF t k).length, by rw [(findV_append _ _ _ _ _).2 hn]; simp [findV, sameV]⟩
      · have he' : (p == x.path) = false := by rw [Bool.eq_false_iff]; intro h; exact he (by simpa using (show p = x.path by simpa using h).symm)
        rw [if_neg he]
        refine ⟨fun i hi => (by cases hi), fun _ => ?_⟩
        cases hq : find27 (t.take k) x.path with
        | some _ => exact hn
        | none => simp only; rw [(findV_append _ _ _ _ _).2 hn]; simp [findV, sameV, he']

theorem mapF_kin {D : Nat → Nat → Prop} (t : List GNode) : ∀ k, AObj.kin D (.map (mapF t k))
  | 0 => fun p hp => by simp [mapF] at hp
  | k + 1 => fun p hp => by
    simp only [mapF] at hp
    split at hp
    · exact mapF_kin t k p hp
    · split at hp
      · rcases List.mem_append.1 hp with h | h
        · exact mapF_kin t k p h
        · simp at h; subst h; exact ⟨by simp [V.kin], by simp [V.kin]⟩
      · exact mapF_kin t k p hp
theorem encNs_kin {D : Nat → Nat → Prop} (l : List GNode) : V.kin D (encNs l) := by simp [encNs, V.kin]
theorem rebuild_Diff1 (t : List GNode) (hs : (t.map GNode.size).sum ≤ 1048576) (H : Heap) : HCall Try.prog 9 [encNs t] H (.map H.lv H.L.length) ⟨H.lv, H.L ++ [some (.map (mapF t t.length))], H.E⟩ := by
  have hl := lenN_le t
  refine hcallX_of_body Try.func9 rfl Try.ntmps9 (fun _ _ => Try.call9 _ _) ?_
  simp only [List.length_cons, List.length_nil, Nat.reduceAdd, Nat.reduceSub, List.replicate, List.cons_append, List.nil_append]
  generalize hE : H.get = E
  repeat (first | refine sat_seq ?_ | refine sat_block ?_ | refine sat_skip ?_ | refine sat_exit ?_)
  refine sat_reg [] (by simp -implicitDefEqProofs [runC, runQ, wantedV, ox, pv, St.ev, St.put, ofConst, ofLeaf, pBuiltin, pLen, intBin, strBin, pIndexAddr, pLoad, pFieldAddr, pExtract, pIndex, pNilCheck, pUn, pMinMax, pSlice, bounds3, bnd, pLookup, mapEs, keyKind, findV, sameV, pMakeInterface, pTypeAssert, pConvert, pBuild, fieldPlaces, fillV, partsOf, pBuildSlice, inOrder, target, hAlloc, hBox, hStore, hMakeMap, hMapUpdate, putEs, Heap.get, Heap.push, Heap.set, V.cells, V.solid, V.leaf, splice, aelem, elemsOf, srcOf, appendTo, fits, withCells]; rfl) claims_nil ?_
  repeat (first | refine sat_seq ?_ | refine sat_block ?_ | refine sat_skip ?_ | refine sat_exit ?_)
  refine sat_reg [] (by simp -implicitDefEqProofs [runC, runQ, wantedV, ox, pv, St.ev, St.put, ofConst, ofLeaf, pBuiltin, pLen, intBin, strBin, pIndexAddr, pLoad, pFieldAddr, pExtract, pIndex, pNilCheck, pUn, pMinMax, pSlice, bounds3, bnd, pLookup, mapEs, keyKind, findV, sameV, pMakeInterface, pTypeAssert, pConvert, pBuild, fieldPlaces, fillV, partsOf, pBuildSlice, inOrder, target, hAlloc, hBox, hStore, hMakeMap, hMapUpdate, putEs, Heap.get, Heap.push, Heap.set, V.cells, V.solid, V.leaf, splice, aelem, elemsOf, srcOf, appendTo, fits, withCells]; rfl) claims_nil ?_
  repeat (first | refine sat_seq ?_ | refine sat_block ?_ | refine sat_skip ?_ | refine sat_exit ?_)
  refine sat_reg [] (by simp -implicitDefEqProofs [runC, runQ, wantedV, ox, pv, St.ev, St.put, ofConst, ofLeaf, pBuiltin, pLen, intBin, strBin, pIndexAddr, pLoad, pFieldAddr, pExtract, pIndex, pNilCheck, pUn, pMinMax, pSlice, bounds3, bnd, pLookup, mapEs, keyKind, findV, sameV, pMakeInterface, pTypeAssert, pConvert, pBuild, fieldPlaces, fillV, partsOf, pBuildSlice, inOrder, target, hAlloc, hBox, hStore, hMakeMap, hMapUpdate, putEs, Heap.get, Heap.push, Heap.set, V.cells, V.solid, V.leaf, splice, aelem, elemsOf, srcOf, appendTo, fits, withCells, encNs]; rfl) claims_nil ?_
  repeat (first | refine sat_seq ?_ | refine sat_block ?_ | refine sat_skip ?_ | refine sat_exit ?_)
  refine sat_upto t.length (fun k σ => σ = ⟨[encNs t, .any, .any, .map (H.lv + 1) 0, .any, .any, .any, .any, .any, encNs t, .int .i64 t.length, .int .i64 k, .any, .any, .any, .any, .any, .any, .any, .any, .any, .any, .any, .any, .any, .any, .any, .any, .any, .any, .any], ⟨H.lv + 1, [some (.map (mapF t k))], E⟩, [], E⟩) _ (weak_tmps (t' := [encNs t, .any, .any, .map (H.lv + 1) 0, .any, .any, .any, .any, .any, encNs t, .int .i64 t.length, .int .i64 (0 : Nat), .any, .any, .any, .any, .any, .any, .any, .any, .any, .any, .any, .any, .any, .any, .any, .any, .any, .any, .any]) ?_) rfl ?_
  · rw [encNs]
    repeat (first | exact VLeL.nil | refine VLeL.cons (by first | exact VLe.refl _ | exact VLe.any _) ?_)
  rintro k σ hk rfl
  repeat (first | refine sat_seq ?_ | refine sat_block ?_ | refine sat_skip ?_ | refine sat_exit ?_)
  refine sat_reg [] (by simp -implicitDefEqProofs [runC, runQ, wantedV, ox, pv, St.ev, St.put, ofConst, ofLeaf, pBuiltin, pLen, intBin, strBin, pIndexAddr, pLoad, pFieldAddr, pExtract, pIndex, pNilCheck, pUn, pMinMax, pSlice, bounds3, bnd, pLookup, mapEs, keyKind, findV, sameV, pMakeInterface, pTypeAssert, pConvert, pBuild, fieldPlaces, fillV, partsOf, pBuildSlice, inOrder, target, hAlloc, hBox, hStore, hMakeMap, hMapUpdate, putEs, Heap.get, Heap.push, Heap.set, V.cells, V.solid, V.leaf, splice, aelem, elemsOf, srcOf, appendTo, fits, withCells]; rfl) claims_nil ?_
  repeat (first | refine sat_seq ?_ | refine sat_block ?_ | refine sat_skip ?_ | refine sat_exit ?_)
  refine sat_cond rfl (fun hb => ?_) (fun hb => ?_)
  · repeat (first | refine sat_seq ?_ | refine sat_block ?_ | refine sat_skip ?_ | refine sat_exit ?_)
    have hlt : k < t.length := by simpa using hb
    have hx : t[k]? = some t[k] := List.getElem?_eq_getElem hlt
    obtain ⟨hf1, hf2⟩ := mapF_find t t[k].path k (by omega)
    refine sat_reg [] (by simp -implicitDefEqProofs [runC, runQ, wantedV, ox, pv, St.ev, St.put, ofConst, ofLeaf, pBuiltin, pLen, intBin, strBin, pIndexAddr, pLoad, pFieldAddr, pExtract, pIndex, pNilCheck, pUn, pMinMax, pSlice, bounds3, bnd, pLookup, mapEs, keyKind, findV, sameV, pMakeInterface, pTypeAssert, pConvert, pBuild, fieldPlaces, fillV, partsOf, pBuildSlice, inOrder, target, hAlloc, hBox, hStore, hMakeMap, hMapUpdate, putEs, Heap.get, Heap.push, Heap.set, V.cells, V.solid, V.leaf, splice, aelem, elemsOf, srcOf, appendTo, fits, withCells, encNs, GNode.el_eq, hx]; rfl) claims_nil ?_
    repeat (first | refine sat_seq ?_ | refine sat_block ?_ | refine sat_skip ?_ | refine sat_exit ?_)
    cases hp : find27 (t.take k) t[k].path with
    | some i =>
      obtain ⟨j, hq⟩ := hf1 i hp
      refine sat_reg [] (by simp -implicitDefEqProofs [runC, runQ, wantedV, ox, pv, St.ev, St.put, ofConst, ofLeaf, pBuiltin, pLen, intBin, strBin, pIndexAddr, pLoad, pFieldAddr, pExtract, pIndex, pNilCheck, pUn, pMinMax, pSlice, bounds3, bnd, pLookup, mapEs, keyKind, findV, sameV, pMakeInterface, pTypeAssert, pConvert, pBuild, fieldPlaces, fillV, partsOf, pBuildSlice, inOrder, target, hAlloc, hBox, hStore, hMakeMap, hMapUpdate, putEs, Heap.get, Heap.push, Heap.set, V.cells, V.solid, V.leaf, splice, aelem, elemsOf, srcOf, appendTo, fits, withCells, hq]; rfl) claims_nil ?_
      repeat (first | refine sat_seq ?_ | refine sat_block ?_ | refine sat_skip ?_ | refine sat_exit ?_)
      refine sat_reg [] (by simp -implicitDefEqProofs [runC, runQ, wantedV, ox, pv, St.ev, St.put, ofConst, ofLeaf, pBuiltin, pLen, intBin, strBin, pIndexAddr, pLoad, pFieldAddr, pExtract, pIndex, pNilCheck, pUn, pMinMax, pSlice, bounds3, bnd, pLookup, mapEs, keyKind, findV, sameV, pMakeInterface, pTypeAssert, pConvert, pBuild, fieldPlaces, fillV, partsOf, pBuildSlice, inOrder, target, hAlloc, hBox, hStore, hMakeMap, hMapUpdate, putEs, Heap.get, Heap.push, Heap.set, V.cells, V.solid, V.leaf, splice, aelem, elemsOf, srcOf, appendTo, fits, withCells]; rfl) claims_nil ?_
      repeat (first | refine sat_seq ?_ | refine sat_block ?_ | refine sat_skip ?_ | refine sat_exit ?_)
      refine sat_cond rfl (fun hc => ?_) (fun hc => ?_)
      · simp at hc
      · repeat (first | refine sat_seq ?_ | refine sat_block ?_ | refine sat_skip ?_ | refine sat_exit ?_ | refine sat_reg [] (by simp -implicitDefEqProofs [runC, runQ, wantedV, ox, pv, St.ev, St.put, ofConst, ofLeaf, pBuiltin, pLen, intBin, strBin, pIndexAddr, pLoad, pFieldAddr, pExtract, pIndex, pNilCheck, pUn, pMinMax, pSlice, bounds3, bnd, pLookup, mapEs, keyKind, findV, sameV, pMakeInterface, pTypeAssert, pConvert, pBuild, fieldPlaces, fillV, partsOf, pBuildSlice, inOrder, target, hAlloc, hBox, hStore, hMakeMap, hMapUpdate, putEs, Heap.get, Heap.push, Heap.set, V.cells, V.solid, V.leaf, splice, aelem, elemsOf, srcOf, appendTo, fits, withCells, wr1 (show k ≤ 4611686018427387904 by omega)]; rfl) claims_nil ?_ | refine sat_drw (by kernel_rfl) (by kernel_rfl) [] (by simp -implicitDefEqProofs [runC, runQ, wantedV, ox, pv, St.ev, St.put, ofConst, ofLeaf, pBuiltin, pLen, intBin, strBin, pIndexAddr, pLoad, pFieldAddr, pExtract, pIndex, pNilCheck, pUn, pMinMax, pSlice, bounds3, bnd, pLookup, mapEs, keyKind, findV, sameV, pMakeInterface, pTypeAssert, pConvert, pBuild, fieldPlaces, fillV, partsOf, pBuildSlice, inOrder, target, hAlloc, hBox, hStore, hMakeMap, hMapUpdate, putEs, Heap.get, Heap.push, Heap.set, V.cells, V.solid, V.leaf, splice, aelem, elemsOf, srcOf, appendTo, fits, withCells, wr1 (show k ≤ 4611686018427387904 by omega)]; rfl) claims_nil ?_)
        refine ⟨hlt, _, weak_to ([encNs t, .any, .any, .map (H.lv + 1) 0, .any, .any, .any, .any, .any, encNs t, .int .i64 t.length, .int .i64 (k + 1 : Nat), .any, .any, .any, .any, .any, .any, .any, .any, .any, .any, .any, .any, .any, .any, .any, .any, .any, .any, .any]) 1 ?_ ?_ ?_ rfl rfl, ?_⟩
        · rw [encNs]
          repeat (first | exact VLeL.nil | refine VLeL.cons (by first | exact VLe.refl _ | exact VLe.any _) ?_)
        · simp [V.kin, V.kinL, encNs_kin, keep]
        · intro o ho
          simp at ho
          subst ho
          exact mapF_kin t k
        · simp [mapF, hx, hp]
    | none =>
      have hq := hf2 hp
      refine sat_reg [] (by simp -implicitDefEqProofs [runC, runQ, wantedV, ox, pv, St.ev, St.put, ofConst, ofLeaf, pBuiltin, pLen, intBin, strBin, pIndexAddr, pLoad, pFieldAddr, pExtract, pIndex, pNilCheck, pUn, pMinMax, pSlice, bounds3, bnd, pLookup, mapEs, keyKind, findV, sameV, pMakeInterface, pTypeAssert, pConvert, pBuild, fieldPlaces, fillV, partsOf, pBuildSlice, inOrder, target, hAlloc, hBox, hStore, hMakeMap, hMapUpdate, putEs, Heap.get, Heap.push, Heap.set, V.cells, V.solid, V.leaf, splice, aelem, elemsOf, srcOf, appendTo, fits, withCells, hq]; rfl) claims_nil ?_
      repeat (first | refine sat_seq ?_ | refine sat_block ?_ | refine sat_skip ?_ | refine sat_exit ?_)
      refine sat_reg [] (by simp -implicitDefEqProofs [runC, runQ, wantedV, ox, pv, St.ev, St.put, ofConst, ofLeaf, pBuiltin, pLen, intBin, strBin, pIndexAddr, pLoad, pFieldAddr, pExtract, pIndex, pNilCheck, pUn, pMinMax, pSlice, bounds3, bnd, pLookup, mapEs, keyKind, findV, sameV, pMakeInterface, pTypeAssert, pConvert, pBuild, fieldPlaces, fillV, partsOf, pBuildSlice, inOrder, target, hAlloc, hBox, hStore, hMakeMap, hMapUpdate, putEs, Heap.get, Heap.push, Heap.set, V.cells, V.solid, V.leaf, splice, aelem, elemsOf, srcOf, appendTo, fits, withCells]; rfl) claims_nil ?_
      repeat (first | refine sat_seq ?_ | refine sat_block ?_ | refine sat_skip ?_ | refine sat_exit ?_)
      refine sat_cond rfl (fun hc => ?_) (fun hc => ?_)
      · repeat (first | refine sat_seq ?_ | refine sat_block ?_ | refine sat_skip ?_ | refine sat_exit ?_)
        refine sat_reg [] (by simp -implicitDefEqProofs [runC, runQ, wantedV, ox, pv, St.ev, St.put, ofConst, ofLeaf, pBuiltin, pLen, intBin, strBin, pIndexAddr, pLoad, pFieldAddr, pExtract, pIndex, pNilCheck, pUn, pMinMax, pSlice, bounds3, bnd, pLookup, mapEs, keyKind, findV, sameV, pMakeInterface, pTypeAssert, pConvert, pBuild, fieldPlaces, fillV, partsOf, pBuildSlice, inOrder, target, hAlloc, hBox, hStore, hMakeMap, hMapUpdate, putEs, Heap.get, Heap.push, Heap.set, V.cells, V.solid, V.leaf, splice, aelem, elemsOf, srcOf, appendTo, fits, withCells, hq]; rfl) claims_nil ?_
        repeat (first | refine sat_seq ?_ | refine sat_block ?_ | refine sat_skip ?_ | refine sat_exit ?_ | refine sat_reg [] (by simp -implicitDefEqProofs [runC, runQ, wantedV, ox, pv, St.ev, St.put, ofConst, ofLeaf, pBuiltin, pLen, intBin, strBin, pIndexAddr, pLoad, pFieldAddr, pExtract, pIndex, pNilCheck, pUn, pMinMax, pSlice, bounds3, bnd, pLookup, mapEs, keyKind, findV, sameV, pMakeInterface, pTypeAssert, pConvert, pBuild, fieldPlaces, fillV, partsOf, pBuildSlice, inOrder, target, hAlloc, hBox, hStore, hMakeMap, hMapUpdate, putEs, Heap.get, Heap.push, Heap.set, V.cells, V.solid, V.leaf, splice, aelem, elemsOf, srcOf, appendTo, fits, withCells, wr1 (show k ≤ 4611686018427387904 by omega)]; rfl) claims_nil ?_ | refine sat_drw (by kernel_rfl) (by kernel_rfl) [] (by simp -implicitDefEqProofs [runC, runQ, wantedV, ox, pv, St.ev, St.put, ofConst, ofLeaf, pBuiltin, pLen, intBin, strBin, pIndexAddr, pLoad, pFieldAddr, pExtract, pIndex, pNilCheck, pUn, pMinMax, pSlice, bounds3, bnd, pLookup, mapEs, keyKind, findV, sameV, pMakeInterface, pTypeAssert, pConvert, pBuild, fieldPlaces, fillV, partsOf, pBuildSlice, inOrder, target, hAlloc, hBox, hStore, hMakeMap, hMapUpdate, putEs, Heap.get, Heap.push, Heap.set, V.cells, V.solid, V.leaf, splice, aelem, elemsOf, srcOf, appendTo, fits, withCells, wr1 (show k ≤ 4611686018427387904 by omega)]; rfl) claims_nil ?_)
        have hm : mapF t (k + 1) = mapF t k ++ [(.str t[k].path, .int .i64 k)] := by simp [mapF, hx, hp]
        refine ⟨hlt, _, weak_to ([encNs t, .any, .any, .map (H.lv + 1) 0, .any, .any, .any, .any, .any, encNs t, .int .i64 t.length, .int .i64 (k + 1 : Nat), .any, .any, .any, .any, .any, .any, .any, .any, .any, .any, .any, .any, .any, .any, .any, .any, .any, .any, .any]) 1 ?_ ?_ ?_ rfl rfl, ?_⟩
        · rw [encNs]
          repeat (first | exact VLeL.nil | refine VLeL.cons (by first | exact VLe.refl _ | exact VLe.any _) ?_)
        · simp [V.kin, V.kinL, encNs_kin, keep]
        · intro o ho
          simp at ho
          subst ho
          rw [← hm]
          exact mapF_kin t (k + 1)
        · rw [hm]; simp
      · simp at hc
  · have hkl : k = t.length := by simp at hb; omega
    subst hkl
    repeat (first | refine sat_seq ?_ | refine sat_block ?_ | refine sat_skip ?_ | refine sat_exit ?_ | refine sat_reg [] (by simp -implicitDefEqProofs [runC, runQ, wantedV, ox, pv, St.ev, St.put, ofConst, ofLeaf, pBuiltin, pLen, intBin, strBin, pIndexAddr, pLoad, pFieldAddr, pExtract, pIndex, pNilCheck, pUn, pMinMax, pSlice, bounds3, bnd, pLookup, mapEs, keyKind, findV, sameV, pMakeInterface, pTypeAssert, pConvert, pBuild, fieldPlaces, fillV, partsOf, pBuildSlice, inOrder, target, hAlloc, hBox, hStore, hMakeMap, hMapUpdate, putEs, Heap.get, Heap.push, Heap.set, V.cells, V.solid, V.leaf, splice, aelem, elemsOf, srcOf, appendTo, fits, withCells]; rfl) claims_nil ?_ | refine sat_drw (by kernel_rfl) (by kernel_rfl) [] (by simp -implicitDefEqProofs [runC, runQ, wantedV, ox, pv, St.ev, St.put, ofConst, ofLeaf, pBuiltin, pLen, intBin, strBin, pIndexAddr, pLoad, pFieldAddr, pExtract, pIndex, pNilCheck, pUn, pMinMax, pSlice, bounds3, bnd, pLookup, mapEs, keyKind, findV, sameV, pMakeInterface, pTypeAssert, pConvert, pBuild, fieldPlaces, fillV, partsOf, pBuildSlice, inOrder, target, hAlloc, hBox, hStore, hMakeMap, hMapUpdate, putEs, Heap.get, Heap.push, Heap.set, V.cells, V.solid, V.leaf, splice, aelem, elemsOf, srcOf, appendTo, fits, withCells]; rfl) claims_nil ?_)
    refine sat_ret ?_
    refine ⟨_, by simp [resultsV, resL, resV, tupOf, Try.f9]; rfl, rfl, ?_⟩
    refine (show V.ren H.lv H.L.length (.map (H.lv + 1) 0) = .map H.lv H.L.length by simp [V.ren]) ▸ backX_pure [some (.map (mapF t t.length))] rfl hE.symm rfl fun i o' ho => ?_
    match i with
    | 0 =>
      simp at ho
      exact ⟨_, rfl, by rw [← ho]; exact (oren_id (mapF_kin t _)).symm⟩
    | i + 1 => simp at ho
