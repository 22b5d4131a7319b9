import Derived.Test.YtfhpamcehnfhoaaGreatDoorAbHeap
namespace Go.Ab
open Go
set_option linter.unusedSimpArgs false
set_option linter.unusedVariables false
section
variable {W : World} {g : Gh} {H : Heap} {P : Program}

/-! ### maps -/

def hMakeMap (P : Program) (H : Heap) (t : Nat) (r : Option V) : Option (V × Heap) :=
  match r with
  | none => some (.map H.lv H.L.length, H.push (.map []))
  | some (.int _ _) => match P.underlying t with
    | some (.map _ _) => some (.map H.lv H.L.length, H.push (.map []))
    | _ => none
  | _ => none

theorem turns_newMap (hG : Good W g H) {s : Sem Next} (hs : s.run P W = .ok (.value (.map (some W.heap.size))) (W.alloc (.map #[] 0))) : Turns P W g H s (.map H.lv H.L.length) (H.push (.map [])) := by
  obtain ⟨h1, h2⟩ := good_push hG (O := .map #[] 0) (o := .map []) 0 (fun W' g' H' hW hg hH hst => by
    refine ⟨#[], 0, ?_, rfl, by simp, by simp, by simp⟩
    rw [hW, hg]
    simp only [Gh.add, and_self, if_true]
    exact heap_alloc_new' _ _)
  refine ⟨_, _, _, .inl hs, h1, h2, ?_⟩
  have := Rel.map (W := W.alloc (.map #[] 0)) (g := g.add H.lv H.L.length W.heap.size 0) (H := H.push (.map [])) H.lv H.L.length (.inr ⟨rfl, rfl⟩)
  simpa [Gh.add] using this

theorem sound_makeMap (hG : Good W g H) {t : Nat} {r : Option V} {cr : Option Value} {v : V} {H' : Heap} (h : hMakeMap P H t r = some (v, H')) (hr : ORel? W g H r cr) : Turns P W g H (do pure (.value (← Instr.makeMap t cr))) v H' := by
  unfold hMakeMap at h
  split at h
  · injection h with h; injection h with h1 h2; subst h1; subst h2
    cases hr
    exact turns_newMap hG (by simp [Instr.makeMap])
  · split at h
    · rename_i hu
      injection h with h; injection h with h1 h2; subst h1; subst h2
      cases hr with
      | some hr =>
        cases hr
        exact turns_newMap hG (by simp [Instr.makeMap, run_underlying' hu, asInt, asIntOf])
    · cases h
  · cases h

def putEs (es : List (V × V)) (k x : V) : Option (Nat × V) → List (V × V)
  | none => es ++ [(k, x)]
  | some (j, _) => es.set j (k, x)

def hMapUpdate (P : Program) (H : Heap) (t : Nat) (m k x : V) : Option (V × Heap) :=
  match P.underlying t with
  | some (.map kt _) => match m with
    | .map l i => match H.get l i with
      | some (.map es) => match keyKind P kt k with
        | some d => match findV d k es 0 with
          | some r => some (.any, H.set l i (.map (putEs es k x r)))
          | none => none
        | none => none
      | _ => none
    | _ => none
  | _ => none

theorem same_bits {d : TypeDesc} {a b : Value} (h : Instr.sameNow d a b = some true) : Instr.sameBits 10000 b a = true := by
  unfold Instr.sameNow at h
  split at h
  · split at h
    · rename_i hk; subst hk
      simp only [Option.some.injEq, beq_iff_eq] at h; subst h
      simp [Instr.sameBits]
    · cases h
  · simp only [Option.some.injEq] at h
    rename_i a b
    have hab : a = b := (MapKept.bytes_beq a b).1 h
    subst hab
    simp only [Instr.sameBits]
    exact (MapKept.bytes_beq _ _).2 rfl
  · simp only [Option.some.injEq, beq_iff_eq] at h; subst h
    simp [Instr.sameBits]
  · cases h

theorem sound_mapUpdate (hG : Good W g H) {t : Nat} {m k x v : V} {cm ck cx : Value} {H' : Heap} (h : hMapUpdate P H t m k x = some (v, H')) (hm : Rel W g H m cm) (hk : Rel W g H k ck) (hx : Rel W g H x cx) :
    Turns P W g H (do Instr.mapUpdate t cm ck cx; pure .skip) v H' := by
  unfold hMapUpdate at h
  split at h
  · rename_i kt e hu
    split at h
    · rename_i l i
      split at h
      · rename_i es hg
        split at h
        · rename_i d hkk
          split at h
          · rename_i r hf
            injection h with h; injection h with h1 h2; subst h1; subst h2
            cases hm
            obtain ⟨hku, hck⟩ := keyKind_spec (P := P) hkk hk
            obtain ⟨en, clock, b1, b2, b3, b4, b5⟩ := hG.obj _ _ _ hg
            have hlt : g.blk l i < W.heap.size := hG.lt _ _ _ hg
            have hgo := run_getObj_map (P := P) W _ _ _ b1
            have hfs := findV_sound (d := d) hk es en.toList 0 r hf (by simpa using b2) (fun j p hj => by simpa using b5 j p hj)
            -- the new entries
            have fin : ∀ (en' : Array MapEntry) (clock' : Nat), (Instr.mapUpdate t (.map (some (g.blk l i))) ck cx).run P W = .ok () { W with heap := W.heap.setIfInBounds (g.blk l i) (.map en' clock') } →
                en'.size = (putEs es k x r).length → (∀ e ∈ en', e.born < clock') → (∀ (j k : Nat) (e f : MapEntry), en'[j]? = some e → en'[k]? = some f → e.born = f.born → j = k) →
                (∀ (W' : World) (H' : Heap), Step W g H W' g H' → ∀ (j : Nat) (p : V × V), (putEs es k x r)[j]? = some p → ∃ e, en'[j]? = some e ∧ Rel W' g H' p.1 e.key ∧ Rel W' g H' p.2 e.val) →
                Turns P W g H (do Instr.mapUpdate t (.map (some (g.blk l i))) ck cx; pure .skip) .any (H.set l i (.map (putEs es k x r))) := by
              intro en' clock' hrun e1 e2 e3 e4
              have hsets : ∀ b, ({ W with heap := W.heap.setIfInBounds (g.blk l i) (.map en' clock') } : World).heap[b]? = if g.blk l i = b then (if g.blk l i < W.heap.size then some (Obj.map en' clock') else none) else W.heap[b]? := fun b => by
                show (W.heap.setIfInBounds _ _)[b]? = _
                rw [Array.getElem?_setIfInBounds]
              obtain ⟨q1, q2⟩ := good_set hG (o' := .map (putEs es k x r)) hg rfl (W' := { W with heap := W.heap.setIfInBounds (g.blk l i) (.map en' clock') }) rfl rfl rfl (by simp)
                (fun b _ hb => by rw [hsets, if_neg (fun q => hb q.symm)]) (fun _ _ _ _ _ h => by cases h) (fun hst => by
                refine ⟨en', clock', ?_, e1, e2, e3, e4 _ _ hst⟩
                rw [hsets, if_pos rfl, if_pos hlt])
              exact ⟨undef, _, g, .inr ⟨by simp [hrun], rfl⟩, q1, q2, .any _⟩
            cases r with
            | none =>
              simp only at hfs
              have hfk := MapKept.run_findKey (P := P) (w := W) hku hfs
              refine fin (en.push { key := ck, val := cx, born := clock }) (clock + 1) ?_ (by simp [putEs, b2]) ?_ ?_ ?_
              · have hso := MapKept.run_setObj_map (P := P) (w := W) (.map (en.push { key := ck, val := cx, born := clock }) (clock + 1)) b1
                simp [Instr.mapUpdate, run_underlying' hu, hgo, hck, hfk, hso]
              · intro e he
                rcases Array.mem_push.1 he with h | rfl
                · have := b3 e h; omega
                · exact Nat.lt_succ_self _
              · intro j k e f hj hk hef
                rw [Array.getElem?_push] at hj hk
                split at hj
                · rename_i hj'; injection hj with hj; subst hj
                  split at hk
                  · rename_i hk'; omega
                  · have := b3 f (Array.mem_of_getElem? hk)
                    simp only at hef; omega
                · split at hk
                  · rename_i hk'; injection hk with hk; subst hk
                    have := b3 e (Array.mem_of_getElem? hj)
                    simp only at hef; omega
                  · exact b4 j k e f hj hk hef
              · intro W' H' hst j p hj
                simp only [putEs] at hj
                rw [List.getElem?_append] at hj
                split at hj
                · obtain ⟨e, h1, h2, h3⟩ := b5 j p hj
                  refine ⟨e, ?_, h2.mono hst, h3.mono hst⟩
                  rw [Array.getElem?_push, if_neg (by omega)]; exact h1
                · rename_i hge
                  have : j = es.length := by
                    have := (List.getElem?_eq_some_iff.1 hj).1
                    simp at this; omega
                  subst this
                  simp at hj; subst hj
                  refine ⟨{ key := ck, val := cx, born := clock }, ?_, hk.mono hst, hx.mono hst⟩
                  rw [Array.getElem?_push, if_pos b2.symm]
            | some q =>
              obtain ⟨j0, v0⟩ := q
              obtain ⟨e0, f1, f2, f3, f4, p0, f5, f6⟩ := hfs
              simp only [Nat.sub_zero] at f4 f5
              have hfk := MapKept.run_findKey (P := P) (w := W) hku f1
              have hej : en[j0]? = some e0 := by simpa using f4
              obtain ⟨e0', g1, g2, _⟩ := b5 j0 p0 f5
              rw [hej] at g1; injection g1 with g1; subst g1
              have hsame := same_bits (sameV_sound f6 hk g2)
              have hjl : j0 < en.size := (Array.getElem?_eq_some_iff.1 hej).1
              refine fin (en.modify j0 fun e => { e with key := ck, val := cx }) clock ?_ (by simp [putEs, b2]) ?_ ?_ ?_
              · have hso := MapKept.run_setObj_map (P := P) (w := W) (.map (en.modify j0 fun e => { e with key := ck, val := cx }) clock) b1
                simp [Instr.mapUpdate, run_underlying' hu, hgo, hck, hfk, hej, Instr.keyThatStays, hsame, hso]
              · intro e he
                obtain ⟨j, hj⟩ := Array.getElem?_of_mem he
                rw [Array.getElem?_modify] at hj
                split at hj
                · simp only [Option.map_eq_some_iff] at hj
                  obtain ⟨e', h1, rfl⟩ := hj
                  exact b3 e' (Array.mem_of_getElem? h1)
                · exact b3 e (Array.mem_of_getElem? hj)
              · intro j k e f hj hk hef
                rw [Array.getElem?_modify] at hj hk
                have back : ∀ {j : Nat} {e : MapEntry}, (if j0 = j then Option.map (fun e => ({ e with key := ck, val := cx } : MapEntry)) en[j]? else en[j]?) = some e → ∃ e', en[j]? = some e' ∧ e'.born = e.born := fun {j e} hj => by
                  split at hj
                  · simp only [Option.map_eq_some_iff] at hj
                    obtain ⟨e', h1, rfl⟩ := hj
                    exact ⟨e', h1, rfl⟩
                  · exact ⟨e, hj, rfl⟩
                obtain ⟨e', i1, i2⟩ := back hj
                obtain ⟨f', i3, i4⟩ := back hk
                exact b4 j k e' f' i1 i3 (by omega)
              · intro W' H' hst j p hj
                simp only [putEs] at hj
                rw [List.getElem?_set] at hj
                rw [Array.getElem?_modify]
                split at hj
                · rename_i hjj; subst hjj
                  split at hj
                  · injection hj with hj; subst hj
                    exact ⟨{ e0 with key := ck, val := cx }, by rw [if_pos rfl, hej]; rfl, hk.mono hst, hx.mono hst⟩
                  · cases hj
                · rename_i hjj
                  obtain ⟨e, h1, h2, h3⟩ := b5 j p hj
                  exact ⟨e, by rw [if_neg hjj]; exact h1, h2.mono hst, h3.mono hst⟩
          · cases h
        · cases h
      · cases h
    · cases h
  · cases h

end
end Go.Ab
