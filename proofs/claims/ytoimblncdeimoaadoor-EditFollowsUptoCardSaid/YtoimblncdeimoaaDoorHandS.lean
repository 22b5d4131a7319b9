/-
  strings.Split AND strings.Join AT "/", by the kit's contracts.
-/
import Derived.Test.YtoimblncdeimoaaDoorShelfP
import Derived.Test.YtoimblncdeimoaaDoorFns
import Derived.Test.YtoimblncdeimoaaDoorAbRunes
import Derived.Test.YtoimblncdeimoaaDoorAbFlat
namespace Go.Proofs
open Go Go.Ab Go.RowKit
set_option linter.unusedVariables false
set_option linter.unusedSimpArgs false

theorem splitK_parts (b : UInt8) : ∀ (k : Nat) (s : List UInt8), s.countP (· == b) = k → Lib.splitK [b] 0 k s = parts b s
  | 0, s, h => by
    have ha : s.any (· == b) = false := by
      rw [List.any_eq_false]
      intro x hx
      have := List.countP_eq_zero.1 h x hx
      simpa using this
    rw [parts_eq, cut_no ha]; rfl
  | k + 1, s, h => by
    have ha : s.any (· == b) = true := by
      rw [List.any_eq_true]
      obtain ⟨x, hx, hp⟩ := List.countP_pos_iff.1 (show 0 < s.countP (· == b) by omega)
      exact ⟨x, hx, hp⟩
    obtain ⟨c1, c2, c3⟩ := cut_idx ha
    have hi : Lib.index s [b] = ((s.takeWhile (· != b)).length : Int) := by rw [Lib.index_one, index_at, if_pos ha]
    have hn : ¬ (Lib.index s [b] == -1) = true := fun e => by have := beq_iff_eq.1 e; omega
    have hc : (cutAt b s).2.2 = true := ha
    have hlen := congrArg List.length (parts_eq b s)
    rw [if_pos hc, parts_count, List.length_cons, parts_count] at hlen
    rw [Lib.splitK, if_neg hn, hi, Int.toNat_natCast, parts_eq, if_pos hc]
    congr 1
    · rw [List.length_singleton, c3]
      exact splitK_parts b k _ (by show (cutAt b s).2.1.countP _ = _; omega)

theorem split_calls (s : ByteArray) (w : World) (hs : s.size < 4294967281) : Calls Tryd.prog 10 #[.string s, .string ⟨#[47]⟩] w fun e w' =>
    ∃ l : List ByteArray, l.map (·.data.toList) = parts 47 s.data.toList ∧ e = .returned (.slice (some ⟨w.heap.size, 0, none⟩) l.length l.length) ∧ w' = w.alloc (.cells (l.map Value.string).toArray 9) := by
  have h1 : 1 ≤ (⟨#[47]⟩ : ByteArray).size := by decide
  have hlen := Lib.splitB_all ⟨#[47]⟩ h1 0 _ s rfl
  have c := Any.strings_genSplit_core (ρ := Tryd.lays146_ren) { Tryd.lays146 with } (by kernel_rfl) s ⟨#[47]⟩ 0 (-1) (Lib.countB s ⟨#[47]⟩ + 1) w hs h1 (Nat.zero_le _)
    (fun x c hx => (Any.strings_Index_one { Tryd.lays146 with } x 47 _).mono fun e w' ⟨a1, a2⟩ => ⟨by rw [a1]; exact congrArg (fun z => Ending.returned (Value.int .i64 z)) (Lib.index_one _ _).symm, a2⟩)
    ((Any.strings_Count_one { Tryd.lays146 with } s 47 w).mono fun e w' ⟨a1, a2⟩ => ⟨by
      rw [a1]
      show _ = Ending.returned (Value.int .i64 ((Lib.count s.data.toList [47] : Nat) : Int))
      rw [Lib.count_one]; rfl, a2⟩) (by decide) (by decide) (by rw [if_pos (by decide)]; have := Lib.countB_le ⟨#[47]⟩ h1 s.size s (Nat.le_refl _); omega)
  rw [Nat.add_sub_cancel, hlen] at c
  have e2 : Lib.cellsOf (Lib.splitB ⟨#[47]⟩ 0 (Lib.countB s ⟨#[47]⟩) s) (Lib.countB s ⟨#[47]⟩ + 1) = ((Lib.splitB ⟨#[47]⟩ 0 (Lib.countB s ⟨#[47]⟩) s).map Value.string).toArray := by rw [← hlen]; exact Lib.cellsOf_full _
  rw [e2] at c
  have hp : (Lib.splitB ⟨#[47]⟩ 0 (Lib.countB s ⟨#[47]⟩) s).map (·.data.toList) = parts 47 s.data.toList := by
    rw [Lib.splitB_data]
    refine splitK_parts 47 _ _ ?_
    show _ = Lib.count s.data.toList [47]
    rw [Lib.count_one]; rfl
  go_enter Tryd.func10, Tryd.ntmps10
  go_wp2_with (go_at_call 18; refine c.mono ?_; rintro e w' ⟨rfl, hw⟩; rw [hw])
  go_ret
  refine ⟨_, hp, ?_, rfl⟩
  rw [hlen]; rfl

/-- a slice that somebody has made for us -/
theorem accG_new {lv : Nat} {L : List (Option AObj)} {al : List AccE} {ol : List (Nat × AObj)} (h : AccG lv L al ol) (ty sz : Nat) (xs : List V) (w : Bool) :
    AccG lv (L ++ [some (.arr 0 ty sz xs none)]) (⟨ty, sz, .hs lv L.length 0 0 xs.length false, xs, w⟩ :: al) ol := by
  refine ⟨?_, h.nodup⟩
  obtain ⟨ks, h1, h2, h3, h4⟩ := h.accs
  have hlt : ∀ (j n : Nat), ks[j]? = some (some n) → n < L.length := fun j n hj => by
    have hl := (List.getElem?_eq_some_iff.1 hj).1
    exact (h2 j _ _ hj (List.getElem?_eq_getElem (by omega))).lt
  refine ⟨some L.length :: ks, by simp [h1], fun j k a hk ha => ?_, fun i j n hi hj => ?_, fun p hp => ⟨?_, fun j hj => ?_⟩⟩
  · cases j with
    | zero =>
      simp only [List.getElem?_cons_zero, Option.some.injEq] at hk ha
      subst hk; subst ha
      exact ⟨0, none, rfl, by simp⟩
    | succ j =>
      have := h2 j k a (by simpa using hk) (by simpa using ha)
      cases k with
      | none => exact this
      | some i => obtain ⟨ver, cp, q1, q2⟩ := this; exact ⟨ver, cp, q1, by rw [List.getElem?_append_left (List.getElem?_eq_some_iff.1 q2).1]; exact q2⟩
  · cases i with
    | zero =>
      simp only [List.getElem?_cons_zero, Option.some.injEq] at hi
      cases j with
      | zero => rfl
      | succ j => have := hlt j n (by simpa using hj); omega
    | succ i =>
      cases j with
      | zero =>
        simp only [List.getElem?_cons_zero, Option.some.injEq] at hj
        have := hlt i n (by simpa using hi); omega
      | succ j => rw [h3 i j n (by simpa using hi) (by simpa using hj)]
  · rw [List.getElem?_append_left (List.getElem?_eq_some_iff.1 (h4 p hp).1).1]; exact (h4 p hp).1
  · cases j with
    | zero =>
      simp only [List.getElem?_cons_zero, Option.some.injEq] at hj
      have := (List.getElem?_eq_some_iff.1 (h4 p hp).1).1
      omega
    | succ j => exact (h4 p hp).2 j (by simpa using hj)

theorem mk_data (s : List UInt8) : (⟨s.toArray⟩ : ByteArray).data.toList = s := rfl

theorem go_strings_Split_own_s47_ok (n : Nat) (a0 : List UInt8) (r : List (List UInt8)) (h : go_strings_Split_own_s47 n a0 = some r) :
    ∀ (lv : Nat) (L : List (Option AObj)) (E : Nat → Nat → Option AObj) (asl : List AccE) (osl : List (Nat × AObj)), AccG lv L asl osl →
      HRel Tryd.prog 10 [.str a0, .str ([47])] ⟨lv, L, E⟩ (fun o H' => ∃ (L' : List (Option AObj)) (v : V), H' = ⟨lv, L', E⟩ ∧ AccG lv L' (⟨9, 1, v, r.map V.str, true⟩ :: asl) osl ∧ o = .ret v) := by
  rw [go_strings_Split_own_s47] at h
  split at h
  · rename_i hb
    injection h with h
    subst h
    intro lv L E asl osl hA W g cargs hG hR
    obtain ⟨x, y, rfl, h0, h1⟩ := args2 hR
    cases h0; cases h1
    refine ⟨Tryd.call10 _ _, (split_calls _ W (by simp only [ByteArray.size]; simp; omega)).mono ?_⟩
    rintro e W' ⟨l, hl, rfl, rfl⟩
    have hl' : (parts 47 a0).map V.str = l.map (fun b => V.str b.data.toList) := by
      rw [mk_data] at hl
      rw [← hl, List.map_map]; rfl
    have hlen : l.length ≤ 1048577 := by
      have e := congrArg List.length hl
      rw [List.length_map, mk_data, parts_count] at e
      have := List.countP_le_length (p := fun x => x == 47) (l := a0)
      omega
    have hrel : ∀ (j : Nat) (x : V) (t : Nat) (v : V), (l.map (fun b => V.str b.data.toList))[j]? = some x → x.cells[t]? = some v → t = 0 ∧ ∃ b : ByteArray, (l.map Value.string).toArray.getD j undef = .string b ∧ v = .str b.data.toList := fun j x t v hj ht => by
      rw [List.getElem?_map, Option.map_eq_some_iff] at hj
      obtain ⟨b, hb, rfl⟩ := hj
      cases t with
      | succ t => simp [V.cells] at ht
      | zero =>
        simp [V.cells] at ht
        exact ⟨rfl, b, by simp [hb], ht.symm⟩
    obtain ⟨hS, hG'⟩ := good_push (O := .cells (l.map Value.string).toArray 9) (o := .arr 0 9 1 (l.map (fun b => V.str b.data.toList)) none) hG l.length fun W1 g1 H1 e1 e2 e3 hs => by
      subst e1; subst e2; subst e3
      refine ⟨(l.map Value.string).toArray, ?_, by decide, by simp [Gh.add], by simp [Gh.add, maxLen]; omega, by simp [Gh.add], (fun n e => by cases e), fun j x hj => ?_, fun j x t v hj ht => ?_, fun j x t v hj ht => ?_⟩
      · simp only [Gh.add, and_self, if_true]
        exact heap_alloc_new' W _
      · rw [List.getElem?_map, Option.map_eq_some_iff] at hj
        obtain ⟨b, hb, rfl⟩ := hj
        rfl
      · obtain ⟨rfl, b, k1, k2⟩ := hrel j x t v hj ht
        rw [Nat.mul_one, Nat.add_zero, k1]; rfl
      · obtain ⟨rfl, b, k1, k2⟩ := hrel j x t v hj ht
        rw [Nat.mul_one, Nat.add_zero, k1, k2]
        exact .str _
    refine ⟨.ret (.hs lv L.length 0 0 ((parts 47 a0).map V.str).length false), ⟨lv, L ++ [some (.arr 0 9 1 ((parts 47 a0).map V.str) none)], E⟩, _, ⟨_, _, rfl, accG_new hA 9 1 _ true, rfl⟩, by rw [hl']; exact hS, by rw [hl']; exact hG', _, rfl, ?_⟩
    rw [hl']
    have hget : (⟨lv, L ++ [some (.arr 0 9 1 (l.map (fun b => V.str b.data.toList)) none)], E⟩ : Heap).get lv L.length = some (.arr 0 9 1 (l.map (fun b => V.str b.data.toList)) none) := by simp [Heap.get]
    refine .hs lv L.length 0 0 _ false _ _ _ (.inr ⟨rfl, rfl⟩) (fun v ty sz xs cp hg => Nat.zero_le _) fun ty sz xs cp hg => ?_
    rw [hget] at hg
    injection hg with hg; injection hg with e1 e2 e3 e4 e5
    subst e4; subst e3
    simp [Gh.add]
  · cases h

theorem join_calls (l : List ByteArray) (bk o c : Nat) (w : World) (hcells : ∀ (j : Nat) x, l[j]? = some x → w.cell? ⟨bk, o + j, none⟩ = some (.string x)) (hN : l.length ≤ 1048576) (hcap : l.length ≤ c)
    (hlen : (Lib.join (l.map (·.data.toList)) [47]).length ≤ 16777216) (h0 : l = [] ∨ bk < w.heap.size) :
    Calls Tryd.prog 12 #[.slice (some ⟨bk, o, none⟩) l.length c, .string ⟨#[47]⟩] w fun e w' => e = .returned (.string ⟨(Lib.join (l.map (·.data.toList)) [47]).toArray⟩) ∧ RowKit.Below w.heap.size w w' := by
  rcases h0 with rfl | hbk
  · exact (Any.strings_Join_none Tryd.lays156 Tryd.Builder_Extra_156 _ c ⟨#[47]⟩ w).mono fun e w' ⟨he, hw⟩ => ⟨he, hw ▸ RowKit.Below.refl _ _⟩
  · exact Any.strings_Join Tryd.lays156 Tryd.Builder_Extra_156 bk o c l ⟨#[47]⟩ w hcells hbk (by omega) hcap (by show (Lib.join (l.map (·.data.toList)) [47]).length ≤ _; omega)

theorem go_strings_Join_s47_ok (n : Nat) (a0 : List (List UInt8)) (r : List UInt8) (h : go_strings_Join_s47 n a0 = some r) : PCall Tryd.prog 12 [.sl 1 (a0.map V.str) false, .str ([47])] (.str r) := by
  rw [go_strings_Join_s47] at h
  split at h
  · rename_i hb
    obtain ⟨hb1, hb2⟩ := hb
    injection h with h
    subst h
    intro H W g cargs hG hR
    obtain ⟨x, y, rfl, h0, h1⟩ := args2 hR
    cases h1
    refine .inl ⟨Tryd.call12 _ _, ?_⟩
    have key : ∀ (l : List ByteArray) (bk o c : Nat), l.map (·.data.toList) = a0 → (∀ (j : Nat) x, l[j]? = some x → W.cell? ⟨bk, o + j, none⟩ = some (.string x)) → l.length ≤ c → (l = [] ∨ bk < W.heap.size) →
        Calls Tryd.prog 12 #[.slice (some ⟨bk, o, none⟩) l.length c, .string ⟨#[47]⟩] W fun e W' => ∃ c g', e = .returned c ∧ Step W g H W' g' H ∧ Go.Ab.Good W' g' H ∧ Rel W' g' H (.str (Lib.join a0 [47])) c := fun l bk o c hl hc hcap hbk => by
      refine (join_calls l bk o c W hc (by have := congrArg List.length hl; rw [List.length_map] at this; omega) hcap (by rw [hl]; exact hb2) hbk).mono ?_
      rintro e W' ⟨rfl, hB⟩
      have hg : Grow W W' := ⟨hB.os, hB.tape, hB.output, hB.size, hB.block⟩
      exact ⟨_, g, rfl, hg.step, hG.grow hg, by rw [hl]; exact .str _⟩
    generalize hxs : a0.map V.str = xs at h0
    cases h0 with
    | slnil =>
      obtain rfl : a0 = [] := by simpa using hxs
      exact (Any.strings_Join_none Tryd.lays156 Tryd.Builder_Extra_156 none 0 ⟨#[47]⟩ W).mono fun e w' ⟨he, hw⟩ => by subst hw; exact ⟨_, g, he, .refl _ _ _, hG, .str _⟩
    | sle _ _ a cap hf =>
      obtain rfl : a0 = [] := by simpa using hxs
      exact (Any.strings_Join_none Tryd.lays156 Tryd.Builder_Extra_156 (some a) cap ⟨#[47]⟩ W).mono fun e w' ⟨he, hw⟩ => by subst hw; exact ⟨_, g, he, .refl _ _ _, hG, .str _⟩
    | sl _ _ _ b o cap c hb' hz hcap hf hs hc ho1 hr =>
      subst hxs
      have hcell : ∀ (j : Nat) (s : List UInt8), a0[j]? = some s → W.cell? ⟨b, o + j, none⟩ = some (.string ⟨s.toArray⟩) := fun j s hj => by
        have e1 : (a0.map V.str)[j]? = some (.str s) := by rw [List.getElem?_map, hj]; rfl
        have e2 := hc j (.str s) 0 (.str s) e1 rfl
        have e3 := hr j (.str s) 0 (.str s) e1 rfl
        rw [Nat.mul_one, Nat.add_zero] at e2
        rw [e2]
        cases hz : c j 0 <;> rw [hz] at e3 <;> cases e3
        rfl
      have := key (a0.map fun s => ⟨s.toArray⟩) b o cap (by rw [List.map_map]; exact (List.map_congr_left fun s _ => mk_data s).trans (List.map_id _)) (fun j x hj => by
        rw [List.getElem?_map, Option.map_eq_some_iff] at hj
        obtain ⟨s, hs, rfl⟩ := hj
        exact hcell j s hs) (by simpa using hcap) (by
        cases a0 with
        | nil => exact .inl rfl
        | cons s t => exact .inr (cell_lt (hcell 0 s rfl)))
      rw [List.length_map] at this ⊢
      exact this
  · cases h
end Go.Proofs
