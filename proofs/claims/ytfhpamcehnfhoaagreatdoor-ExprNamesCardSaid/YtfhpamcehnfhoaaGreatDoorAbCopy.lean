/-
  copy, FROM ONE PART OF A SLICE OF OURS TO ANOTHER.
-/
import Derived.Test.YtfhpamcehnfhoaaGreatDoorAbHeap4
import Derived.Laws.CopyRow
namespace Go.Ab
open Go
set_option linter.unusedSimpArgs false
set_option linter.unusedVariables false
section
variable {W : World} {g : Gh} {H : Heap} {P : Program}

def hCopy (P : Program) (H : Heap) (t : Nat) (d s : V) : Option (V × Heap) :=
  match P.underlying t with
  | some (.slice e) => if (P.info? e).isSome then
      match d, s with
      | .sl _ [] _, .hs l i ver off n full => match H.get l i with
        | some (.arr ver' _ _ _ _) => if ver' = ver then some (.int .i64 0, H) else none
        | _ => none
      | .hs l i ver off n full, .hs l2 i2 ver2 off2 n2 full2 => if l2 = l ∧ i2 = i ∧ ver2 = ver then
          match H.get l i with
          | some (.arr ver' ty sz xs cp) => if ver' = ver ∧ sz = P.cellsOf e then
              some (.int .i64 (min n2 n : Nat), H.set l i (.arr ver ty sz (xs.take off ++ ((xs.drop off2).take (min n2 n) ++ xs.drop (off + min n2 n))) cp)) else none
          | _ => none
        else none
      | _, _ => none
    else none
  | _ => none

theorem run_copy_part {t u ty e : TypeId} {i : TypeInfo} (ht : P.underlying t = some (.slice e)) (hi : P.info? e = some i) {b o o2 dLen dCap sLen sCap bty : Nat} {cur : Array Value} (hb : W.heap[b]? = some (.cells cur bty (0, 0)))
    (h1 : o + Nat.min sLen dLen * i.size ≤ cur.size) (h2 : o2 + Nat.min sLen dLen * i.size ≤ cur.size) (ho : ∀ j, o2 ≤ j → j < o2 + Nat.min sLen dLen * i.size → (cur.getD j undef).oneCell' = true) :
    (Builtin.copy_ #[t, u] ty #[.slice (some ⟨b, o, none⟩) dLen dCap, .slice (some ⟨b, o2, none⟩) sLen sCap]).run P W =
      .ok (goInt (Nat.min sLen dLen)) (W.setRow b (putCells cur o (cur.extract o2 (o2 + Nat.min sLen dLen * i.size)))) := by
  have hlen : (cur.extract o2 (o2 + Nat.min sLen dLen * i.size)).toList.length = Nat.min sLen dLen * i.size := by simp; omega
  have hl := run_loadCells_list (P := P) (w := W) (a := ⟨b, o2, none⟩) (cur.extract o2 (o2 + Nat.min sLen dLen * i.size)).toList (fun j v hj => by
    have hj' : (cur.extract o2 (o2 + Nat.min sLen dLen * i.size))[j]? = some v := by rw [← Array.getElem?_toList]; exact hj
    have hlt := (Array.getElem?_eq_some_iff.1 hj').1
    rw [Array.getElem?_extract, if_pos (by simp at hlt; omega)] at hj'
    have hadd : (⟨b, o2, none⟩ : Addr).add j = ⟨b, o2 + j, none⟩ := by unfold Addr.add; split <;> simp_all
    rw [hadd]
    simpa [World.cell?, hb] using hj')
  rw [hlen] at hl
  have hst := run_storeCells_at P b o bty (cur.extract o2 (o2 + Nat.min sLen dLen * i.size)).toList 0 cur W hb (by rw [hlen]; simpa using h1) (fun v hv => by
    obtain ⟨j, hj, rfl⟩ := List.getElem_of_mem hv
    have hj' : j < Nat.min sLen dLen * i.size := by rw [← hlen]; exact hj
    have := ho (o2 + j) (by omega) (by omega)
    rw [Array.getD_eq_getD_getElem?] at this
    simpa [show o2 + j < cur.size by omega] using this)
  simp only [Nat.add_zero] at hst
  rw [list_splice_eq cur o _ (by rw [← Array.length_toList, hlen]; exact h1)] at hst
  generalize hq : (cur.extract o2 (o2 + Nat.min sLen dLen * i.size)).toList = q at hl hst
  simp [Builtin.copy_, run_underlying' ht, Builtin.lenOf, Builtin.firstCells, sizeOf, typeInfo, hi, hl, hst]

theorem sound_copy (hG : Good W g H) {t u ty : Nat} {d s v : V} {cd cs : Value} {H' : Heap} (h : hCopy P H t d s = some (v, H')) (hd : Rel W g H d cd) (hs : Rel W g H s cs) :
    Turns P W g H (do pure (.value (← Builtin.copy_ #[t, u] ty #[cd, cs]))) v H' := by
  unfold hCopy at h
  split at h
  · rename_i e ht
    split at h
    · rename_i hi
      obtain ⟨i, hi⟩ := Option.isSome_iff_exists.1 hi
      split at h
      · rename_i sz fu l i' ver off n full
        split at h
        · rename_i ver' ty' sz' xs cp hg
          split at h
          · rename_i hv
            subst hv
            injection h with h; injection h with h1 h2; subst h1; subst h2
            have hrun : (Builtin.copy_ #[t, u] ty #[cd, cs]).run P W = .ok (goInt 0) W := by
              cases hs with
              | hs _ _ _ _ _ _ a m cap hdm hv ha =>
                obtain ⟨rfl, rfl, _, _⟩ := ha _ _ _ _ hg
                cases hd with
                | slnil => simp [Builtin.copy_, run_underlying' ht, Builtin.lenOf, Builtin.firstCells, sizeOf, typeInfo, hi]; rfl
                | sle _ _ a cap' hf => simp [Builtin.copy_, run_underlying' ht, Builtin.lenOf, Builtin.firstCells, sizeOf, typeInfo, hi, storeCells]; rfl
                | sl _ _ _ b o cap' c => simp [Builtin.copy_, run_underlying' ht, Builtin.lenOf, Builtin.firstCells, sizeOf, typeInfo, hi, storeCells]; rfl
            exact ⟨_, W, g, .inl (by simp [hrun]; rfl), .refl _ _ _, hG, .int _ _⟩
          · cases h
        · cases h
      · rename_i l i' ver off n full l2 i2 ver2 off2 n2 full2
        split at h
        · rename_i hk
          obtain ⟨rfl, rfl, rfl⟩ := hk
          split at h
          · rename_i ver' ty' sz xs cp hg
            split at h
            · rename_i hc
              obtain ⟨rfl, hce⟩ := hc
              injection h with h; injection h with h1 h2; subst h1; subst h2
              obtain rfl : sz = i.size := hce.trans (by simp [Program.cellsOf, hi])
              obtain ⟨cur, k1, k2, k3, k3', k4, k5, k6, k7, k8⟩ := hG.obj _ _ _ hg
              cases hd with
              | hs _ _ _ _ _ _ a m cap hdm hv ha =>
                obtain ⟨rfl, rfl, ⟨a1, a2, _⟩, a3⟩ := ha _ _ _ _ hg
                cases hs with
                | hs _ _ _ _ _ _ a' m' cap' hdm' hv' ha' =>
                  obtain ⟨rfl, rfl, ⟨b1, b2, _⟩, b3⟩ := ha' _ _ _ _ hg
                  have hmn : Nat.min m' m = min m' m := rfl
                  have hcap : ∀ q, q ≤ g.cap l2 i2 → q * i.size ≤ cur.size := fun q hq => by rw [k3]; exact Nat.mul_le_mul_right _ hq
                  have f1 : off * i.size + min m' m * i.size ≤ cur.size := by rw [← Nat.add_mul]; exact hcap _ (by omega)
                  have f2 : off2 * i.size + min m' m * i.size ≤ cur.size := by rw [← Nat.add_mul]; exact hcap _ (by omega)
                  -- the cells of an element
                  have cellOf : ∀ (j t : Nat), j < xs.length → t < i.size → ∃ x v, xs[j]? = some x ∧ x.cells[t]? = some v ∧ x.cells.length = i.size := fun j t hj ht' => by
                    have hl := k6 j xs[j] (List.getElem?_eq_getElem hj)
                    exact ⟨xs[j], xs[j].cells[t]'(by omega), List.getElem?_eq_getElem hj, List.getElem?_eq_getElem _, hl⟩
                  have hone : ∀ j, off2 * i.size ≤ j → j < off2 * i.size + min m' m * i.size → (cur.getD j undef).oneCell' = true := fun j q1 q2 => by
                    have hq : j / i.size < xs.length := by
                      have : j < (off2 + min m' m) * i.size := by rw [Nat.add_mul]; exact q2
                      have := Nat.div_lt_of_lt_mul (show j < i.size * (off2 + min m' m) by rw [Nat.mul_comm]; exact this)
                      omega
                    obtain ⟨x, v, e1, e2, _⟩ := cellOf (j / i.size) (j % i.size) hq (Nat.mod_lt _ k2)
                    have := k7 _ _ _ _ e1 e2
                    rwa [Nat.mul_comm, Nat.div_add_mod] at this
                  have hrun := run_copy_part (W := W) (u := u) (ty := ty) (dLen := m) (dCap := cap) (sLen := m') (sCap := cap') ht hi k1 f1 f2 hone
                  rw [hmn] at hrun
                  obtain ⟨p1, p2⟩ := putCells_get cur (off * i.size) (cur.extract (off2 * i.size) (off2 * i.size + min m' m * i.size))
                  obtain ⟨s1, s2, s3, s4⟩ := setRow_good W (g.ab l2 i2) (putCells cur (off * i.size) (cur.extract (off2 * i.size) (off2 * i.size + min m' m * i.size)))
                  have hxl : (xs.take off ++ ((xs.drop off2).take (min m' m) ++ xs.drop (off + min m' m))).length = xs.length := by simp; omega
                  have hget : ∀ j, j < xs.length → (xs.take off ++ ((xs.drop off2).take (min m' m) ++ xs.drop (off + min m' m)))[j]? = if off ≤ j ∧ j < off + min m' m then xs[off2 + (j - off)]? else xs[j]? := fun j hj => by
                    by_cases c1 : j < off
                    · rw [List.getElem?_append_left (by simp; omega), List.getElem?_take, if_pos c1, if_neg (by omega)]
                    · rw [List.getElem?_append_right (by simp; omega)]
                      have l1 : (xs.take off).length = off := by simp; omega
                      rw [l1]
                      have l2 : ((xs.drop off2).take (min m' m)).length = min m' m := by simp; omega
                      by_cases c2 : j < off + min m' m
                      · rw [List.getElem?_append_left (by rw [l2]; omega), List.getElem?_take, if_pos (by omega), List.getElem?_drop, if_pos ⟨by omega, c2⟩]
                      · rw [List.getElem?_append_right (by rw [l2]; omega), l2, List.getElem?_drop, if_neg (by omega)]
                        congr 1; omega
                  have hcell : ∀ j t, j < xs.length → t < i.size → (putCells cur (off * i.size) (cur.extract (off2 * i.size) (off2 * i.size + min m' m * i.size))).getD (j * i.size + t) undef = if off ≤ j ∧ j < off + min m' m then cur.getD ((off2 + (j - off)) * i.size + t) undef else cur.getD (j * i.size + t) undef := fun j t hj htt => by
                    have hex : (cur.extract (off2 * i.size) (off2 * i.size + min m' m * i.size)).size = min m' m * i.size := by simp; omega
                    have hjt : j * i.size + t < cur.size := by
                      have : (j + 1) * i.size ≤ g.cap l2 i2 * i.size := Nat.mul_le_mul_right _ (by omega)
                      rw [Nat.add_mul, Nat.one_mul] at this
                      rw [k3]; omega
                    rw [Array.getD_eq_getD_getElem?, p2 (j * i.size + t)]
                    by_cases c : off ≤ j ∧ j < off + min m' m
                    · have e1 : off * i.size ≤ j * i.size := Nat.mul_le_mul_right _ c.1
                      have e2 : (j + 1) * i.size ≤ (off + min m' m) * i.size := Nat.mul_le_mul_right _ (by omega)
                      rw [Nat.add_mul, Nat.add_mul, Nat.one_mul] at e2
                      have e3 : (j - off) * i.size = j * i.size - off * i.size := Nat.sub_mul _ _ _
                      rw [if_pos ⟨by omega, by rw [hex]; omega, hjt⟩, if_pos c, Array.getD_eq_getD_getElem?, Array.getElem?_extract, if_pos (by omega)]
                      congr 2
                      rw [Nat.add_mul, e3]; omega
                    · rw [if_neg, if_neg c, Array.getD_eq_getD_getElem?]
                      rw [hex]
                      intro hh
                      apply c
                      constructor
                      · rcases Nat.lt_or_ge j off with q | q
                        · have : (j + 1) * i.size ≤ off * i.size := Nat.mul_le_mul_right _ q
                          rw [Nat.add_mul, Nat.one_mul] at this
                          omega
                        · exact q
                      · rcases Nat.lt_or_ge j (off + min m' m) with q | q
                        · exact q
                        · have : (off + min m' m) * i.size ≤ j * i.size := Nat.mul_le_mul_right _ q
                          rw [Nat.add_mul] at this
                          omega
                  have hsel : ∀ (j : Nat) (x : V) (t : Nat) (v : V), (xs.take off ++ ((xs.drop off2).take (min m' m) ++ xs.drop (off + min m' m)))[j]? = some x → x.cells[t]? = some v →
                      ∃ j', xs[j']? = some x ∧ (putCells cur (off * i.size) (cur.extract (off2 * i.size) (off2 * i.size + min m' m * i.size))).getD (j * i.size + t) undef = cur.getD (j' * i.size + t) undef := fun j x t v hj htv => by
                    have hjl : j < xs.length := by rw [← hxl]; exact (List.getElem?_eq_some_iff.1 hj).1
                    rw [hget j hjl] at hj
                    have htl : ∀ j', xs[j']? = some x → t < i.size := fun j' h' => by have := k6 _ _ h'; have := (List.getElem?_eq_some_iff.1 htv).1; omega
                    split at hj
                    · rename_i c
                      exact ⟨_, hj, by rw [hcell j t hjl (htl _ hj), if_pos c]⟩
                    · rename_i c
                      exact ⟨_, hj, by rw [hcell j t hjl (htl _ hj), if_neg c]⟩
                  obtain ⟨q1, q2⟩ := good_set hG (o' := .arr ver' ty' i.size (xs.take off ++ ((xs.drop off2).take (min m' m) ++ xs.drop (off + min m' m))) cp) hg rfl s1 s2 s3 s4 (fun b _ hb => setRow_other W _ b _ hb)
                    (fun ver ty sz zs cp' he => by injection he with e1 e2 e3 e4 e5; subst e1; subst e2; subst e3; subst e4; exact ⟨_, xs, cp, rfl, Nat.le_refl _, fun _ => by rw [hxl]; exact Nat.le_refl _⟩) (fun hst => by
                    refine ⟨_, setRow_heap W _ cur _ ty' _ k1, k2, by rw [p1]; exact k3, k3', by rw [hxl]; exact k4, k5, fun j x hj => ?_, fun j x t v hj htv => ?_, fun j x t v hj htv => ?_⟩
                    · have hjl : j < xs.length := by rw [← hxl]; exact (List.getElem?_eq_some_iff.1 hj).1
                      rw [hget j hjl] at hj
                      split at hj <;> exact k6 _ _ hj
                    · obtain ⟨j', c1, c2⟩ := hsel j x t v hj htv
                      rw [c2]; exact k7 _ _ _ _ c1 htv
                    · obtain ⟨j', c1, c2⟩ := hsel j x t v hj htv
                      rw [c2]; exact (k8 _ _ _ _ c1 htv).mono hst)
                  exact ⟨_, _, g, .inl (by simp [hrun]; rfl), q1, q2, .int _ _⟩
            · cases h
          · cases h
        · cases h
      · cases h
    · cases h
  · cases h
end
end Go.Ab
