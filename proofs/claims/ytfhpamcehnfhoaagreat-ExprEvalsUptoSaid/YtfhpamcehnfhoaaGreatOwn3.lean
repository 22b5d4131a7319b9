/-
  VALUES: ORDER, SUMS, LENGTHS, ELEMENTS.
-/
import Derived.Test.YtfhpamcehnfhoaaGreatOwn2
import Derived.Test.YtfhpamcehnfhoaaGreatLib6
namespace Go.Proofs.YtfhpamcehnfhoaaGreat
open Go Go.Ab
set_option linter.unusedVariables false
set_option linter.unusedSimpArgs false
theorem cmpB : ∀ a b : List UInt8, Lib.compareBytes a b = if a = b then 0 else if Op.bytesLess a b = true then -1 else 1
  | [], [] => by simp [Lib.compareBytes]
  | [], _ :: _ => by simp [Lib.compareBytes, Op.bytesLess]
  | _ :: _, [] => by simp [Lib.compareBytes, Op.bytesLess]
  | x :: a, y :: b => by
    have ih := cmpB a b
    simp only [Lib.compareBytes, Op.bytesLess, ih]
    by_cases h1 : x < y
    · have : x ≠ y := fun h => by subst h; exact absurd h1 (UInt8.lt_irrefl x)
      simp [h1, this]
    · by_cases h2 : y < x
      · have : x ≠ y := fun h => by subst h; exact h1 h2
        simp [h1, h2, this]
      · have : x = y := UInt8.le_antisymm (UInt8.not_lt.1 h2) (UInt8.not_lt.1 h1)
        subst this
        simp
mutual
noncomputable def vorder : GValue → GValue → Int × Int
  | ⟨k, q, t, s, l⟩, b =>
    if k ≠ b.kind then (0, 20)
    else if k = 1 then (rcmp q b.num, 0)
    else if k = 2 then ((if t = b.truth then 0 else if t then 1 else -1), 0)
    else if k = 3 then (Lib.compareBytes s b.str, 0)
    else vorderL l b.list
noncomputable def vorderL : List GValue → List GValue → Int × Int
  | [], [] => (0, 0)
  | [], _ :: _ => (-1, 0)
  | _ :: _, [] => (1, 0)
  | x :: l, y :: m => if eqB x y then vorderL l m else vorder x y
end
theorem vorder_eq (a b : GValue) : vorder a b =
    if a.kind ≠ b.kind then (0, 20)
    else if a.kind = 1 then (rcmp a.num b.num, 0)
    else if a.kind = 2 then ((if a.truth = b.truth then 0 else if a.truth then 1 else -1), 0)
    else if a.kind = 3 then (Lib.compareBytes a.str b.str, 0)
    else vorderL a.list b.list := by cases a; rw [vorder]
theorem vfine_num {v : GValue} (h : vfine v = true) (hk : v.kind = 1) : rok v.num = true := by
  rw [vfine_eq, if_pos hk] at h; simp only [Bool.and_eq_true] at h; exact h.1
theorem vfine_list {v : GValue} (h : vfine v = true) : ∀ x ∈ v.list, vfine x = true := by
  rw [vfine_eq] at h
  split at h
  · simp only [Bool.and_eq_true, List.isEmpty_iff] at h; rw [h.2.2.2]; intro x hx; cases hx
  split at h
  · simp only [Bool.and_eq_true, List.isEmpty_iff] at h; rw [h.2.2]; intro x hx; cases hx
  split at h
  · simp only [Bool.and_eq_true, List.isEmpty_iff] at h; rw [h.2.2.1]; intro x hx; cases hx
  split at h
  · simp only [Bool.and_eq_true, vfineL_all, List.all_eq_true] at h; exact h.2.2.2
  · cases h
theorem strings_Compare {a b : List UInt8} : Ev (fun n => go_strings_Compare n a b) (Lib.compareBytes a b) := by
  rw [ev_strings_Compare, Ev.bind_iff (a := fun n => go_internal_bytealg_CompareString n a b) (y := Lib.compareBytes a b) (.pure rfl), Ev.some_iff]
theorem value_order : ∀ a b : GValue, a.size ≤ 1048576 → vfine a = true → vfine b = true → Ev (fun n => go_value_order n a b) (vorder a b) := vind (P := fun a => ∀ b : GValue, a.size ≤ 1048576 → vfine a = true → vfine b = true → Ev (fun n => go_value_order n a b) (vorder a b)) fun a ih b hs hfa hfb => by
  have hsl := size_list a
  have hlen := len_size a.list
  rw [ev_value_order, vorder_eq]
  by_cases h0 : a.kind = b.kind
  case neg => rw [Ev.pif_t (by simpa using h0), if_pos h0, Ev.some_iff]
  rw [Ev.pif_f (by simpa using h0), if_neg (by simpa using h0)]
  by_cases h1 : a.kind = 1
  · rw [Ev.pif_t (by simpa using h1), if_pos h1, Ev.bind_iff (ratio_Cmp (vfine_num hfa h1) (vfine_num hfb (by omega))), Ev.some_iff]
  rw [Ev.pif_f (by simpa using h1), if_neg h1]
  by_cases h2 : a.kind = 2
  · rw [Ev.pif_t (by simpa using h2), if_pos h2]
    cases a.truth <;> cases b.truth <;> simp [Ev.pif, Ev.some_iff]
  rw [Ev.pif_f (by simpa using h2), if_neg h2]
  by_cases h3 : a.kind = 3
  · rw [Ev.pif_t (by simpa using h3), if_pos h3, Ev.bind_iff strings_Compare, Ev.some_iff]
  rw [Ev.pif_f (by simpa using h3), if_neg h3, GValue.re_eq, GValue.re_eq]
  have loop : ∀ k, k ≤ a.list.length → k ≤ b.list.length → Ev (fun n => go_value_order_L0 n (k : Int) a.list (a.list.length : Int) b a) (vorderL (a.list.drop k) (b.list.drop k)) :=
    down (Q := fun k => k ≤ b.list.length → Ev (fun n => go_value_order_L0 n (k : Int) a.list (a.list.length : Int) b a) (vorderL (a.list.drop k) (b.list.drop k))) (fun hb => by
      rw [ev_value_order_L0, Ev.pif_f (by simp), List.drop_length]
      by_cases hlt : a.list.length < b.list.length
      · rw [Ev.pif_t (by simpa using hlt), Ev.some_iff, ← List.getElem_cons_drop (h := hlt), vorderL]
      · rw [Ev.pif_f (by simpa using hlt), Ev.some_iff, List.drop_of_length_le (by omega), vorderL]) fun k hk ihk hb => by
      have hx := List.getElem_mem hk
      have hsx := size_in hx
      rw [ev_value_order_L0, Ev.pif_t (by simpa using hk), Ev.opt_iff (ix_lt hk), ← List.getElem_cons_drop (h := hk)]
      by_cases he : k = b.list.length
      · rw [Ev.pif_t (by simp; omega), Ev.some_iff, List.drop_of_length_le (l := b.list) (by omega), vorderL]
      · have hk2 : k < b.list.length := by omega
        rw [Ev.pif_f (by simp; omega), Ev.opt_iff (ix_lt hk2), GValue.re_eq, GValue.re_eq, Ev.bind_iff (value_Same _ _ (by omega)), ← List.getElem_cons_drop (h := hk2), vorderL]
        cases hf : eqB a.list[k] b.list[k]
        · rw [Ev.pif_t (by rfl), Ev.opt_iff (ix_lt hk2), GValue.re_eq, Ev.bind_iff (ih _ hx _ (by omega) (vfine_list hfa _ hx) (vfine_list hfb _ (List.getElem_mem hk2))), Ev.some_iff]; rfl
        · rw [Ev.pif_f (by rfl), wrk (by omega), GValue.re_eq, GValue.re_eq, if_pos rfl]
          exact ihk (by omega)
  exact loop 0 (Nat.zero_le _) (Nat.zero_le _)
theorem ref03_compare : ∀ a b : GValue, a.size ≤ 1048576 → vfine a = true → vfine b = true → Ev (fun n => go_ref03_compare n a b) (vorder a b) := vind (P := fun a => ∀ b : GValue, a.size ≤ 1048576 → vfine a = true → vfine b = true → Ev (fun n => go_ref03_compare n a b) (vorder a b)) fun a ih b hs hfa hfb => by
  have hsl := size_list a
  have hlen := len_size a.list
  rw [ev_ref03_compare, vorder_eq]
  by_cases h0 : a.kind = b.kind
  case neg => rw [Ev.pif_t (by simpa using h0), if_pos h0, Ev.some_iff]
  rw [Ev.pif_f (by simpa using h0), if_neg (by simpa using h0)]
  by_cases h1 : a.kind = 1
  · rw [Ev.pif_t (by simpa using h1), if_pos h1, Ev.bind_iff (ref01_Cmp (vfine_num hfa h1) (vfine_num hfb (by omega))), Ev.some_iff]
  rw [Ev.pif_f (by simpa using h1), if_neg h1]
  by_cases h2 : a.kind = 2
  · rw [Ev.pif_t (by simpa using h2), if_pos h2]
    cases a.truth <;> cases b.truth <;> simp [Ev.pif, Ev.some_iff]
  rw [Ev.pif_f (by simpa using h2), if_neg h2]
  by_cases h3 : a.kind = 3
  · rw [Ev.pif_t (by simpa using h3), if_pos h3, cmpB]
    by_cases hab : a.str = b.str
    · rw [Ev.pif_t (by simpa using hab), if_pos hab, Ev.some_iff]
    · rw [Ev.pif_f (by simpa using hab), if_neg hab]
      simp only [Ev.pif, Ev.some_iff]
      split <;> rfl
  rw [Ev.pif_f (by simpa using h3), if_neg h3, GValue.re_eq, GValue.re_eq]
  have fin : ∀ k, (k = a.list.length ∨ k = b.list.length) → k ≤ a.list.length → k ≤ b.list.length → Ev (fun n => go_ref03_compare_L1 n (k : Int) false b a) (vorderL (a.list.drop k) (b.list.drop k)) := fun k hor h1 h2 => by
    rw [ev_ref03_compare_L1, Ev.pif_f (by rfl)]
    by_cases c1 : a.list.length < b.list.length
    · rw [Ev.pif_t (by simpa using c1), Ev.some_iff, List.drop_of_length_le (by omega), ← List.getElem_cons_drop (h := show k < b.list.length by omega), vorderL]
    · rw [Ev.pif_f (by simpa using c1)]
      by_cases c2 : a.list.length > b.list.length
      · rw [Ev.pif_t (by simpa using c2), Ev.some_iff, List.drop_of_length_le (l := b.list) (by omega), ← List.getElem_cons_drop (h := show k < a.list.length by omega), vorderL]
      · rw [Ev.pif_f (by simpa using c2), Ev.some_iff, List.drop_of_length_le (l := b.list) (by omega), List.drop_of_length_le (by omega), vorderL]
  have loop : ∀ k, k ≤ a.list.length → k ≤ b.list.length → Ev (fun n => go_ref03_compare_L0 n (k : Int) b a) (vorderL (a.list.drop k) (b.list.drop k)) :=
    down (Q := fun k => k ≤ b.list.length → Ev (fun n => go_ref03_compare_L0 n (k : Int) b a) (vorderL (a.list.drop k) (b.list.drop k))) (fun hb => by
      rw [ev_ref03_compare_L0, Ev.pif_f (by simp), GValue.re_eq, GValue.re_eq]
      exact fin _ (.inl rfl) (Nat.le_refl _) hb) fun k hk ihk hb => by
      have hx := List.getElem_mem hk
      have hsx := size_in hx
      rw [ev_ref03_compare_L0, Ev.pif_t (by simpa using hk), GValue.re_eq, GValue.re_eq]
      by_cases he : k = b.list.length
      · rw [show decide ((k : Int) < (b.list.length : Int)) = false by simp; omega]
        exact fin _ (.inr he) (by omega) hb
      · have hk2 : k < b.list.length := by omega
        rw [show decide ((k : Int) < (b.list.length : Int)) = true by simp; omega, ev_ref03_compare_L1, Ev.pif_t (by rfl), Ev.opt_iff (ix_lt hk), Ev.opt_iff (ix_lt hk2), GValue.re_eq, GValue.re_eq, Ev.bind_iff (ref03_Same _ _ (by omega)), ← List.getElem_cons_drop (h := hk), ← List.getElem_cons_drop (h := hk2), vorderL]
        cases hf : eqB a.list[k] b.list[k]
        · rw [Ev.pif_t (by rfl), Ev.opt_iff (ix_lt hk), Ev.opt_iff (ix_lt hk2), GValue.re_eq, GValue.re_eq, Ev.bind_iff (ih _ hx _ (by omega) (vfine_list hfa _ hx) (vfine_list hfb _ (List.getElem_mem hk2))), Ev.some_iff]; rfl
        · rw [Ev.pif_f (by rfl), wrk (by omega), GValue.re_eq, GValue.re_eq, if_pos rfl]
          exact ihk (by omega)
  exact loop 0 (Nat.zero_le _) (Nat.zero_le _)
theorem vcheck_fine {v : GValue} (h : vcheck v = 0) : vfine v = true ∧ vparts v ≤ 100 ∧ vdeep v ≤ 6 := by
  unfold vcheck at h
  split at h
  · cases h
  · split at h
    · exact ⟨‹_›, by omega, by omega⟩
    · cases h
/-- what is wrong with two values -/
def vboth (a b : GValue) : Int := if vcheck a = 0 then vcheck b else vcheck a
theorem value_both {a b : GValue} (ha : a.wf) (hb : b.wf) (sa : a.size ≤ 1048576) (sb : b.size ≤ 1048576) : Ev (fun n => go_value_both n a b) (vboth a b) := by
  rw [ev_value_both, GValue.re_eq, GValue.re_eq, Ev.bind_iff (value_Check ha sa)]
  unfold vboth
  by_cases h : vcheck a = 0
  · rw [Ev.pif_f (by simpa using h), Ev.bind_iff (value_Check hb sb), if_pos h, Ev.some_iff]
  · rw [Ev.pif_t (by simpa using h), if_neg h, Ev.some_iff]
theorem ref03_both {a b : GValue} (sa : a.size ≤ 1048576) (sb : b.size ≤ 1048576) : Ev (fun n => go_ref03_both n a b) (vboth a b) := by
  rw [ev_ref03_both, GValue.re_eq, GValue.re_eq, Ev.bind_iff (ref03_Check sa)]
  unfold vboth
  by_cases h : vcheck a = 0
  · rw [Ev.pif_f (by simpa using h), Ev.bind_iff (ref03_Check sb), if_pos h, Ev.some_iff]
  · rw [Ev.pif_t (by simpa using h), if_neg h, Ev.bind_iff (ref03_Check sa), Ev.some_iff]
theorem vboth_ok {a b : GValue} (h : vboth a b = 0) : vcheck a = 0 ∧ vcheck b = 0 := by
  unfold vboth at h
  split at h
  · exact ⟨‹_›, h⟩
  · exact (‹¬ _› h).elim
noncomputable def vcompare (a b : GValue) : Int × Int := if vboth a b = 0 then vorder a b else (0, vboth a b)
theorem value_Compare {a b : GValue} (ha : a.wf) (hb : b.wf) (sa : a.size ≤ 1048576) (sb : b.size ≤ 1048576) : Ev (fun n => go_value_Compare n a b) (vcompare a b) := by
  rw [ev_value_Compare, GValue.re_eq, GValue.re_eq, Ev.bind_iff (value_both ha hb sa sb)]
  unfold vcompare
  by_cases h : vboth a b = 0
  · obtain ⟨h1, h2⟩ := vboth_ok h
    rw [Ev.pif_f (by simpa using h), if_pos h, Ev.bind_iff (value_order a b sa (vcheck_fine h1).1 (vcheck_fine h2).1), Ev.some_iff]
  · rw [Ev.pif_t (by simpa using h), if_neg h, Ev.some_iff]
theorem ref03_Compare {a b : GValue} (sa : a.size ≤ 1048576) (sb : b.size ≤ 1048576) : Ev (fun n => go_ref03_Compare n a b) (vcompare a b) := by
  rw [ev_ref03_Compare, GValue.re_eq, GValue.re_eq, Ev.bind_iff (ref03_both sa sb)]
  unfold vcompare
  by_cases h : vboth a b = 0
  · obtain ⟨h1, h2⟩ := vboth_ok h
    rw [Ev.pif_f (by simpa using h), if_pos h, Ev.bind_iff (ref03_compare a b sa (vcheck_fine h1).1 (vcheck_fine h2).1), Ev.some_iff]
  · rw [Ev.pif_t (by simpa using h), if_neg h, Ev.bind_iff (ref03_both sa sb), Ev.some_iff]
theorem ext_ok' {α : Type} {x y : List α} (h : x.length + y.length ≤ 268435456) : ext x y = some (x ++ y) := by unfold ext; rw [if_pos (by simpa [roomB] using h)]
/-! ### sums -/
def vadd (a b : GValue) : Int × GValue :=
  if vboth a b ≠ 0 then (vboth a b, v0)
  else if a.kind ≠ b.kind ∨ a.kind = 2 then (20, v0)
  else if a.kind = 1 then (if (rbin fadd a.num b.num).1 ≠ 0 then ((rbin fadd a.num b.num).1, v0) else (0, ⟨1, (rbin fadd a.num b.num).2, false, [], []⟩))
  else if a.kind = 3 then (if a.str.length + b.str.length > 60 then (4, v0) else (0, ⟨3, ⟨0, 0⟩, false, a.str ++ b.str, []⟩))
  else (if vparts a + vparts b - 1 > 100 then (4, v0) else (0, ⟨4, ⟨0, 0⟩, false, [], a.list ++ b.list⟩))
theorem vfine_kind {v : GValue} (h : vfine v = true) : v.kind = 1 ∨ v.kind = 2 ∨ v.kind = 3 ∨ v.kind = 4 := by
  rw [vfine_eq] at h
  by_cases h1 : v.kind = 1; · exact .inl h1
  by_cases h2 : v.kind = 2; · exact .inr (.inl h2)
  by_cases h3 : v.kind = 3; · exact .inr (.inr (.inl h3))
  by_cases h4 : v.kind = 4; · exact .inr (.inr (.inr h4))
  rw [if_neg h1, if_neg h2, if_neg h3, if_neg h4] at h; cases h
theorem vfine4 {v : GValue} (h : vfine v = true) (hk : v.kind = 4) : v.num.num = 0 ∧ v.num.den = 0 ∧ v.truth = false ∧ v.str = [] := by
  rw [vfine_eq, if_neg (by omega), if_neg (by omega), if_neg (by omega), if_pos hk] at h
  simp only [Bool.and_eq_true, nul, beq_iff_eq, Bool.not_eq_true', List.isEmpty_iff] at h
  exact ⟨h.1.1, h.1.2, h.2.1, h.2.2.1⟩
theorem value_Add {a b : GValue} (ha : a.wf) (hb : b.wf) (sa : a.size ≤ 1048576) (sb : b.size ≤ 1048576) : Ev (fun n => go_value_Add n a b) (vadd a b) := by
  have l0 : ∀ a0 a1 a2 a3 a4 a5 a6 a7 a8 a9 a10 a11, Ev (fun n => go_value_Add_L0 n a0 a1 a2 a3 a4 a5 a6 a7 a8 a9 a10 a11) (0, ⟨a5, ⟨a6, a7⟩, a8, a9, a11⟩) := fun a0 a1 a2 a3 a4 a5 a6 a7 a8 a9 a10 a11 => by rw [ev_value_Add_L0, Ev.some_iff]
  rw [ev_value_Add, GValue.re_eq, GValue.re_eq, Ev.bind_iff (value_both ha hb sa sb)]
  unfold vadd
  by_cases h : vboth a b = 0
  case neg => rw [Ev.pif_t (by simpa using h), if_pos h, Ev.some_iff]; rfl
  obtain ⟨c1, c2⟩ := vboth_ok h
  obtain ⟨f1, p1, _⟩ := vcheck_fine c1
  obtain ⟨f2, p2, _⟩ := vcheck_fine c2
  rw [Ev.pif_f (by simpa using h), if_neg (by simpa using h)]
  by_cases hk : a.kind = b.kind
  case neg => rw [Ev.pif_t (by simpa using hk), if_pos (.inl hk), Ev.some_iff]; rfl
  rw [Ev.pif_f (by simpa using hk)]
  by_cases h1 : a.kind = 1
  · rw [Ev.pif_t (by simpa using h1), if_neg (by omega), if_pos h1, Ev.bind_iff (ratio_Add (wf_num ha) (wf_num hb))]
    by_cases hr : (rbin fadd a.num b.num).1 = 0
    · rw [Ev.pif_f (by simpa using hr), if_neg (by simpa using hr)]
      exact (l0 _ _ _ _ _ _ _ _ _ _ _ _).to (by rw [h1])
    · rw [Ev.pif_t (by simpa using hr), if_pos hr, Ev.some_iff]; rfl
  rw [Ev.pif_f (by simpa using h1)]
  by_cases h3 : a.kind = 3
  · rw [Ev.pif_t (by simpa using h3), if_neg (by omega), if_neg h1, if_pos h3]
    have s1 := size_list a; have s2 := size_list b
    rw [Ev.opt_iff (cat_ok (by omega))]
    by_cases hl : a.str.length + b.str.length > 60
    · rw [Ev.pif_t (by simp; omega), if_pos hl, Ev.some_iff]; rfl
    · rw [Ev.pif_f (by simp; omega), if_neg hl]
      exact (l0 _ _ _ _ _ _ _ _ _ _ _ _).to (by rw [h3])
  rw [Ev.pif_f (by simpa using h3)]
  by_cases h4 : a.kind = 4
  · rw [Ev.pif_t (by simpa using h4), if_neg (by omega), if_neg h1, if_neg h3, Ev.bind_iff (value_measure a sa), Ev.bind_iff (value_measure b sb), wI (x := _ + _) (by simp only; omega), wI (x := _ - 1) (by simp only; omega)]
    have q1 := vparts_eq a; have q2 := vparts_eq b
    rw [if_pos h4] at q1
    rw [if_pos (by omega)] at q2
    by_cases hl : vparts a + vparts b - 1 > 100
    · rw [Ev.pif_t (by simp; omega), if_pos hl, Ev.some_iff]; rfl
    · have s1 := size_list a; have s2 := size_list b
      have n1 := len_size a.list; have n2 := len_size b.list
      rw [Ev.pif_f (by simp; omega), if_neg hl, Ev.bind_iff (value_Twin_s2 sa), Ev.bind_iff (value_Twin_s2 sb), Ev.opt_iff (ext_ok' (by simp only; omega))]
      exact (l0 _ _ _ _ _ _ _ _ _ _ _ _).to (by rw [h4])
  · rw [Ev.pif_f (by simpa using h4), Ev.some_iff]
    have := vfine_kind f1
    rw [if_pos (by omega)]; rfl
theorem ref03_Of {r : GRatio} : Ev (fun n => go_ref03_Of n r) ⟨1, r, false, [], []⟩ := by rw [ev_ref03_Of, Ev.some_iff]
theorem ref03_Str {s : List UInt8} : Ev (fun n => go_ref03_Str n s) ⟨3, ⟨0, 0⟩, false, s, []⟩ := by rw [ev_ref03_Str, Ev.some_iff]
theorem ref03_Is {b : Bool} : Ev (fun n => go_ref03_Is n b) ⟨2, ⟨0, 0⟩, b, [], []⟩ := by rw [ev_ref03_Is, Ev.some_iff]
theorem ref03_Add {a b : GValue} (sa : a.size ≤ 1048576) (sb : b.size ≤ 1048576) (sab : a.size + b.size ≤ 1048576) : Ev (fun n => go_ref03_Add n a b) (vadd a b) := by
  rw [ev_ref03_Add, GValue.re_eq, GValue.re_eq, Ev.bind_iff (ref03_both sa sb)]
  unfold vadd
  by_cases h : vboth a b = 0
  case neg => rw [Ev.pif_t (by simpa using h), if_pos h, Ev.bind_iff (ref03_both sa sb), Ev.some_iff]; rfl
  obtain ⟨c1, c2⟩ := vboth_ok h
  obtain ⟨f1, p1, _⟩ := vcheck_fine c1
  obtain ⟨f2, p2, _⟩ := vcheck_fine c2
  rw [Ev.pif_f (by simpa using h), if_neg (by simpa using h)]
  have bad : ∀ a1 a2 a3 a4 a5 a8, Ev (fun n => go_ref03_Add_L0 n true a1 a2 a3 a4 a5 b a a8) (20, v0) := fun a1 a2 a3 a4 a5 a8 => by rw [ev_ref03_Add_L0, Ev.pif_t (by rfl), Ev.some_iff]; rfl
  by_cases hk : a.kind = b.kind
  case neg => rw [Ev.pif_t (by simpa using hk), if_pos (.inl hk)]; exact bad _ _ _ _ _ _
  rw [Ev.pif_f (by simpa using hk)]
  by_cases h2 : a.kind = 2
  · rw [show (a.kind == 2) = true by simpa using h2, if_pos (.inr h2)]; exact bad _ _ _ _ _ _
  rw [show (a.kind == 2) = false by simpa using h2, if_neg (by omega), ev_ref03_Add_L0, Ev.pif_f (by rfl)]
  by_cases h1 : a.kind = 1
  · rw [Ev.pif_t (by simpa using h1), if_pos h1, Ev.bind_iff ref01_Add]
    by_cases hr : (rbin fadd a.num b.num).1 = 0
    · rw [Ev.pif_f (by simpa using hr), if_neg (by simpa using hr), Ev.bind_iff ref03_Of, Ev.some_iff, GValue.re_eq]
    · rw [Ev.pif_t (by simpa using hr), if_pos hr, Ev.some_iff]; rfl
  rw [Ev.pif_f (by simpa using h1), if_neg h1]
  by_cases h3 : a.kind = 3
  · have s1 := size_list a; have s2 := size_list b
    rw [Ev.pif_t (by simpa using h3), if_pos h3, wI (by omega)]
    by_cases hl : a.str.length + b.str.length > 60
    · rw [Ev.pif_t (by simp; omega), if_pos hl, Ev.some_iff]; rfl
    · rw [Ev.pif_f (by simp; omega), if_neg hl, Ev.opt_iff (cat_ok (by omega)), Ev.bind_iff ref03_Str, Ev.some_iff, GValue.re_eq]
  rw [Ev.pif_f (by simpa using h3), if_neg h3, GValue.re_eq, GValue.re_eq]
  have h4 : a.kind = 4 := by have := vfine_kind f1; omega
  have s1 := size_list a; have s2 := size_list b
  have n1 := len_size a.list; have n2 := len_size b.list
  obtain ⟨z1, z2, z3, z4⟩ := vfine4 f1 h4
  have hp : (⟨a.kind, ⟨a.num.num, a.num.den⟩, a.truth, a.str, a.list ++ b.list⟩ : GValue) = ⟨4, ⟨0, 0⟩, false, [], a.list ++ b.list⟩ := by rw [h4, z1, z2, z3, z4]
  have hq : vparts (⟨4, ⟨0, 0⟩, false, [], a.list ++ b.list⟩ : GValue) = vparts a + vparts b - 1 := by
    have app : ∀ l m : List GValue, vpartsL (l ++ m) = vpartsL l + vpartsL m := fun l m => by
      induction l with
      | nil => simp [vpartsL]
      | cons x l ih => simp [vpartsL, ih]; omega
    rw [vparts_eq, vparts_eq a, vparts_eq b, if_pos rfl, if_pos h4, if_pos (by omega), app]; omega
  have hz : (⟨4, ⟨0, 0⟩, false, [], a.list ++ b.list⟩ : GValue).size ≤ 1048576 := by
    rw [GValue.size_eq, GRatio.size_eq, List.map_append, List.sum_append]
    rw [GValue.size_eq a, GRatio.size_eq] at sab
    rw [GValue.size_eq b, GRatio.size_eq] at sab
    simp only [List.length_nil]
    omega
  rw [Ev.bind_iff (ref03_Twin_s2 sa), Ev.bind_iff (ref03_Twin_s2 sb), Ev.opt_iff (ext_ok' (by simp only; omega))]
  simp only [hp]
  rw [Ev.bind_iff (ref03_Parts _ hz), hq]
  by_cases hl : vparts a + vparts b - 1 > 100
  · rw [Ev.pif_t (by simp; omega), if_pos hl, Ev.some_iff]; rfl
  · rw [Ev.pif_f (by simp; omega), if_neg hl, Ev.some_iff]
/-! ### lengths and elements -/
def vlen (v : GValue) : Int × Int := if vcheck v ≠ 0 then (0, vcheck v) else if v.kind = 3 then (v.str.length, 0) else if v.kind = 4 then (v.list.length, 0) else (0, 20)
theorem value_Len {v : GValue} (hw : v.wf) (hs : v.size ≤ 1048576) : Ev (fun n => go_value_Len n v) (vlen v) := by
  rw [ev_value_Len, GValue.re_eq, Ev.bind_iff (value_Check hw hs)]
  unfold vlen
  by_cases h : vcheck v = 0
  · rw [Ev.pif_f (by simpa using h), if_neg (by simpa using h)]
    by_cases h3 : v.kind = 3
    · rw [Ev.pif_t (by simpa using h3), if_pos h3, Ev.some_iff]
    rw [Ev.pif_f (by simpa using h3), if_neg h3]
    by_cases h4 : v.kind = 4
    · rw [Ev.pif_t (by simpa using h4), if_pos h4, Ev.some_iff]
    · rw [Ev.pif_f (by simpa using h4), if_neg h4, Ev.some_iff]
  · rw [Ev.pif_t (by simpa using h), if_pos h, Ev.some_iff]
theorem ref03_Len {v : GValue} (hs : v.size ≤ 1048576) : Ev (fun n => go_ref03_Len n v) (vlen v) := by
  rw [ev_ref03_Len, GValue.re_eq, Ev.bind_iff (ref03_Check hs)]
  unfold vlen
  by_cases h : vcheck v = 0
  · rw [Ev.pif_f (by simpa using h), if_neg (by simpa using h)]
    by_cases h3 : v.kind = 3
    · rw [Ev.pif_t (by simpa using h3), if_pos h3, Ev.some_iff]
    rw [Ev.pif_f (by simpa using h3), if_neg h3]
    by_cases h4 : v.kind = 4
    · rw [Ev.pif_t (by simpa using h4), if_pos h4, Ev.some_iff]
    · rw [Ev.pif_f (by simpa using h4), if_neg h4, Ev.some_iff]
  · rw [Ev.pif_t (by simpa using h), if_pos h, Ev.bind_iff (ref03_Check hs), Ev.some_iff]
def vat (v : GValue) (i : Int) : Int × GValue :=
  if (vlen v).2 ≠ 0 then ((vlen v).2, v0)
  else if i < 0 ∨ i ≥ (vlen v).1 then (2, v0)
  else if v.kind = 4 then (match v.list[i.toNat]? with | some x => (0, x) | none => (0, v0))
  else (0, ⟨3, ⟨0, 0⟩, false, (v.str.drop i.toNat).take 1, []⟩)
theorem vlen_ok {v : GValue} (h : (vlen v).2 = 0) : vcheck v = 0 ∧ ((v.kind = 3 ∧ (vlen v).1 = v.str.length) ∨ (v.kind = 4 ∧ (vlen v).1 = v.list.length)) := by
  unfold vlen at h ⊢
  by_cases h0 : vcheck v = 0
  · refine ⟨h0, ?_⟩
    rw [if_neg (by simpa using h0)] at h ⊢
    by_cases h3 : v.kind = 3
    · rw [if_pos h3]; exact .inl ⟨h3, rfl⟩
    rw [if_neg h3] at h ⊢
    by_cases h4 : v.kind = 4
    · rw [if_pos h4]; exact .inr ⟨h4, rfl⟩
    · rw [if_neg h4] at h; cases h
  · rw [if_pos h0] at h; exact (h0 h).elim
theorem sub_one {s : List UInt8} {i : Int} (h0 : 0 ≤ i) (h1 : i < s.length) : sub s i (i + 1) = some ((s.drop i.toNat).take 1) := by
  unfold sub
  rw [if_pos ⟨h0, by omega, by omega⟩, show (i + 1).toNat = i.toNat + 1 by omega, List.take_drop]
theorem value_At {v : GValue} {i : Int} (hw : v.wf) (hs : v.size ≤ 1048576) : Ev (fun n => go_value_At n v i) (vat v i) := by
  have bad : ∀ a2, Ev (fun n => go_value_At_L0 n i true a2 v) (2, v0) := fun a2 => by rw [ev_value_At_L0, Ev.pif_t (by rfl), Ev.some_iff]; rfl
  rw [ev_value_At, GValue.re_eq, Ev.bind_iff (value_Len hw hs)]
  unfold vat
  by_cases h : (vlen v).2 = 0
  case neg => rw [Ev.pif_t (by simpa using h), if_pos h, Ev.some_iff]; rfl
  rw [Ev.pif_f (by simpa using h), if_neg (by simpa using h)]
  by_cases c1 : i < 0
  · rw [Ev.pif_t (by simpa using c1), if_pos (.inl c1)]; exact bad _
  rw [Ev.pif_f (by simpa using c1)]
  by_cases c2 : i ≥ (vlen v).1
  · rw [show decide (i ≥ (vlen v).1) = true by simpa using c2, if_pos (.inr c2)]; exact bad _
  rw [show decide (i ≥ (vlen v).1) = false by simpa using c2, if_neg (by omega), ev_value_At_L0, Ev.pif_f (by rfl)]
  have s1 := size_list v
  have n1 := len_size v.list
  obtain ⟨_, ⟨h3, e⟩ | ⟨h4, e⟩⟩ := vlen_ok h
  · rw [Ev.pif_f (by simp; omega), if_neg (by omega), wI (by omega), Ev.opt_iff (sub_one (by omega) (by omega)), Ev.some_iff]
  · have hk : i.toNat < v.list.length := by omega
    obtain ⟨j, rfl⟩ : ∃ j : Nat, i = j := ⟨i.toNat, by omega⟩
    have hk : j < v.list.length := by simpa using hk
    have hx := size_in (List.getElem_mem hk)
    rw [Ev.pif_t (by simpa using h4), if_pos h4, Ev.opt_iff (ix_lt hk), GValue.re_eq, Ev.bind_iff (value_Twin (by omega)), Ev.some_iff, GValue.re_eq]
    simp [hk]
theorem ref03_At {v : GValue} {i : Int} (hs : v.size ≤ 1048576) : Ev (fun n => go_ref03_At n v i) (vat v i) := by
  have bad : ∀ a2, Ev (fun n => go_ref03_At_L0 n i true a2 v) (2, v0) := fun a2 => by rw [ev_ref03_At_L0, Ev.pif_t (by rfl), Ev.some_iff]; rfl
  rw [ev_ref03_At, GValue.re_eq, Ev.bind_iff (ref03_Len hs)]
  unfold vat
  by_cases h : (vlen v).2 = 0
  case neg => rw [Ev.pif_t (by simpa using h), if_pos h, Ev.some_iff]; rfl
  rw [Ev.pif_f (by simpa using h), if_neg (by simpa using h)]
  by_cases c1 : i < 0
  · rw [Ev.pif_t (by simpa using c1), if_pos (.inl c1)]; exact bad _
  rw [Ev.pif_f (by simpa using c1)]
  by_cases c2 : i ≥ (vlen v).1
  · rw [show decide (i ≥ (vlen v).1) = true by simpa using c2, if_pos (.inr c2)]; exact bad _
  rw [show decide (i ≥ (vlen v).1) = false by simpa using c2, if_neg (by omega), ev_ref03_At_L0, Ev.pif_f (by rfl)]
  have s1 := size_list v
  have n1 := len_size v.list
  obtain ⟨_, ⟨h3, e⟩ | ⟨h4, e⟩⟩ := vlen_ok h
  · rw [Ev.pif_t (by simp; omega), if_neg (by omega), wI (by omega), Ev.opt_iff (sub_one (by omega) (by omega)), Ev.bind_iff ref03_Str, Ev.some_iff, GValue.re_eq]
  · have hk : i.toNat < v.list.length := by omega
    obtain ⟨j, rfl⟩ : ∃ j : Nat, i = j := ⟨i.toNat, by omega⟩
    have hk : j < v.list.length := by simpa using hk
    have hx := size_in (List.getElem_mem hk)
    rw [Ev.pif_f (by simp; omega), if_pos h4, Ev.opt_iff (ix_lt hk), GValue.re_eq, Ev.bind_iff (ref03_Twin _ (by omega)), Ev.some_iff, GValue.re_eq]
    simp [hk]
end Go.Proofs.YtfhpamcehnfhoaaGreat

namespace Go.Proofs.YtfhpamcehnfhoaaGreat
open Go Go.Ab
set_option linter.unusedVariables false
set_option linter.unusedSimpArgs false
theorem label_Name {s : List UInt8} (hs : s.length ≤ 1048576) : Ev (fun n => go_label_Name n s) (nameOk s) := by
  have l3t : ∀ q, Ev (fun n => go_label_Name_L3 n true s q) false := fun q => by rw [ev_label_Name_L3, Ev.pif_t (by rfl), Ev.some_iff]
  -- one character
  have step : ∀ k (hk : k < s.length) (r : Bool), ((if k = 0 then isLet s[k] else isMid s[k]) = false → r = false) → ((if k = 0 then isLet s[k] else isMid s[k]) = true → Ev (fun n => go_label_Name_L1 n s (k + 1)) r) → Ev (fun n => go_label_Name_L1 n s k) r := fun k hk r hf ht => by
    have l3 : ∀ b, (if k = 0 then isLet s[k] else isMid s[k]) = !b → (b = false → (decL s k).2 = 1) → Ev (fun n => go_label_Name_L3 n b s (k + (decL s k).2)) r := fun b hb h1 => by
      cases b
      · rw [ev_label_Name_L3, Ev.pif_f (by rfl), h1 rfl]; exact ht hb
      · exact (l3t _).to (hf hb).symm
    rw [ev_label_Name_L1, Ev.pif_t (by simpa using hk)]
    by_cases hlow : s[k].toNat < 128
    · have hd := decL_low hk hlow
      rw [hd] at l3
      rw [hd]
      have l2 : ∀ b, b = isLet s[k] → Ev (fun n => go_label_Name_L2 n (s[k].toNat : Int) (k : Int) b s (k + 1)) r := fun b hb => by
        subst hb
        rw [ev_label_Name_L2]
        cases hl : isLet s[k]
        · rw [Ev.pif_t (by rfl)]
          by_cases h0 : k = 0
          · rw [Ev.pif_t (by simpa using h0)]
            exact l3 true (by rw [if_pos h0, hl]; rfl) (by simp)
          · rw [Ev.pif_f (by simpa using h0)]
            by_cases h45 : s[k].toNat = 45
            · have : s[k] = 45 := UInt8.toNat_inj.1 (by simpa using h45)
              rw [Ev.pif_f (by simp; omega)]
              exact l3 false (by rw [if_neg h0, isMid, this]; rfl) (fun _ => rfl)
            · have hne : (s[k] == 45) = false := by
                simp only [beq_eq_false_iff_ne]; intro h; rw [h] at h45; exact h45 rfl
              rw [Ev.pif_t (by simp; omega)]
              by_cases c1 : s[k].toNat < 48
              · rw [Ev.pif_t (by simp; omega)]
                refine l3 true ?_ (by simp)
                rw [if_neg h0, isMid, hl, hne, isDig]; simp; omega
              · rw [Ev.pif_f (by simp; omega)]
                refine l3 _ ?_ (fun _ => rfl)
                rw [if_neg h0, isMid, hl, hne, isDig]
                have e1 : decide (48 ≤ s[k].toNat) = true := by rw [decide_eq_true_eq]; omega
                have e3 : decide ((s[k].toNat : Int) > 57) = !decide (s[k].toNat ≤ 57) := by
                  by_cases c2 : s[k].toNat ≤ 57
                  · rw [show decide (s[k].toNat ≤ 57) = true by rw [decide_eq_true_eq]; exact c2]
                    simp only [Bool.not_true, decide_eq_false_iff_not]; omega
                  · rw [show decide (s[k].toNat ≤ 57) = false by rw [decide_eq_false_iff_not]; exact c2]
                    simp only [Bool.not_false, decide_eq_true_eq]; omega
                rw [e1, e3]; simp
        · rw [Ev.pif_f (by rfl)]
          refine l3 false ?_ (fun _ => rfl)
          split
          · exact hl
          · rw [isMid, hl]; rfl
      simp only
      by_cases c1 : 97 ≤ s[k].toNat
      · rw [Ev.pif_t (by simp; omega)]
        exact l2 _ (by simp [isLet, c1]; omega)
      · rw [Ev.pif_f (by simp; omega)]
        exact l2 _ (by simp [isLet]; omega)
    · obtain ⟨h1, h2⟩ := decL_high hk (by omega)
      have nl : isLet s[k] = false := by simp [isLet]; omega
      have nm : isMid s[k] = false := by
        rw [isMid, nl, isDig]
        have : (s[k] == 45) = false := by simp only [beq_eq_false_iff_ne]; intro h; rw [h] at hlow; exact hlow (by decide)
        rw [this]; simp; omega
      have bad : (if k = 0 then isLet s[k] else isMid s[k]) = false := by split <;> assumption
      rw [Ev.pif_t (by simp; omega), show decide (((decL s k).1 : Int) ≤ 122) = false by simp; omega, ev_label_Name_L2, Ev.pif_t (by rfl)]
      by_cases h0 : k = 0
      · rw [Ev.pif_t (by simpa using h0)]; exact (l3t _).to (hf bad).symm
      · rw [Ev.pif_f (by simpa using h0), Ev.pif_t (by simp; omega), Ev.pif_f (by simp; omega), show decide (((decL s k).1 : Int) > 57) = true by simp; omega]
        exact (l3t _).to (hf bad).symm
  have rest : ∀ k, k ≤ s.length → 1 ≤ k → Ev (fun n => go_label_Name_L1 n s k) ((s.drop k).all isMid) :=
    down (Q := fun k => 1 ≤ k → Ev (fun n => go_label_Name_L1 n s k) ((s.drop k).all isMid)) (fun _ => by
      rw [ev_label_Name_L1, Ev.pif_f (by simp), Ev.some_iff]; simp) fun k hk ih h1 => by
      rw [← List.getElem_cons_drop (h := hk), List.all_cons]
      refine step k hk _ (fun h => ?_) fun h => ?_
      · rw [if_neg (by omega)] at h; rw [h]; rfl
      · rw [if_neg (by omega)] at h; rw [h]; exact ih (by omega)
  rw [ev_label_Name]
  cases s with
  | nil => rw [Ev.pif_t (by rfl), ev_label_Name_L0, Ev.pif_t (by rfl), Ev.some_iff]; rfl
  | cons c t =>
    rw [Ev.pif_f (by simp; omega), ev_label_Name_L0]
    by_cases h40 : (c :: t).length ≤ 40
    · rw [Ev.pif_f (by simp at h40 ⊢; omega)]
      refine step 0 (by simp) _ (fun h => ?_) fun h => ?_
      · rw [if_pos rfl] at h; simp only [List.getElem_cons_zero] at h; simp [nameOk, h]
      · rw [if_pos rfl] at h; simp only [List.getElem_cons_zero] at h
        refine (rest 1 (by simp) (Nat.le_refl _)).to ?_
        simp [nameOk, h]; intro _; simpa using h40
    · rw [Ev.pif_t (by simp at h40 ⊢; omega), Ev.some_iff]
      simp [nameOk]; intro _ _; simpa using h40
theorem ref02_letter {c : UInt8} : Ev (fun n => go_ref02_letter n (c.toNat : Int)) (isLet c) := by
  rw [ev_ref02_letter]
  simp only [Ev.pif, Ev.some_iff, isLet, decide_eq_true_eq]
  split
  · have : 97 ≤ c.toNat := by omega
    simp [this]; omega
  · have : ¬ 97 ≤ c.toNat := by omega
    simp [this]
theorem ref02_digit {c : UInt8} : Ev (fun n => go_ref02_digit n (c.toNat : Int)) (isDig c) := by
  rw [ev_ref02_digit]
  simp only [Ev.pif, Ev.some_iff, isDig, decide_eq_true_eq]
  split
  · have : 48 ≤ c.toNat := by omega
    simp [this]; omega
  · have : ¬ 48 ≤ c.toNat := by omega
    simp [this]
theorem byte45 {c : UInt8} : (((c.toNat : Nat) : Int) != 45) = !(c == 45) := by
  cases h : c == 45 with
  | true => have : c = 45 := by simpa using h
            subst this; rfl
  | false =>
    have : c.toNat ≠ 45 := fun hh => by
      have : c = 45 := UInt8.toNat_inj.1 (by simpa using hh)
      subst this; cases h
    simp; omega
theorem ref02_Name {s : List UInt8} (hs : s.length ≤ 1048576) : Ev (fun n => go_ref02_Name n s) (nameOk s) := by
  have bad : ∀ k : Int, Ev (fun n => go_ref02_Name_L1 n s k true) false := fun k => by rw [ev_ref02_Name_L1, Ev.pif_t (by rfl), Ev.some_iff]
  have step : ∀ k (hk : k < s.length) (r : Bool), ((if k = 0 then isLet s[k] else isMid s[k]) = false → r = false) → ((if k = 0 then isLet s[k] else isMid s[k]) = true → Ev (fun n => go_ref02_Name_L0 n ((k + 1 : Nat) : Int) s) r) → Ev (fun n => go_ref02_Name_L0 n (k : Int) s) r := fun k hk r hf ht => by
    have l1 : ∀ b, (if k = 0 then isLet s[k] else isMid s[k]) = !b → Ev (fun n => go_ref02_Name_L1 n s (k : Int) b) r := fun b hb => by
      cases b
      · rw [ev_ref02_Name_L1, Ev.pif_f (by rfl), wrk (by omega)]; exact ht hb
      · exact (bad _).to (hf hb).symm
    rw [ev_ref02_Name_L0, Ev.pif_t (by simpa using hk), Ev.opt_iff (ix_lt hk), Ev.bind_iff ref02_letter]
    cases hl : isLet s[k]
    · rw [Ev.pif_t (by rfl)]
      by_cases h0 : k = 0
      · rw [Ev.pif_t (by simpa using h0)]; exact l1 true (by rw [if_pos h0, hl]; rfl)
      · rw [Ev.pif_f (by simpa using h0), Ev.opt_iff (ix_lt hk), byte45]
        cases h45 : s[k] == 45
        · rw [Ev.pif_t (by rfl), Ev.opt_iff (ix_lt hk), Ev.bind_iff ref02_digit]
          exact l1 _ (by rw [if_neg h0, isMid, hl, h45]; simp)
        · rw [Ev.pif_f (by rfl)]; exact l1 false (by rw [if_neg h0, isMid, hl, h45]; rfl)
    · rw [Ev.pif_f (by rfl)]
      exact l1 false (by split; exact hl; rw [isMid, hl]; rfl)
  have fin : ∀ r : Bool, r = (decide (1 ≤ s.length) && decide (s.length ≤ 40)) → Ev (fun n => go_ref02_Name_L0 n (s.length : Int) s) r := fun r hr => by
    rw [ev_ref02_Name_L0, Ev.pif_f (by simp), hr]
    by_cases h1 : 1 ≤ s.length
    · rw [Ev.pif_t (by simp; omega), Ev.some_iff]; simp [h1]; omega
    · rw [Ev.pif_f (by simp; omega), Ev.some_iff]; simp [h1]
  have rest : ∀ k, k ≤ s.length → 1 ≤ k → Ev (fun n => go_ref02_Name_L0 n (k : Int) s) ((s.drop k).all isMid && decide (s.length ≤ 40)) :=
    down (Q := fun k => 1 ≤ k → Ev (fun n => go_ref02_Name_L0 n (k : Int) s) ((s.drop k).all isMid && decide (s.length ≤ 40))) (fun h1 => by
      refine fin _ ?_; simp [h1]) fun k hk ih h1 => by
      rw [← List.getElem_cons_drop (h := hk), List.all_cons]
      refine step k hk _ (fun h => ?_) fun h => ?_
      · rw [if_neg (by omega)] at h; rw [h]; rfl
      · rw [if_neg (by omega)] at h; rw [h]; exact ih (by omega)
  rw [ev_ref02_Name]
  cases s with
  | nil => exact fin _ rfl
  | cons c t =>
    refine step 0 (by simp) _ (fun h => ?_) fun h => ?_
    · rw [if_pos rfl] at h; simp only [List.getElem_cons_zero] at h; simp [nameOk, h]
    · rw [if_pos rfl] at h; simp only [List.getElem_cons_zero] at h
      refine (rest 1 (by simp) (Nat.le_refl _)).to ?_
      simp [nameOk, h]
/-- a name of an expression -/
def enamed (s : List UInt8) : Bool := nameOk s && (!(s == [116, 114, 117, 101]) && !(s == [102, 97, 108, 115, 101]))
theorem expr_named {s : List UInt8} (hs : s.length ≤ 1048576) : Ev (fun n => go_expr_named n s) (enamed s) := by
  rw [ev_expr_named, Ev.bind_iff (label_Name hs)]
  unfold enamed
  cases nameOk s <;> cases h : (s == [116, 114, 117, 101]) <;> simp [Ev.pif, Ev.some_iff]
theorem ref04_Named {s : List UInt8} (hs : s.length ≤ 1048576) : Ev (fun n => go_ref04_Named n s) (enamed s) := by
  rw [ev_ref04_Named, Ev.bind_iff (ref02_Name hs)]
  unfold enamed
  cases nameOk s <;> cases h : (s == [116, 114, 117, 101]) <;> simp [Ev.pif, Ev.some_iff]
end Go.Proofs.YtfhpamcehnfhoaaGreat

namespace Go.Proofs.YtfhpamcehnfhoaaGreat
open Go Go.Ab
set_option linter.unusedVariables false
set_option linter.unusedSimpArgs false
theorem eind {P : GExpr → Prop} (h : ∀ e : GExpr, (∀ x, x ∈ e.args → P x) → P e) (e : GExpr) : P e := h e fun x hx => eind h x
termination_by e
decreasing_by exact GExpr.lt_args hx
mutual
def eparts : GExpr → Nat
  | ⟨_, _, _, l⟩ => 1 + epartsL l
def epartsL : List GExpr → Nat
  | [] => 0
  | x :: l => eparts x + epartsL l
end
mutual
def edeep : GExpr → Nat
  | ⟨_, _, _, l⟩ => max 1 (edeepL l)
def edeepL : List GExpr → Nat
  | [] => 0
  | x :: l => max (1 + edeep x) (edeepL l)
end
theorem eparts_eq (e : GExpr) : eparts e = 1 + epartsL e.args := by cases e; rw [eparts]
theorem edeep_eq (e : GExpr) : edeep e = max 1 (edeepL e.args) := by cases e; rw [edeep]
theorem esize_mem {l : List GExpr} {x : GExpr} (h : x ∈ l) : x.size ≤ (l.map GExpr.size).sum := by
  induction l with
  | nil => cases h
  | cons y l ih =>
    rcases List.mem_cons.1 h with rfl | h
    · simp
    · have := ih h; simp; omega
theorem esize_args (e : GExpr) : (e.args.map GExpr.size).sum + e.name.length + e.value.size + 4 ≤ e.size := by rw [GExpr.size_eq]; omega
theorem esize_in {e x : GExpr} (h : x ∈ e.args) : x.size ≤ e.size := by have := esize_mem h; have := esize_args e; omega
theorem elen_size (l : List GExpr) : l.length ≤ (l.map GExpr.size).sum := by
  induction l with
  | nil => simp
  | cons x l ih => have := esize_args x; simp; omega
theorem eparts_le : ∀ e : GExpr, eparts e ≤ e.size := eind fun e ih => by
  have : ∀ l : List GExpr, (∀ x, x ∈ l → x ∈ e.args) → epartsL l ≤ (l.map GExpr.size).sum := fun l => by
    induction l with
    | nil => intro _; simp [epartsL]
    | cons x l ihl =>
      intro hl
      have := ih x (hl x List.mem_cons_self)
      have := ihl fun y hy => hl y (List.mem_cons_of_mem _ hy)
      simp [epartsL]; omega
  have := this e.args fun _ h => h
  have := esize_args e
  rw [eparts_eq]; omega
theorem edeep_le : ∀ e : GExpr, edeep e ≤ eparts e := eind fun e ih => by
  have : ∀ l : List GExpr, (∀ x, x ∈ l → x ∈ e.args) → edeepL l ≤ 1 + epartsL l := fun l => by
    induction l with
    | nil => intro _; simp [epartsL, edeepL]
    | cons x l ihl =>
      intro hl
      have := ih x (hl x List.mem_cons_self)
      have := ihl fun y hy => hl y (List.mem_cons_of_mem _ hy)
      simp [epartsL, edeepL]; omega
  have := this e.args fun _ h => h
  rw [eparts_eq, edeep_eq]; omega
theorem epartsL_le (l : List GExpr) : epartsL l ≤ (l.map GExpr.size).sum := by
  induction l with
  | nil => simp [epartsL]
  | cons x l ih => have := eparts_le x; simp [epartsL]; omega
theorem expr_measure : ∀ e : GExpr, e.size ≤ 1048576 → Ev (fun n => go_expr_measure n e) ((eparts e : Int), (edeep e : Int)) := eind fun e ih hs => by
  have hsl := esize_args e
  have hlen := elen_size e.args
  have loop : ∀ k, k ≤ e.args.length → ∀ d p : Nat, p + epartsL (e.args.drop k) ≤ 1048577 → d ≤ 1048577 → Ev (fun n => go_expr_measure_L0 n (k : Int) (d : Int) (p : Int) e.args (e.args.length : Int)) (((p + epartsL (e.args.drop k) : Nat) : Int), ((max d (edeepL (e.args.drop k)) : Nat) : Int)) :=
    down (fun d p hp hd => by
      rw [ev_expr_measure_L0, Ev.pif_f (by simp), Ev.some_iff]
      simp [epartsL, edeepL]) fun k hk ihk d p hp hd => by
      have hx := List.getElem_mem hk
      have hsx := esize_in hx
      rw [← List.getElem_cons_drop (h := hk)] at hp ⊢
      simp only [epartsL, edeepL] at hp ⊢
      have hpl := eparts_le e.args[k]
      have hdl := edeep_le e.args[k]
      rw [ev_expr_measure_L0, Ev.pif_t (by simpa using hk), Ev.opt_iff (ix_lt hk), GExpr.re_eq, Ev.bind_iff (ih _ hx (by omega)), wI (x := _ + 1) (by omega), wI (x := (edeep _ : Int) + 1) (by omega), wI (x := (p : Int) + _) (by omega)]
      have e1 : (k : Int) + 1 = ((k + 1 : Nat) : Int) := by omega
      have e2 : (edeep e.args[k] : Int) + 1 = ((1 + edeep e.args[k] : Nat) : Int) := by omega
      have e3 : (p : Int) + (eparts e.args[k] : Int) = ((p + eparts e.args[k] : Nat) : Int) := by omega
      rw [e1, e2, e3, mxI_nat]
      refine (ihk (max d (1 + edeep e.args[k])) (p + eparts e.args[k]) (by omega) (by omega)).to ?_
      congr 2 <;> omega
  rw [ev_expr_measure]
  have hv := epartsL_le e.args
  have := loop 0 (Nat.zero_le _) 1 1 (by simp; omega) (by omega)
  refine this.to ?_
  rw [eparts_eq, edeep_eq, List.drop_zero]
theorem ref04_Parts : ∀ e : GExpr, e.size ≤ 1048576 → Ev (fun n => go_ref04_Parts n e) (eparts e : Int) := eind fun e ih hs => by
  have hsl := esize_args e
  have hlen := elen_size e.args
  rw [ev_ref04_Parts, GExpr.re_eq, eparts_eq]
  have loop : ∀ k, k ≤ e.args.length → ∀ p : Nat, p + epartsL (e.args.drop k) ≤ 1048577 → Ev (fun n => go_ref04_Parts_L0 n (k : Int) (p : Int) e) ((p + epartsL (e.args.drop k) : Nat) : Int) :=
    down (fun p hp => by
      rw [ev_ref04_Parts_L0, Ev.pif_f (by simp), Ev.some_iff]
      simp [epartsL]) fun k hk ihk p hp => by
      have hx := List.getElem_mem hk
      have hsx := esize_in hx
      rw [← List.getElem_cons_drop (h := hk)] at hp ⊢
      simp only [epartsL] at hp ⊢
      have hpl := eparts_le e.args[k]
      rw [ev_ref04_Parts_L0, Ev.pif_t (by simpa using hk), Ev.opt_iff (ix_lt hk), GExpr.re_eq, Ev.bind_iff (ih _ hx (by omega)), wI (x := _ + 1) (by omega), wI (x := (p : Int) + _) (by omega)]
      have e1 : (k : Int) + 1 = ((k + 1 : Nat) : Int) := by omega
      have e3 : (p : Int) + (eparts e.args[k] : Int) = ((p + eparts e.args[k] : Nat) : Int) := by omega
      rw [e1, e3, GExpr.re_eq]
      refine (ihk (p + eparts e.args[k]) (by omega)).to ?_
      congr 1; omega
  have hv := epartsL_le e.args
  exact loop 0 (Nat.zero_le _) 1 (by simp; omega)
theorem ref04_Deep : ∀ e : GExpr, e.size ≤ 1048576 → Ev (fun n => go_ref04_Deep n e) (edeep e : Int) := eind fun e ih hs => by
  have hsl := esize_args e
  have hlen := elen_size e.args
  rw [ev_ref04_Deep, GExpr.re_eq, edeep_eq]
  have loop : ∀ k, k ≤ e.args.length → ∀ p : Nat, p ≤ 1048577 → Ev (fun n => go_ref04_Deep_L0 n (k : Int) (p : Int) e) ((max p (edeepL (e.args.drop k)) : Nat) : Int) :=
    down (fun p hp => by
      rw [ev_ref04_Deep_L0, Ev.pif_f (by simp), Ev.some_iff]
      simp [edeepL]) fun k hk ihk p hp => by
      have hx := List.getElem_mem hk
      have hsx := esize_in hx
      rw [← List.getElem_cons_drop (h := hk)]
      simp only [edeepL]
      have hpl := eparts_le e.args[k]
      have hdl := edeep_le e.args[k]
      rw [ev_ref04_Deep_L0, Ev.pif_t (by simpa using hk), Ev.opt_iff (ix_lt hk), GExpr.re_eq, Ev.bind_iff (ih _ hx (by omega)), wI (x := _ + 1) (by omega), wI (x := 1 + _) (by omega)]
      have e1 : (k : Int) + 1 = ((k + 1 : Nat) : Int) := by omega
      have e3 : 1 + (edeep e.args[k] : Int) = ((1 + edeep e.args[k] : Nat) : Int) := by omega
      rw [e1, e3, GExpr.re_eq, mxI_nat]
      refine (ihk (max p (1 + edeep e.args[k])) (by omega)).to ?_
      congr 1; omega
  exact loop 0 (Nat.zero_le _) 1 (by omega)
/-! ### what is valid -/
def ecount (op : Int) : Int :=
  if op = 1 ∨ op = 2 then 0 else if (3 ≤ op ∧ op ≤ 10) ∨ op = 13 ∨ op = 14 ∨ op = 17 then 2 else if op = 11 ∨ op = 15 ∨ op = 16 then 1 else if op = 12 then 3 else if op = 18 then -1 else -2
theorem ops (op : Int) : op = 1 ∨ op = 2 ∨ op = 3 ∨ op = 4 ∨ op = 5 ∨ op = 6 ∨ op = 7 ∨ op = 8 ∨ op = 9 ∨ op = 10 ∨ op = 11 ∨ op = 12 ∨ op = 13 ∨ op = 14 ∨ op = 15 ∨ op = 16 ∨ op = 17 ∨ op = 18 ∨ (op < 1 ∨ 18 < op) := by omega
theorem expr_count {op : Int} : Ev (fun n => go_expr_count n op) (ecount op) := by
  rcases ops op with rfl | rfl | rfl | rfl | rfl | rfl | rfl | rfl | rfl | rfl | rfl | rfl | rfl | rfl | rfl | rfl | rfl | rfl | h
  case inr.inr.inr.inr.inr.inr.inr.inr.inr.inr.inr.inr.inr.inr.inr.inr.inr.inr =>
    have e : ecount op = -2 := by unfold ecount; rw [if_neg (by omega), if_neg (by omega), if_neg (by omega), if_neg (by omega), if_neg (by omega)]
    rw [e]
    have n (j : Int) (h1 : 1 ≤ j) (h2 : j ≤ 18) : (op == j) = false := by simp; omega
    simp [ev_expr_count, ev_expr_count_L0, ev_expr_count_L1, ev_expr_count_L2, ev_expr_count_L3, ev_expr_count_L4, ev_expr_count_L5, Ev.pif, Ev.some_iff, n]
  all_goals simp [ev_expr_count, ev_expr_count_L0, ev_expr_count_L1, ev_expr_count_L2, ev_expr_count_L3, ev_expr_count_L4, ev_expr_count_L5, Ev.pif, Ev.some_iff, ecount]
theorem ref04_args {op : Int} : Ev (fun n => go_ref04_args n op) (ecount op) := by
  rcases ops op with rfl | rfl | rfl | rfl | rfl | rfl | rfl | rfl | rfl | rfl | rfl | rfl | rfl | rfl | rfl | rfl | rfl | rfl | h
  case inr.inr.inr.inr.inr.inr.inr.inr.inr.inr.inr.inr.inr.inr.inr.inr.inr.inr =>
    have e : ecount op = -2 := by unfold ecount; rw [if_neg (by omega), if_neg (by omega), if_neg (by omega), if_neg (by omega), if_neg (by omega)]
    rw [e]
    have n (j : Int) (h1 : 1 ≤ j) (h2 : j ≤ 18) : (op == j) = false := by simp; omega
    rw [ev_ref04_args, Ev.pif_f (n 1 (by omega) (by omega)), n 2 (by omega) (by omega), ev_ref04_args_L0, Ev.pif_f (by rfl)]
    have l1 : Ev (fun m => go_ref04_args_L1 m op false) (-2) := by simp [ev_ref04_args_L1, ev_ref04_args_L2, Ev.pif, Ev.some_iff, n]
    by_cases h3 : op ≥ 3
    · rw [Ev.pif_t (by simpa using h3), Ev.pif_f (by simp; omega), Ev.pif_f (n 13 (by omega) (by omega)), Ev.pif_f (n 14 (by omega) (by omega)), n 17 (by omega) (by omega)]; exact l1
    · rw [Ev.pif_f (by simpa using h3), Ev.pif_f (n 13 (by omega) (by omega)), Ev.pif_f (n 14 (by omega) (by omega)), n 17 (by omega) (by omega)]; exact l1
  all_goals simp [ev_ref04_args, ev_ref04_args_L0, ev_ref04_args_L1, ev_ref04_args_L2, Ev.pif, Ev.some_iff, ecount]
noncomputable def eown (op : Int) (v : GValue) (nm : List UInt8) : Bool :=
  if op = 1 then vcheck v == 0 && (v.kind != 4 && nm.isEmpty) else if op = 2 then enamed nm && eqB v v0 else nm.isEmpty && eqB v v0
def earity (op : Int) (k : Nat) : Bool := ecount op != -2 && (decide (ecount op < 0) || (k : Int) == ecount op)
mutual
noncomputable def efine : GExpr → Bool
  | ⟨op, v, nm, l⟩ => earity op l.length && (eown op v nm && efineL l)
noncomputable def efineL : List GExpr → Bool
  | [] => true
  | x :: l => efine x && efineL l
end
theorem efine_eq (e : GExpr) : efine e = (earity e.op e.args.length && (eown e.op e.value e.name && efineL e.args)) := by cases e; rw [efine]
theorem efineL_all (l : List GExpr) : efineL l = l.all efine := by
  induction l with
  | nil => rfl
  | cons x l ih => simp [efineL, ih]
noncomputable def echeck (e : GExpr) : Int := if 100 < eparts e ∨ 12 < edeep e then 4 else if efine e then 0 else 8
theorem ewf_value {e : GExpr} (h : e.wf) : e.value.wf := by rw [GExpr.wf_eq] at h; exact h.2.1
theorem ewf_args {e : GExpr} (h : e.wf) : ∀ x ∈ e.args, x.wf := by rw [GExpr.wf_eq] at h; exact h.2.2.2
theorem isEmpty_beq (s : List UInt8) : (!(s == [])) = !s.isEmpty := by cases s <;> rfl
theorem expr_fine : ∀ e : GExpr, e.wf → e.size ≤ 1048576 → Ev (fun n => go_expr_fine n e) (efine e) := eind fun e ih hw hs => by
  have hsl := esize_args e
  have hlen := elen_size e.args
  have idx : ∀ k, k ≤ e.args.length → ∃ i : Int, Ev (fun n => go_slices_IndexFunc_api_Expr_api_Expr_L0 n (k : Int) e.args (e.args.length : Int)) i ∧ decide (i ≥ 0) = !efineL (e.args.drop k) :=
    down ⟨-1, by rw [ev_slices_IndexFunc_api_Expr_api_Expr_L0, Ev.pif_f (by simp), Ev.some_iff], by simp [efineL]⟩ fun k hk ihk => by
      have hx := List.getElem_mem hk
      have hsx := esize_in hx
      have hf1 : Ev (fun n => go_expr_fine_1 n e.args[k]) (!efine e.args[k]) := by
        rw [ev_expr_fine_1, GExpr.re_eq, Ev.bind_iff (ih _ hx (ewf_args hw _ hx) (by omega)), Ev.some_iff]
      obtain ⟨i, h1, h2⟩ := ihk
      rw [← List.getElem_cons_drop (h := hk), efineL]
      cases hf : efine e.args[k]
      · refine ⟨k, ?_, by simp⟩
        rw [ev_slices_IndexFunc_api_Expr_api_Expr_L0, Ev.pif_t (by simpa using hk), Ev.opt_iff (ix_lt hk), GExpr.re_eq, Ev.bind_iff hf1, Ev.pif_t (by rw [hf]; rfl), Ev.some_iff]
      · refine ⟨i, ?_, by rw [h2]; rfl⟩
        rw [ev_slices_IndexFunc_api_Expr_api_Expr_L0, Ev.pif_t (by simpa using hk), Ev.opt_iff (ix_lt hk), GExpr.re_eq, Ev.bind_iff hf1, Ev.pif_f (by rw [hf]; rfl), wrk (by omega)]
        exact h1
  have l4 : Ev (fun n => go_expr_fine_L4 n e) (efineL e.args) := by
    obtain ⟨i, h1, h2⟩ := idx 0 (Nat.zero_le _)
    have hi : Ev (fun n => go_slices_IndexFunc_api_Expr_api_Expr n e.args) i := by rw [ev_slices_IndexFunc_api_Expr_api_Expr]; exact h1
    have hc : Ev (fun n => go_slices_ContainsFunc_api_Expr_api_Expr n e.args) (!efineL e.args) := by
      rw [ev_slices_ContainsFunc_api_Expr_api_Expr, Ev.bind_iff hi, Ev.some_iff, h2]; rfl
    rw [ev_expr_fine_L4, Ev.bind_iff hc, Ev.some_iff, Bool.not_not]
  have l1 : ∀ b, Ev (fun n => go_expr_fine_L1 n b e) (!b && efineL e.args) := fun b => by
    rw [ev_expr_fine_L1]; cases b
    · rw [Ev.pif_f (by rfl), GExpr.re_eq]; exact l4
    · rw [Ev.pif_t (by rfl), Ev.some_iff]; rfl
  have l2 : ∀ b, Ev (fun n => go_expr_fine_L2 n b e) (!b && efineL e.args) := fun b => by
    rw [ev_expr_fine_L2]; cases b
    · rw [Ev.pif_f (by rfl), GExpr.re_eq]; exact l4
    · rw [Ev.pif_t (by rfl), Ev.some_iff]; rfl
  have l3 : ∀ b, Ev (fun n => go_expr_fine_L3 n b e) (!b && efineL e.args) := fun b => by
    rw [ev_expr_fine_L3]; cases b
    · rw [Ev.pif_f (by rfl), GExpr.re_eq]; exact l4
    · rw [Ev.pif_t (by rfl), Ev.some_iff]; rfl
  have l0 : ∀ b, Ev (fun n => go_expr_fine_L0 n b e) (!b && (eown e.op e.value e.name && efineL e.args)) := fun b => by
    rw [ev_expr_fine_L0]; cases b
    case true => rw [Ev.pif_t (by rfl), Ev.some_iff]; rfl
    rw [Ev.pif_f (by rfl)]
    have hsame : Ev (fun n => go_value_Same n e.value (GValue.mk 0 (GRatio.mk 0 0) false [] [])) (eqB e.value v0) := value_Same e.value v0 (by omega)
    by_cases h1 : e.op = 1
    · rw [Ev.pif_t (by simpa using h1), GValue.re_eq, Ev.bind_iff (value_Check (ewf_value hw) (by omega)), GExpr.re_eq, isEmpty_beq]
      simp only [eown, if_pos h1]
      by_cases hc : vcheck e.value = 0
      · rw [Ev.pif_f (by simpa using hc)]
        by_cases hk : e.value.kind = 4
        · rw [Ev.pif_t (by simpa using hk)]
          refine (l1 true).to ?_; simp [hc, hk]
        · rw [Ev.pif_f (by simpa using hk)]
          have hk' : (e.value.kind != 4) = true := by simpa using hk
          refine (l1 _).to ?_; simp [hc, hk']
      · rw [Ev.pif_t (by simpa using hc)]
        refine (l1 true).to ?_; simp [hc]
    rw [Ev.pif_f (by simpa using h1)]
    by_cases h2 : e.op = 2
    · rw [Ev.pif_t (by simpa using h2), Ev.bind_iff (expr_named (by omega)), GValue.re_eq, GExpr.re_eq]
      simp only [eown, if_neg h1, if_pos h2]
      cases hn : enamed e.name
      · rw [Ev.pif_t (by rfl)]
        exact (l2 true).to (by simp)
      · rw [Ev.pif_f (by rfl), Ev.bind_iff hsame]
        exact (l2 _).to (by simp)
    · rw [Ev.pif_f (by simpa using h2), isEmpty_beq, GValue.re_eq, GExpr.re_eq]
      simp only [eown, if_neg h1, if_neg h2]
      cases hn : e.name.isEmpty
      · rw [Ev.pif_t (by rfl)]
        exact (l3 true).to (by simp)
      · rw [Ev.pif_f (by rfl), Ev.bind_iff hsame]
        exact (l3 _).to (by simp)
  rw [ev_expr_fine, Ev.bind_iff expr_count, efine_eq, GExpr.re_eq]
  unfold earity
  by_cases c1 : ecount e.op = -2
  · rw [Ev.pif_t (by simpa using c1)]
    exact (l0 true).to (by simp [c1])
  rw [Ev.pif_f (by simpa using c1)]
  by_cases c2 : ecount e.op ≥ 0
  · rw [Ev.pif_t (by simpa using c2)]
    refine (l0 _).to ?_
    rw [show decide (ecount e.op < 0) = false by simpa using c2, show (ecount e.op != -2) = true by simpa using c1]
    simp only [bne, Bool.not_not, Bool.true_and, Bool.false_or]
  · rw [Ev.pif_f (by simpa using c2)]
    refine (l0 _).to ?_
    rw [show decide (ecount e.op < 0) = true by simp; omega, show (ecount e.op != -2) = true by simpa using c1]
    simp
theorem ref04_fine : ∀ e : GExpr, e.size ≤ 1048576 → Ev (fun n => go_ref04_fine n e) (efine e) := eind fun e ih hs => by
  have hsl := esize_args e
  have hlen := elen_size e.args
  have loop : ∀ k, k ≤ e.args.length → Ev (fun n => go_ref04_fine_L3 n (k : Int) e) (efineL (e.args.drop k)) :=
    down (by rw [ev_ref04_fine_L3, Ev.pif_f (by simp), Ev.some_iff]; simp [efineL]) fun k hk ihk => by
      have hx := List.getElem_mem hk
      have hsx := esize_in hx
      rw [← List.getElem_cons_drop (h := hk), efineL]
      rw [ev_ref04_fine_L3, Ev.pif_t (by simpa using hk), Ev.opt_iff (ix_lt hk), GExpr.re_eq, Ev.bind_iff (ih _ hx (by omega))]
      cases hf : efine e.args[k]
      · rw [Ev.pif_t (by rfl), Ev.some_iff]; rfl
      · rw [Ev.pif_f (by rfl), wrk (by omega), GExpr.re_eq, Bool.true_and]; exact ihk
  have l2 : ∀ b, Ev (fun n => go_ref04_fine_L2 n b e) (!b && efineL e.args) := fun b => by
    rw [ev_ref04_fine_L2]; cases b
    · rw [Ev.pif_f (by rfl), GExpr.re_eq]; exact loop 0 (Nat.zero_le _)
    · rw [Ev.pif_t (by rfl), Ev.some_iff]; rfl
  have hgn : decide ((e.name.length : Int) > 0) = !e.name.isEmpty := by cases e.name <;> simp
  have l1 : ∀ b, Ev (fun n => go_ref04_fine_L1 n b e) (!b && ((if e.op = 2 then enamed e.name else e.name.isEmpty) && efineL e.args)) := fun b => by
    rw [ev_ref04_fine_L1]; cases b
    case true => rw [Ev.pif_t (by rfl), Ev.some_iff]; rfl
    rw [Ev.pif_f (by rfl), GExpr.re_eq, hgn]
    by_cases h2 : e.op = 2
    · rw [Ev.pif_t (by simpa using h2), if_pos h2, Ev.bind_iff (ref04_Named (by omega))]
      cases hn : enamed e.name
      · rw [Ev.pif_t (by rfl)]; exact (l2 true).to (by simp)
      · rw [Ev.pif_f (by rfl), Ev.pif_f (by simpa using h2)]; exact (l2 false).to (by simp)
    · rw [Ev.pif_f (by simpa using h2), Ev.pif_t (by simpa using h2), if_neg h2]; exact (l2 _).to (by simp)
  have l0 : ∀ b, Ev (fun n => go_ref04_fine_L0 n b e) (!b && (eown e.op e.value e.name && efineL e.args)) := fun b => by
    rw [ev_ref04_fine_L0]; cases b
    case true => rw [Ev.pif_t (by rfl), Ev.some_iff]; rfl
    rw [Ev.pif_f (by rfl), GValue.re_eq, GExpr.re_eq]
    have hsame : Ev (fun n => go_ref03_Same n e.value (GValue.mk 0 (GRatio.mk 0 0) false [] [])) (eqB e.value v0) := ref03_Same e.value v0 (by omega)
    by_cases h1 : e.op = 1
    · rw [Ev.pif_t (by simpa using h1), Ev.bind_iff (ref03_Check (by omega))]
      simp only [eown, if_pos h1]
      by_cases hc : vcheck e.value = 0
      · rw [Ev.pif_f (by simpa using hc)]
        by_cases hk : e.value.kind = 4
        · rw [Ev.pif_t (by simpa using hk)]
          refine (l1 true).to ?_; simp [hc, hk]
        · rw [Ev.pif_f (by simpa using hk), Ev.pif_f (by simpa using h1)]
          have hk' : (e.value.kind != 4) = true := by simpa using hk
          refine (l1 _).to ?_; simp [hc, hk', h1]
      · rw [Ev.pif_t (by simpa using hc)]
        refine (l1 true).to ?_; simp [hc]
    · rw [Ev.pif_f (by simpa using h1), Ev.pif_t (by simpa using h1), Ev.bind_iff hsame]
      refine (l1 _).to ?_
      simp only [eown, if_neg h1]
      split
      · cases eqB e.value v0 <;> cases enamed e.name <;> simp
      · cases eqB e.value v0 <;> cases e.name.isEmpty <;> simp
  rw [ev_ref04_fine, Ev.bind_iff ref04_args, efine_eq, GExpr.re_eq]
  unfold earity
  by_cases c1 : ecount e.op = -2
  · rw [Ev.pif_t (by simpa using c1)]
    exact (l0 true).to (by simp [c1])
  rw [Ev.pif_f (by simpa using c1)]
  by_cases c2 : ecount e.op ≥ 0
  · rw [Ev.pif_t (by simpa using c2)]
    refine (l0 _).to ?_
    rw [show decide (ecount e.op < 0) = false by simpa using c2, show (ecount e.op != -2) = true by simpa using c1]
    simp only [bne, Bool.not_not, Bool.true_and, Bool.false_or]
  · rw [Ev.pif_f (by simpa using c2)]
    refine (l0 _).to ?_
    rw [show decide (ecount e.op < 0) = true by simp; omega, show (ecount e.op != -2) = true by simpa using c1]
    simp
theorem expr_Check {e : GExpr} (hw : e.wf) (hs : e.size ≤ 1048576) : Ev (fun n => go_expr_Check n e) (echeck e) := by
  have l0 : ∀ b, Ev (fun n => go_expr_Check_L0 n b e) (if b then 4 else if efine e then 0 else 8) := fun b => by
    rw [ev_expr_Check_L0]
    cases b
    · rw [Ev.pif_f (by rfl), GExpr.re_eq, Ev.bind_iff (expr_fine e hw hs)]
      cases efine e
      · rw [Ev.pif_t (by rfl), Ev.some_iff]; rfl
      · rw [Ev.pif_f (by rfl), Ev.some_iff]; rfl
    · rw [Ev.pif_t (by rfl), Ev.some_iff]; rfl
  rw [ev_expr_Check, GExpr.re_eq, Ev.bind_iff (expr_measure e hs)]
  unfold echeck
  simp only [Ev.pif]
  by_cases h1 : 100 < eparts e
  · rw [if_pos (by simp; omega), if_pos (.inl h1)]; exact l0 true
  · rw [if_neg (by simp; omega)]
    by_cases h2 : 12 < edeep e
    · rw [if_pos (.inr h2), show decide ((edeep e : Int) > 12) = true by simp; omega]; exact l0 true
    · rw [if_neg (by omega), show decide ((edeep e : Int) > 12) = false by simp; omega]; exact l0 false
theorem ref04_Check {e : GExpr} (hs : e.size ≤ 1048576) : Ev (fun n => go_ref04_Check n e) (echeck e) := by
  have l0 : ∀ b, Ev (fun n => go_ref04_Check_L0 n b e) (if b then 4 else if efine e then 0 else 8) := fun b => by
    rw [ev_ref04_Check_L0]
    cases b
    · rw [Ev.pif_f (by rfl), GExpr.re_eq, Ev.bind_iff (ref04_fine e hs)]
      cases efine e
      · rw [Ev.pif_t (by rfl), Ev.some_iff]; rfl
      · rw [Ev.pif_f (by rfl), Ev.some_iff]; rfl
    · rw [Ev.pif_t (by rfl), Ev.some_iff]; rfl
  rw [ev_ref04_Check, GExpr.re_eq, Ev.bind_iff (ref04_Parts e hs)]
  unfold echeck
  by_cases h1 : 100 < eparts e
  · rw [Ev.pif_t (by simp; omega), if_pos (.inl h1)]; exact l0 true
  · rw [Ev.pif_f (by simp; omega), Ev.bind_iff (ref04_Deep e hs)]
    by_cases h2 : 12 < edeep e
    · rw [if_pos (.inr h2), show decide ((edeep e : Int) > 12) = true by simp; omega]; exact l0 true
    · rw [if_neg (by omega), show decide ((edeep e : Int) > 12) = false by simp; omega]; exact l0 false
theorem echeck_fine {e : GExpr} (h : echeck e = 0) : efine e = true ∧ eparts e ≤ 100 ∧ edeep e ≤ 12 := by
  unfold echeck at h
  split at h
  · cases h
  · split at h
    · exact ⟨‹_›, by omega, by omega⟩
    · cases h
/-! ### what is great -/
theorem ref04_great : ∀ e : GExpr, e.size ≤ 1048576 → ∀ d : Int, ∃ b, Ev (fun n => go_ref04_great n e d) b := eind fun e ih hs d => by
  have hsl := esize_args e
  have hlen := elen_size e.args
  have loop : ∀ k, k ≤ e.args.length → ∀ d : Int, ∃ b, Ev (fun n => go_ref04_great_L1 n (k : Int) d e) b :=
    down (fun d => ⟨false, by rw [ev_ref04_great_L1, Ev.pif_f (by simp), Ev.some_iff]⟩) fun k hk ihk d => by
      have hx := List.getElem_mem hk
      have hsx := esize_in hx
      obtain ⟨b, hb⟩ := ih _ hx (by omega) (IntKind.i64.wrap (d - 1))
      obtain ⟨c, hc⟩ := ihk d
      refine ⟨if b then true else c, ?_⟩
      rw [ev_ref04_great_L1, Ev.pif_t (by simpa using hk), Ev.opt_iff (ix_lt hk), GExpr.re_eq, Ev.bind_iff hb, GExpr.re_eq, wrk (by omega)]
      cases b
      · rw [Ev.pif_f (by rfl)]; exact hc
      · rw [Ev.pif_t (by rfl), Ev.some_iff]; rfl
  have l0 : ∀ d b, ∃ c, Ev (fun n => go_ref04_great_L0 n d b e) c := fun d b => by
    cases b
    · obtain ⟨c, hc⟩ := loop 0 (Nat.zero_le _) d
      exact ⟨c, by rw [ev_ref04_great_L0, Ev.pif_f (by rfl), GExpr.re_eq]; exact hc⟩
    · exact ⟨true, by rw [ev_ref04_great_L0, Ev.pif_t (by rfl), Ev.some_iff]⟩
  obtain ⟨g, hg⟩ := ref03_Great (v := e.value) (by omega)
  simp only [ev_ref04_great, GExpr.re_eq, GValue.re_eq, Ev.pif, Ev.bind_iff hg]
  split
  · exact l0 _ _
  split
  · exact l0 _ _
  split
  · exact l0 _ _
  · exact l0 _ _
theorem ref04_Great {e : GExpr} (hs : e.size ≤ 1048576) : ∃ b, Ev (fun n => go_ref04_Great n e) b := by
  obtain ⟨b, hb⟩ := ref04_great e hs 16
  cases b
  · exact ⟨_, by rw [ev_ref04_Great, GExpr.re_eq, Ev.bind_iff hb, Ev.pif_f (by rfl), Ev.bind_iff (ref04_Parts e hs)]; exact Ev.some_iff.2 rfl⟩
  · exact ⟨true, by rw [ev_ref04_Great, GExpr.re_eq, Ev.bind_iff hb, Ev.pif_t (by rfl), Ev.some_iff]⟩
end Go.Proofs.YtfhpamcehnfhoaaGreat

namespace Go.Proofs.YtfhpamcehnfhoaaGreat
open Go Go.Ab
set_option linter.unusedVariables false
set_option linter.unusedSimpArgs false
/-! ### valid values are small -/
theorem vfine_size : ∀ v : GValue, vfine v = true → v.size ≤ 68 * vparts v := vind fun v ih h => by
  have hl : ∀ l : List GValue, (∀ x ∈ l, x ∈ v.list) → (l.map GValue.size).sum ≤ 68 * vpartsL l := fun l => by
    induction l with
    | nil => intro _; simp
    | cons x l ihl =>
      intro hm
      have h1 := ih x (hm x List.mem_cons_self) (vfine_list h x (hm x List.mem_cons_self))
      have h2 := ihl fun y hy => hm y (List.mem_cons_of_mem _ hy)
      simp [vpartsL]; omega
  have hl := hl v.list fun _ h => h
  rw [GValue.size_eq, GRatio.size_eq, vparts_eq]
  rw [vfine_eq] at h
  split at h
  · rename_i hk
    simp only [Bool.and_eq_true, List.isEmpty_iff] at h
    rw [if_neg (by omega), h.2.2.1, h.2.2.2]; simp
  split at h
  · simp only [Bool.and_eq_true, List.isEmpty_iff] at h
    rw [if_neg (by omega), h.2.1, h.2.2]; simp
  split at h
  · simp only [Bool.and_eq_true, List.isEmpty_iff, decide_eq_true_eq] at h
    rw [if_neg (by omega), h.2.2.1]
    have := h.2.2.2.1
    simp; omega
  split at h
  · rename_i hk
    simp only [Bool.and_eq_true, List.isEmpty_iff] at h
    rw [if_pos hk, h.2.2.1]
    simp; omega
  · cases h
theorem nul_wf {r : GRatio} (h : nul r = true) : r.wf := by
  simp only [nul, Bool.and_eq_true, beq_iff_eq] at h
  rw [GRatio.wf_eq, h.1, h.2]; decide
theorem rok_wf {r : GRatio} (h : rok r = true) : r.wf := by
  rw [rok_iff] at h
  rw [GRatio.wf_eq, show IntKind.i64.min = -9223372036854775808 from by decide, show IntKind.i64.max = 9223372036854775807 from by decide]
  omega
theorem vfine_wf : ∀ v : GValue, vfine v = true → v.wf := vind fun v ih h => by
  have hl : ∀ x ∈ v.list, x.wf := fun x hx => ih x hx (vfine_list h x hx)
  have hk := vfine_kind h
  have hn : v.num.wf := by
    rw [vfine_eq] at h
    split at h
    · simp only [Bool.and_eq_true] at h; exact rok_wf h.1
    split at h
    · simp only [Bool.and_eq_true] at h; exact nul_wf h.1
    split at h
    · simp only [Bool.and_eq_true] at h; exact nul_wf h.1
    split at h
    · simp only [Bool.and_eq_true] at h; exact nul_wf h.1
    · cases h
  rw [GValue.wf_eq]
  refine ⟨?_, hn, trivial, trivial, hl⟩
  simp only [IntKind.min, IntKind.max, IntKind.signed, IntKind.bits]
  rcases hk with h | h | h | h <;> rw [h] <;> decide
theorem vok {v : GValue} (h : vcheck v = 0) : v.wf ∧ v.size ≤ 6800 := by
  obtain ⟨h1, h2, _⟩ := vcheck_fine h
  have := vfine_size v h1
  exact ⟨vfine_wf v h1, by omega⟩
theorem vcheck_of {v : GValue} (h1 : vfine v = true) (h2 : vparts v ≤ 100) (h3 : vdeep v ≤ 6) : vcheck v = 0 := by
  unfold vcheck; rw [if_neg (by omega), if_pos h1]
/-! ### panics -/
def toRes (r : Int × GValue) : Res (Int × Unit) GValue := if r.1 = 0 then .ok r.2 else .pan (r.1, ())
theorem toRes_ok {r : Int × GValue} (h : r.1 = 0) : toRes r = .ok r.2 := by unfold toRes; rw [if_pos h]
theorem toRes_pan {r : Int × GValue} (h : r.1 ≠ 0) : toRes r = .pan (r.1, ()) := by unfold toRes; rw [if_neg h]
theorem must_ok : Ev (fun n => go_expr_must n 0) (.ok ()) := by rw [ev_expr_must, Ev.pif_f (by rfl), Ev.some_iff]
theorem must_pan {e : Int} (h : e ≠ 0) : Ev (fun n => go_expr_must n e) (.pan (e, ())) := by rw [ev_expr_must, Ev.pif_t (by simpa using h), Ev.some_iff]
theorem expr_kind {k : Int} {l : List GValue} (hl : l.length ≤ 1048576) : Ev (fun n => go_expr_kind n k l) (if l.all (fun v => v.kind == k) then .ok () else .pan (20, ())) := by
  have loop : ∀ j, j ≤ l.length → Ev (fun n => go_expr_kind_L0 n (j : Int) k l (l.length : Int)) (if (l.drop j).all (fun v => v.kind == k) then .ok () else .pan (20, ())) :=
    down (by rw [ev_expr_kind_L0, Ev.pif_f (by simp), Ev.some_iff]; simp) fun j hj ih => by
      rw [← List.getElem_cons_drop (h := hj), List.all_cons]
      rw [ev_expr_kind_L0, Ev.pif_t (by simpa using hj), Ev.opt_iff (ix_lt hj)]
      by_cases h : l[j].kind = k
      · rw [Ev.pif_f (by simpa using h), ev_expr_kind_L1, wrk (by omega)]
        simp only [h, beq_self_eq_true, Bool.true_and]; exact ih
      · rw [Ev.pif_t (by simpa using h), Ev.bind_iff (must_pan (by decide)), Ev.res_pan, Ev.some_iff]
        have : (l[j].kind == k) = false := by simpa using h
        rw [this]; rfl
  rw [ev_expr_kind]; exact loop 0 (Nat.zero_le _)
def vnum (r : GRatio) : GValue := ⟨1, r, false, [], []⟩
def vtruth (b : Bool) : GValue := ⟨2, ⟨0, 0⟩, b, [], []⟩
def vlist (l : List GValue) : GValue := ⟨4, ⟨0, 0⟩, false, [], l⟩
def onum (r : Int × GRatio) : Int × GValue := if r.1 = 0 then (0, vnum r.2) else (r.1, v0)
theorem expr_number {r : Int × GRatio} : Ev (fun n => go_expr_number n r.2 r.1) (toRes (onum r)) := by
  unfold onum
  rw [ev_expr_number]
  by_cases h : r.1 = 0
  · rw [h, Ev.bind_iff must_ok, Ev.res_ok, Ev.some_iff, if_pos rfl, toRes_ok rfl]; rfl
  · rw [Ev.bind_iff (must_pan h), Ev.res_pan, Ev.some_iff, if_neg h, toRes_pan h]
theorem expr_truth {b : Bool} : Ev (fun n => go_expr_truth n b) (vtruth b) := by rw [ev_expr_truth, Ev.some_iff]; rfl
theorem rmake_one {n : Int} (h : -1000000000 ≤ n ∧ n ≤ 1000000000) : rmake n 1 = (0, ⟨n, 1⟩) := by
  unfold rmake
  rw [if_neg (by decide)]
  simp only [Int.natAbs_one, Nat.gcd_one_right, Nat.div_one]
  rw [if_pos (by omega)]
  by_cases h0 : n < 0
  · simp [h0]; omega
  · simp [h0]; omega
/-- the value of an operation, or its error -/
noncomputable def eapply (op : Int) (l : List GValue) : Int × GValue :=
  if op = 3 then vadd (l.getD 0 v0) (l.getD 1 v0)
  else if op = 4 then (if l.all (fun v => v.kind == 1) then onum (rbin fsub (l.getD 0 v0).num (l.getD 1 v0).num) else (20, v0))
  else if op = 5 then (if l.all (fun v => v.kind == 1) then onum (rbin fmul (l.getD 0 v0).num (l.getD 1 v0).num) else (20, v0))
  else if op = 6 then (if l.all (fun v => v.kind == 1) then onum (rbin fdiv (l.getD 0 v0).num (l.getD 1 v0).num) else (20, v0))
  else if op = 8 then (0, vtruth (eqB (l.getD 0 v0) (l.getD 1 v0)))
  else if op = 7 ∨ op = 13 ∨ op = 14 then
    (if (vcompare (l.getD 0 v0) (l.getD 1 v0)).2 ≠ 0 then ((vcompare (l.getD 0 v0) (l.getD 1 v0)).2, v0)
    else if op = 7 then (0, vtruth (decide ((vcompare (l.getD 0 v0) (l.getD 1 v0)).1 < 0)))
    else if op = 13 then (0, if (vcompare (l.getD 0 v0) (l.getD 1 v0)).1 > 0 then l.getD 1 v0 else l.getD 0 v0)
    else (0, if (vcompare (l.getD 0 v0) (l.getD 1 v0)).1 < 0 then l.getD 1 v0 else l.getD 0 v0))
  else if op = 9 then (if l.all (fun v => v.kind == 2) then (0, vtruth ((l.getD 0 v0).truth && (l.getD 1 v0).truth)) else (20, v0))
  else if op = 10 then (if l.all (fun v => v.kind == 2) then (0, vtruth ((l.getD 0 v0).truth || (l.getD 1 v0).truth)) else (20, v0))
  else if op = 11 then (if l.all (fun v => v.kind == 2) then (0, vtruth (!(l.getD 0 v0).truth)) else (20, v0))
  else if op = 15 then (if l.all (fun v => v.kind == 1) then (0, vnum ⟨(rfloor (l.getD 0 v0).num).1, 1⟩) else (20, v0))
  else if op = 16 then (if (vlen (l.getD 0 v0)).2 ≠ 0 then ((vlen (l.getD 0 v0)).2, v0) else (0, vnum ⟨(vlen (l.getD 0 v0)).1, 1⟩))
  else if op = 17 then
    (if (vlen (l.getD 0 v0)).2 ≠ 0 then ((vlen (l.getD 0 v0)).2, v0)
    else if (l.getD 1 v0).kind ≠ 1 then (20, v0)
    else if (l.getD 1 v0).num.den ≠ 1 then (2, v0)
    else vat (l.getD 0 v0) (l.getD 1 v0).num.num)
  else (if vcheck (vlist l) ≠ 0 then (vcheck (vlist l), v0) else (0, vlist l))
theorem rfloor_b {r : GRatio} : -1000000000 ≤ (rfloor r).1 ∧ (rfloor r).1 ≤ 1000000000 := by
  unfold rfloor
  split
  · rename_i h
    obtain ⟨h1, _, h3⟩ := rok_b h
    exact floor_num h1 h3
  · decide
theorem vlen_b {v : GValue} (hs : v.size ≤ 6800) : 0 ≤ (vlen v).1 ∧ (vlen v).1 ≤ 6800 := by
  have h1 := size_list v; have h2 := len_size v.list
  unfold vlen
  split
  · exact ⟨by simp, by simp⟩
  split
  · exact ⟨by simp, by simp only; omega⟩
  split
  · exact ⟨by simp, by simp only; omega⟩
  · exact ⟨by simp, by simp⟩
theorem vsum_small : ∀ {l : List GValue}, (∀ x ∈ l, vcheck x = 0) → (l.map GValue.size).sum ≤ 6800 * l.length
  | [], _ => by simp
  | x :: l, h => by
    have h1 := (vok (h x List.mem_cons_self)).2
    have h2 := vsum_small (l := l) fun y hy => h y (List.mem_cons_of_mem _ hy)
    simp; omega
theorem vlist_ok {l : List GValue} (h : ∀ x ∈ l, vcheck x = 0) (hl : l.length ≤ 100) : (vlist l).wf ∧ (vlist l).size ≤ 1048576 := by
  have h2 := vsum_small h
  constructor
  · rw [GValue.wf_eq]
    refine ⟨(by decide : IntKind.u8.min ≤ (4 : Int) ∧ (4 : Int) ≤ IntKind.u8.max), ?_, trivial, trivial, fun x hx => (vok (h x hx)).1⟩
    exact (by rw [GRatio.wf_eq]; decide : (⟨0, 0⟩ : GRatio).wf)
  · rw [GValue.size_eq, GRatio.size_eq]; simp only [vlist, List.length_nil]; omega
theorem ops2 {op : Int} (h : ecount op = 2) : (3 ≤ op ∧ op ≤ 10) ∨ op = 13 ∨ op = 14 ∨ op = 17 := by
  unfold ecount at h
  split at h
  · cases h
  · split at h
    · assumption
    · split at h
      · cases h
      · split at h
        · cases h
        · split at h <;> cases h
theorem ops1 {op : Int} (h : ecount op = 1) : op = 11 ∨ op = 15 ∨ op = 16 := by
  unfold ecount at h
  split at h
  · cases h
  · split at h
    · cases h
    · split at h
      · assumption
      · split at h
        · cases h
        · split at h <;> cases h
theorem expr_apply2 {op : Int} {a b : GValue} (hop : ecount op = 2) (ha : vcheck a = 0) (hb : vcheck b = 0) : Ev (fun n => go_expr_apply n op [a, b]) (toRes (eapply op [a, b])) := by
  obtain ⟨wa, sa⟩ := vok ha
  obtain ⟨wb, sb⟩ := vok hb
  have i0 : ix [a, b] 0 = some a := rfl
  have i1 : ix [a, b] 1 = some b := rfl
  have n (i j : Int) (h : i ≠ j) : (i == j) = false := by simpa using h
  have kok : ∀ k : Int, [a, b].all (fun v => v.kind == k) = true → Ev (fun n => go_expr_kind n k [a, b]) (.ok ()) := fun k h => by have := expr_kind (k := k) (l := [a, b]) (by simp); rwa [if_pos h] at this
  have kpan : ∀ k : Int, [a, b].all (fun v => v.kind == k) = false → Ev (fun n => go_expr_kind n k [a, b]) (.pan (20, ())) := fun k h => by have := expr_kind (k := k) (l := [a, b]) (by simp); rwa [if_neg (by rw [h]; simp)] at this
  unfold eapply
  simp only [List.getD_cons_zero, List.getD_cons_succ]
  rw [ev_expr_apply]
  by_cases h3 : op = 3
  · rw [Ev.pif_t (by simpa using h3), if_pos h3, Ev.opt_iff i0, Ev.opt_iff i1, GValue.re_eq, GValue.re_eq, Ev.bind_iff (value_Add wa wb (by omega) (by omega))]
    by_cases hz : (vadd a b).1 = 0
    · rw [hz, Ev.bind_iff must_ok, Ev.res_ok, Ev.some_iff, GValue.re_eq, toRes_ok hz]
    · rw [Ev.bind_iff (must_pan hz), Ev.res_pan, Ev.some_iff, toRes_pan hz]
  rw [Ev.pif_f (by simpa using h3), if_neg h3]
  have tail : ∀ {op : Int → Prop} {y : Int × GValue}, True := fun {_ _} => trivial
  have num : ∀ {go : Nat → Option (Int × GRatio)} {f : GRatio → GRatio → Int × Int}, Ev go (rbin f a.num b.num) →
      Ev (fun n => (go n).bind fun y10 => (go_expr_number n y10.2 y10.1).bind fun y11 => pRes y11 (fun r12 => some (Res.ok r12.re)) (fun e13 => some (Res.pan (e13.1, ())))) (toRes (onum (rbin f a.num b.num))) := fun {go f} h => by
    rw [Ev.bind_iff h, Ev.bind_iff expr_number]
    by_cases hz : (onum (rbin f a.num b.num)).1 = 0
    · rw [toRes_ok hz, Ev.res_ok, Ev.some_iff, GValue.re_eq]
    · rw [toRes_pan hz, Ev.res_pan, Ev.some_iff]
  have pan20 : toRes (20, v0) = .pan (20, ()) := rfl
  by_cases h4 : op = 4
  · rw [Ev.pif_t (by simpa using h4), if_pos h4]
    cases hk : [a, b].all (fun v => v.kind == 1)
    · rw [Ev.bind_iff (kpan 1 hk), Ev.res_pan, Ev.some_iff]; rfl
    · rw [Ev.bind_iff (kok 1 hk), Ev.res_ok, if_pos rfl, Ev.opt_iff i0, Ev.opt_iff i1]
      exact num (ratio_Sub (wf_num wa) (wf_num wb))
  rw [Ev.pif_f (by simpa using h4), if_neg h4]
  by_cases h5 : op = 5
  · rw [Ev.pif_t (by simpa using h5), if_pos h5]
    cases hk : [a, b].all (fun v => v.kind == 1)
    · rw [Ev.bind_iff (kpan 1 hk), Ev.res_pan, Ev.some_iff]; rfl
    · rw [Ev.bind_iff (kok 1 hk), Ev.res_ok, if_pos rfl, Ev.opt_iff i0, Ev.opt_iff i1]
      exact num (ratio_Mul (wf_num wa) (wf_num wb))
  rw [Ev.pif_f (by simpa using h5), if_neg h5]
  by_cases h6 : op = 6
  · rw [Ev.pif_t (by simpa using h6), if_pos h6]
    cases hk : [a, b].all (fun v => v.kind == 1)
    · rw [Ev.bind_iff (kpan 1 hk), Ev.res_pan, Ev.some_iff]; rfl
    · rw [Ev.bind_iff (kok 1 hk), Ev.res_ok, if_pos rfl, Ev.opt_iff i0, Ev.opt_iff i1]
      exact num (ratio_Div (wf_num wa) (wf_num wb))
  rw [Ev.pif_f (by simpa using h6), if_neg h6]
  by_cases h8 : op = 8
  · rw [Ev.pif_t (by simpa using h8), if_pos h8, Ev.opt_iff i0, Ev.opt_iff i1, GValue.re_eq, GValue.re_eq, Ev.bind_iff (value_Same a b (by omega)), Ev.bind_iff expr_truth, Ev.some_iff, GValue.re_eq]; rfl
  rw [Ev.pif_f (by simpa using h8), if_neg h8]
  -- orders
  have l1 : ∀ c z, Ev (fun n => go_expr_apply_L1 n [a, b] c z) (.ok (if c then a else b)) := fun c z => by
    rw [ev_expr_apply_L1]; cases c
    · rw [Ev.pif_f (by rfl), Ev.opt_iff i1, Ev.some_iff, GValue.re_eq]; rfl
    · rw [Ev.pif_t (by rfl), Ev.opt_iff i0, Ev.some_iff, GValue.re_eq]; rfl
  have ord : (op = 7 ∨ op = 13 ∨ op = 14) → ∀ z, Ev (fun n => go_expr_apply_L0 n [a, b] op op true z) (toRes (if (vcompare a b).2 ≠ 0 then ((vcompare a b).2, v0)
    else if op = 7 then (0, vtruth (decide ((vcompare a b).1 < 0)))
    else if op = 13 then (0, if (vcompare a b).1 > 0 then b else a)
    else (0, if (vcompare a b).1 < 0 then b else a))) := fun h z => by
    rw [ev_expr_apply_L0, Ev.pif_t (by rfl), Ev.opt_iff i0, Ev.opt_iff i1, GValue.re_eq, GValue.re_eq, Ev.bind_iff (value_Compare wa wb (by omega) (by omega))]
    generalize vcompare a b = c
    by_cases hz : c.2 = 0
    · rw [hz, Ev.bind_iff must_ok, Ev.res_ok, if_neg (by simp)]
      by_cases h7 : op = 7
      · rw [Ev.pif_t (by simpa using h7), if_pos h7, Ev.bind_iff expr_truth, Ev.some_iff, GValue.re_eq]; rfl
      · rw [Ev.pif_f (by simpa using h7), if_neg h7, GValue.re_eq]
        by_cases h13 : op = 13
        · rw [show (op == 13) = true by simpa using h13, if_pos h13]
          by_cases hc : c.1 ≤ 0
          · rw [Ev.pif_t (by simp [hc])]
            exact (l1 _ _).to (by rw [if_neg (c := c.1 > 0) (by omega)]; rfl)
          · rw [Ev.pif_f (by simp [hc]), show (c.1 == 0) = false by simp; omega]
            exact (l1 _ _).to (by rw [if_pos (c := c.1 > 0) (by omega)]; rfl)
        · rw [show (op == 13) = false by simpa using h13, if_neg h13]
          by_cases hc : c.1 ≤ 0
          · rw [Ev.pif_f (by simp [hc])]
            by_cases hc0 : c.1 = 0
            · rw [show (c.1 == 0) = true by simpa using hc0]
              exact (l1 _ _).to (by rw [if_neg (c := c.1 < 0) (by omega)]; rfl)
            · rw [show (c.1 == 0) = false by simpa using hc0]
              exact (l1 _ _).to (by rw [if_pos (c := c.1 < 0) (by omega)]; rfl)
          · rw [Ev.pif_t (by simp [hc])]
            exact (l1 _ _).to (by rw [if_neg (c := c.1 < 0) (by omega)]; rfl)
    · rw [Ev.bind_iff (must_pan hz), Ev.res_pan, Ev.some_iff, if_pos hz, toRes_pan (by exact hz)]
  by_cases h7 : op = 7
  · rw [Ev.pif_t (by simpa using h7), if_pos (.inl h7)]; exact ord (.inl h7) _
  rw [Ev.pif_f (by simpa using h7)]
  by_cases h13 : op = 13
  · rw [Ev.pif_t (by simpa using h13), if_pos (.inr (.inl h13))]; exact ord (.inr (.inl h13)) _
  rw [Ev.pif_f (by simpa using h13)]
  by_cases h14 : op = 14
  · rw [show (op == 14) = true by simpa using h14, if_pos (.inr (.inr h14))]; exact ord (.inr (.inr h14)) _
  rw [show (op == 14) = false by simpa using h14, if_neg (by omega), ev_expr_apply_L0, Ev.pif_f (by rfl)]
  by_cases h9 : op = 9
  · rw [Ev.pif_t (by simpa using h9), if_pos h9]
    cases hk : [a, b].all (fun v => v.kind == 2)
    · rw [Ev.bind_iff (kpan 2 hk), Ev.res_pan, Ev.some_iff]; rfl
    · rw [Ev.bind_iff (kok 2 hk), Ev.res_ok, if_pos rfl, Ev.opt_iff i0]
      cases ht : a.truth
      · rw [Ev.pif_f (by rfl), Ev.bind_iff expr_truth, Ev.some_iff, GValue.re_eq]; rfl
      · rw [Ev.pif_t (by rfl), Ev.opt_iff i1, Ev.bind_iff expr_truth, Ev.some_iff, GValue.re_eq]; rfl
  rw [Ev.pif_f (by simpa using h9), if_neg h9]
  by_cases h10 : op = 10
  · rw [Ev.pif_t (by simpa using h10), if_pos h10]
    cases hk : [a, b].all (fun v => v.kind == 2)
    · rw [Ev.bind_iff (kpan 2 hk), Ev.res_pan, Ev.some_iff]; rfl
    · rw [Ev.bind_iff (kok 2 hk), Ev.res_ok, if_pos rfl, Ev.opt_iff i0]
      cases ht : a.truth
      · rw [Ev.pif_f (by rfl), Ev.opt_iff i1, Ev.bind_iff expr_truth, Ev.some_iff, GValue.re_eq]; rfl
      · rw [Ev.pif_t (by rfl), Ev.bind_iff expr_truth, Ev.some_iff, GValue.re_eq]; rfl
  rw [Ev.pif_f (by simpa using h10), if_neg h10]
  have h17 : op = 17 := by have := ops2 hop; omega
  rw [Ev.pif_f (by simp; omega), Ev.pif_f (by simp; omega), Ev.pif_f (by simp; omega), Ev.pif_t (by simpa using h17), if_neg (by omega), if_neg (by omega), if_neg (by omega), if_pos h17]
  rw [Ev.opt_iff i0, GValue.re_eq, Ev.bind_iff (value_Len wa (by omega))]
  by_cases hz : (vlen a).2 = 0
  case neg => rw [Ev.bind_iff (must_pan hz), Ev.res_pan, Ev.some_iff, if_pos hz, toRes_pan (by exact hz)]
  rw [hz, Ev.bind_iff must_ok, Ev.res_ok, if_neg (by simp), Ev.opt_iff i1, GValue.re_eq]
  have k1 : Ev (fun n => go_expr_kind n 1 [b]) (if [b].all (fun v => v.kind == 1) then .ok () else .pan (20, ())) := expr_kind (by simp)
  by_cases hk : b.kind = 1
  case neg =>
    rw [if_neg (by simpa using hk)] at k1
    rw [Ev.bind_iff k1, Ev.res_pan, Ev.some_iff, if_pos hk]; rfl
  rw [if_pos (by simpa using hk)] at k1
  rw [Ev.bind_iff k1, Ev.res_ok, Ev.opt_iff i1, if_neg (by simpa using hk)]
  by_cases hd : b.num.den = 1
  case neg => rw [Ev.pif_t (by simpa using hd), Ev.bind_iff (must_pan (by decide)), Ev.res_pan, Ev.some_iff, if_pos hd]; rfl
  rw [Ev.pif_f (by simpa using hd), if_neg (by simpa using hd), ev_expr_apply_L2, Ev.opt_iff i0, Ev.opt_iff i1, GValue.re_eq, Ev.bind_iff (value_At wa (by omega))]
  by_cases hv : (vat a b.num.num).1 = 0
  · rw [hv, Ev.bind_iff must_ok, Ev.res_ok, Ev.some_iff, GValue.re_eq, toRes_ok hv]
  · rw [Ev.bind_iff (must_pan hv), Ev.res_pan, Ev.some_iff, toRes_pan hv]
theorem expr_apply1 {op : Int} {a : GValue} (hop : ecount op = 1) (ha : vcheck a = 0) : Ev (fun n => go_expr_apply n op [a]) (toRes (eapply op [a])) := by
  obtain ⟨wa, sa⟩ := vok ha
  have i0 : ix [a] 0 = some a := rfl
  have kok : ∀ k : Int, [a].all (fun v => v.kind == k) = true → Ev (fun n => go_expr_kind n k [a]) (.ok ()) := fun k h => by have := expr_kind (k := k) (l := [a]) (by simp); rwa [if_pos h] at this
  have kpan : ∀ k : Int, [a].all (fun v => v.kind == k) = false → Ev (fun n => go_expr_kind n k [a]) (.pan (20, ())) := fun k h => by have := expr_kind (k := k) (l := [a]) (by simp); rwa [if_neg (by rw [h]; simp)] at this
  have ho := ops1 hop
  unfold eapply
  simp only [List.getD_cons_zero]
  rw [ev_expr_apply, Ev.pif_f (by simp; omega), Ev.pif_f (by simp; omega), Ev.pif_f (by simp; omega), Ev.pif_f (by simp; omega), Ev.pif_f (by simp; omega), Ev.pif_f (by simp; omega), Ev.pif_f (by simp; omega), show (op == 14) = false by simp; omega, ev_expr_apply_L0, Ev.pif_f (by rfl), Ev.pif_f (by simp; omega), Ev.pif_f (by simp; omega)]
  rw [if_neg (by omega), if_neg (by omega), if_neg (by omega), if_neg (by omega), if_neg (by omega), if_neg (by omega), if_neg (by omega), if_neg (by omega)]
  by_cases h11 : op = 11
  · rw [Ev.pif_t (by simpa using h11), if_pos h11]
    cases hk : [a].all (fun v => v.kind == 2)
    · rw [Ev.bind_iff (kpan 2 hk), Ev.res_pan, Ev.some_iff]; rfl
    · rw [Ev.bind_iff (kok 2 hk), Ev.res_ok, if_pos rfl, Ev.opt_iff i0, Ev.bind_iff expr_truth, Ev.some_iff, GValue.re_eq]; rfl
  rw [Ev.pif_f (by simpa using h11), if_neg h11]
  by_cases h15 : op = 15
  · rw [Ev.pif_t (by simpa using h15), if_pos h15]
    cases hk : [a].all (fun v => v.kind == 1)
    · rw [Ev.bind_iff (kpan 1 hk), Ev.res_pan, Ev.some_iff]; rfl
    · have hb := rfloor_b (r := a.num)
      have hm : Ev (fun n => go_ratio_Make n (rfloor a.num).1 1) (0, ⟨(rfloor a.num).1, 1⟩) := by
        have := ratio_Make (num := (rfloor a.num).1) (den := 1) (by unfold I64; omega) (by unfold I64; omega)
        rwa [rmake_one hb] at this
      rw [Ev.bind_iff (kok 1 hk), Ev.res_ok, if_pos rfl, Ev.opt_iff i0, Ev.bind_iff (ratio_Floor (wf_num wa)), Ev.bind_iff hm, Ev.bind_iff (expr_number (r := (0, ⟨(rfloor a.num).1, 1⟩)))]
      rw [toRes_ok (by rfl), Ev.res_ok, Ev.some_iff, GValue.re_eq]; rfl
  have h16 : op = 16 := by omega
  rw [Ev.pif_f (by simpa using h15), if_neg h15, Ev.pif_t (by simpa using h16), if_pos h16, Ev.opt_iff i0, GValue.re_eq, Ev.bind_iff (value_Len wa (by omega))]
  have hb := vlen_b sa
  by_cases hz : (vlen a).2 = 0
  · have hm : Ev (fun n => go_ratio_Make n (vlen a).1 1) (0, ⟨(vlen a).1, 1⟩) := by
      have := ratio_Make (num := (vlen a).1) (den := 1) (by unfold I64; omega) (by unfold I64; omega)
      rwa [rmake_one (by omega)] at this
    rw [hz, Ev.bind_iff must_ok, Ev.res_ok, Ev.bind_iff hm, Ev.bind_iff (expr_number (r := (0, ⟨(vlen a).1, 1⟩)))]
    rw [toRes_ok (by rfl), Ev.res_ok, Ev.some_iff, GValue.re_eq, if_neg (by simp)]; rfl
  · rw [Ev.bind_iff (must_pan hz), Ev.res_pan, Ev.some_iff, if_pos hz, toRes_pan (by exact hz)]
theorem expr_applyL {l : List GValue} (hl : l.length ≤ 100) (h : ∀ x ∈ l, vcheck x = 0) : Ev (fun n => go_expr_apply n 18 l) (toRes (eapply 18 l)) := by
  obtain ⟨w, s⟩ := vlist_ok h hl
  have hc : Ev (fun n => go_value_Check n (GValue.mk 4 (GRatio.mk 0 0) false [] l)) (vcheck (vlist l)) := value_Check w s
  rw [ev_expr_apply]
  iterate 7 rw [Ev.pif_f (by rfl)]
  rw [show ((18 : Int) == 14) = false from rfl, ev_expr_apply_L0]
  iterate 7 rw [Ev.pif_f (by rfl)]
  rw [Ev.bind_iff hc]
  have e : eapply 18 l = if vcheck (vlist l) ≠ 0 then (vcheck (vlist l), v0) else (0, vlist l) := by unfold eapply; simp
  rw [e]
  by_cases hz : vcheck (vlist l) = 0
  · rw [hz, Ev.bind_iff must_ok, Ev.res_ok, Ev.some_iff]; rfl
  · rw [Ev.bind_iff (must_pan hz), Ev.res_pan, Ev.some_iff, if_pos hz, toRes_pan (by exact hz)]
end Go.Proofs.YtfhpamcehnfhoaaGreat

namespace Go.Proofs.YtfhpamcehnfhoaaGreat
open Go Go.Ab
set_option linter.unusedVariables false
set_option linter.unusedSimpArgs false
theorem all2 {a b : GValue} {k : Int} : [a, b].all (fun v => v.kind == k) = ((a.kind == k) && (b.kind == k)) := by simp
theorem ref04_number {r : Int × GRatio} : Ev (fun n => go_ref04_number n r.2 r.1) (onum r) := by
  unfold onum
  rw [ev_ref04_number]
  by_cases h : r.1 = 0
  · rw [Ev.pif_f (by simpa using h), Ev.bind_iff ref03_Of, Ev.some_iff, GValue.re_eq, if_pos h]; rfl
  · rw [Ev.pif_t (by simpa using h), Ev.some_iff, if_neg h]; rfl
theorem ref04_two {op : Int} {a b : GValue} (hop : ecount op = 2) (ha : vcheck a = 0) (hb : vcheck b = 0) : Ev (fun n => go_ref04_two n op a b) (eapply op [a, b]) := by
  obtain ⟨wa, sa⟩ := vok ha
  obtain ⟨wb, sb⟩ := vok hb
  have l6 : ∀ {go : Nat → Option (Int × GRatio)} {r : Int × GRatio} {z}, Ev go r → Ev (fun n => (go n).bind fun y => go_ref04_two_L6 n y.1 z y.2) (onum r) := fun {go r z} h => by
    rw [Ev.bind_iff h, ev_ref04_two_L6, Ev.bind_iff ref04_number, Ev.some_iff, GValue.re_eq]
  have l3 : ∀ c z, Ev (fun n => go_ref04_two_L3 n c z b a) (0, if c then b else a) := fun c z => by
    rw [ev_ref04_two_L3]; cases c
    · rw [Ev.pif_f (by rfl), Ev.some_iff, GValue.re_eq]; rfl
    · rw [Ev.pif_t (by rfl), Ev.some_iff, GValue.re_eq]; rfl
  have main : ∀ z, Ev (fun n => go_ref04_two_L1 n op ((a.kind == 2) && (b.kind == 2)) ((a.kind == 1) && (b.kind == 1)) z b a) (eapply op [a, b]) := fun z => by
    unfold eapply
    simp only [List.getD_cons_zero, List.getD_cons_succ, all2]
    rw [ev_ref04_two_L1]
    by_cases h3 : op = 3
    · rw [Ev.pif_t (by simpa using h3), if_pos h3, GValue.re_eq, GValue.re_eq, Ev.bind_iff (ref03_Add (by omega) (by omega) (by omega)), Ev.some_iff, GValue.re_eq]
    rw [Ev.pif_f (by simpa using h3), if_neg h3, GValue.re_eq, GValue.re_eq, GValue.re_eq]
    by_cases h8 : op = 8
    · rw [Ev.pif_t (by simpa using h8), if_neg (by omega), if_neg (by omega), if_neg (by omega), if_pos h8, Ev.bind_iff (ref03_Same a b (by omega)), Ev.bind_iff ref03_Is, Ev.some_iff, GValue.re_eq]; rfl
    rw [Ev.pif_f (by simpa using h8)]
    have ord : (op = 7 ∨ op = 13 ∨ op = 14) → ∀ p q z, Ev (fun n => go_ref04_two_L2 n op p q op true z b a) (if (vcompare a b).2 ≠ 0 then ((vcompare a b).2, v0)
      else if op = 7 then (0, vtruth (decide ((vcompare a b).1 < 0)))
      else if op = 13 then (0, if (vcompare a b).1 > 0 then b else a)
      else (0, if (vcompare a b).1 < 0 then b else a)) := fun h p q z => by
      rw [ev_ref04_two_L2, Ev.pif_t (by rfl), GValue.re_eq, GValue.re_eq, GValue.re_eq, Ev.bind_iff (ref03_Compare (by omega) (by omega))]
      generalize vcompare a b = c
      by_cases hz : c.2 = 0
      · rw [Ev.pif_f (by simpa using hz), if_neg (by simpa using hz)]
        by_cases h7 : op = 7
        · rw [Ev.pif_t (by simpa using h7), if_pos h7, Ev.bind_iff ref03_Is, Ev.some_iff, GValue.re_eq]; rfl
        · rw [Ev.pif_f (by simpa using h7), if_neg h7]
          by_cases h13 : op = 13
          · rw [Ev.pif_t (by simpa using h13), if_pos h13]
            by_cases hc : c.1 > 0
            · rw [Ev.pif_t (by simpa using hc)]; exact (l3 true _).to (by rw [if_pos hc]; rfl)
            · rw [Ev.pif_f (by simpa using hc), Ev.pif_f (by simp; omega)]; exact (l3 false _).to (by rw [if_neg hc]; rfl)
          · have h14 : op = 14 := by omega
            rw [Ev.pif_f (by simpa using h13), if_neg h13, Ev.pif_t (by simpa using h14)]
            by_cases hc : c.1 < 0
            · rw [show decide (c.1 < 0) = true by simpa using hc]; exact (l3 true _).to (by rw [if_pos hc]; rfl)
            · rw [show decide (c.1 < 0) = false by simpa using hc]; exact (l3 false _).to (by rw [if_neg hc]; rfl)
      · rw [Ev.pif_t (by simpa using hz), if_pos hz, Ev.some_iff]; rfl
    by_cases h4 : op = 4
    · rw [if_pos h4, Ev.pif_f (by simp; omega), Ev.pif_f (by simp; omega), show (op == 14) = false by simp; omega, ev_ref04_two_L2, Ev.pif_f (by rfl), Ev.pif_f (by simp; omega), show (op == 10) = false by simp; omega, ev_ref04_two_L4, Ev.pif_f (by rfl), Ev.pif_f (by simp; omega)]
      cases hk : (a.kind == 1) && (b.kind == 1)
      · rw [Ev.pif_t (by rfl), Ev.some_iff]; rfl
      · rw [Ev.pif_f (by rfl), Ev.pif_t (by simpa using h4), if_pos rfl]; exact l6 ref01_Sub
    rw [if_neg h4]
    by_cases h5 : op = 5
    · rw [if_pos h5, Ev.pif_f (by simp; omega), Ev.pif_f (by simp; omega), show (op == 14) = false by simp; omega, ev_ref04_two_L2, Ev.pif_f (by rfl), Ev.pif_f (by simp; omega), show (op == 10) = false by simp; omega, ev_ref04_two_L4, Ev.pif_f (by rfl), Ev.pif_f (by simp; omega)]
      cases hk : (a.kind == 1) && (b.kind == 1)
      · rw [Ev.pif_t (by rfl), Ev.some_iff]; rfl
      · rw [Ev.pif_f (by rfl), Ev.pif_f (by simp; omega), Ev.pif_t (by simpa using h5), if_pos rfl]; exact l6 ref01_Mul
    rw [if_neg h5]
    by_cases h6 : op = 6
    · rw [if_pos h6, Ev.pif_f (by simp; omega), Ev.pif_f (by simp; omega), show (op == 14) = false by simp; omega, ev_ref04_two_L2, Ev.pif_f (by rfl), Ev.pif_f (by simp; omega), show (op == 10) = false by simp; omega, ev_ref04_two_L4, Ev.pif_f (by rfl), Ev.pif_f (by simp; omega)]
      cases hk : (a.kind == 1) && (b.kind == 1)
      · rw [Ev.pif_t (by rfl), Ev.some_iff]; rfl
      · rw [Ev.pif_f (by rfl), Ev.pif_f (by simp; omega), Ev.pif_f (by simp; omega), Ev.pif_t (by simpa using h6), if_pos rfl]; exact l6 ref01_Div
    rw [if_neg h6, if_neg h8]
    by_cases h7 : op = 7
    · rw [Ev.pif_t (by simpa using h7), if_pos (.inl h7)]; exact ord (.inl h7) _ _ _
    rw [Ev.pif_f (by simpa using h7)]
    by_cases h13 : op = 13
    · rw [Ev.pif_t (by simpa using h13), if_pos (.inr (.inl h13))]; exact ord (.inr (.inl h13)) _ _ _
    rw [Ev.pif_f (by simpa using h13)]
    by_cases h14 : op = 14
    · rw [show (op == 14) = true by simpa using h14, if_pos (.inr (.inr h14))]; exact ord (.inr (.inr h14)) _ _ _
    rw [show (op == 14) = false by simpa using h14, if_neg (by omega), ev_ref04_two_L2, Ev.pif_f (by rfl)]
    by_cases h9 : op = 9
    · rw [Ev.pif_t (by simpa using h9), if_pos h9, ev_ref04_two_L4, Ev.pif_t (by rfl)]
      cases hk : (a.kind == 2) && (b.kind == 2)
      · rw [Ev.pif_t (by rfl), Ev.some_iff]; rfl
      · rw [Ev.pif_f (by rfl), if_pos rfl, GValue.re_eq, GValue.re_eq]
        have e10 : (op == 10) = false := by simp; omega
        cases ht : a.truth
        · rw [Ev.pif_f (by rfl), Ev.pif_f e10, Ev.bind_iff ref03_Is, Ev.some_iff, GValue.re_eq]; rfl
        · rw [Ev.pif_t (by rfl)]
          cases hu : b.truth
          · rw [Ev.pif_f (by rfl), Ev.pif_f e10, Ev.bind_iff ref03_Is, Ev.some_iff, GValue.re_eq]; rfl
          · rw [Ev.pif_t (by rfl), Ev.bind_iff ref03_Is, Ev.some_iff, GValue.re_eq]; rfl
    rw [Ev.pif_f (by simpa using h9), if_neg h9]
    by_cases h10 : op = 10
    · rw [show (op == 10) = true by simpa using h10, if_pos h10, ev_ref04_two_L4, Ev.pif_t (by rfl)]
      cases hk : (a.kind == 2) && (b.kind == 2)
      · rw [Ev.pif_t (by rfl), Ev.some_iff]; rfl
      · rw [Ev.pif_f (by rfl), if_pos rfl, GValue.re_eq, GValue.re_eq]
        have e10 : (op == 10) = true := by simpa using h10
        cases ht : a.truth
        · rw [Ev.pif_f (by rfl), Ev.pif_t e10, Ev.pif_f (by rfl), Ev.bind_iff ref03_Is, Ev.some_iff, GValue.re_eq]; rfl
        · rw [Ev.pif_t (by rfl)]
          cases hu : b.truth
          · rw [Ev.pif_f (by rfl), Ev.pif_t e10, Ev.pif_t (by rfl), Ev.bind_iff ref03_Is, Ev.some_iff, GValue.re_eq]; rfl
          · rw [Ev.pif_t (by rfl), Ev.bind_iff ref03_Is, Ev.some_iff, GValue.re_eq]; rfl
    have h17 : op = 17 := by have := ops2 hop; omega
    rw [show (op == 10) = false by simpa using h10, if_neg h10, if_neg (by omega), if_neg (by omega), if_neg (by omega), if_pos h17, ev_ref04_two_L4, Ev.pif_f (by rfl), Ev.pif_t (by simpa using h17)]
    have hlen : (vlen a).2 = if a.kind = 3 ∨ a.kind = 4 then 0 else 20 := by
      unfold vlen; rw [if_neg (by simpa using ha)]
      by_cases k3 : a.kind = 3
      · rw [if_pos k3, if_pos (.inl k3)]
      · rw [if_neg k3]
        by_cases k4 : a.kind = 4
        · rw [if_pos k4, if_pos (.inr k4)]
        · rw [if_neg k4, if_neg (by omega)]
    have bad : ∀ z, Ev (fun n => go_ref04_two_L5 n true z b a) (20, v0) := fun z => by rw [ev_ref04_two_L5, Ev.pif_t (by rfl), Ev.some_iff]; rfl
    simp only [GValue.re_eq]
    by_cases hkb : b.kind = 1
    case neg =>
      rw [Ev.pif_t (by simpa using hkb)]
      refine (bad _).to ?_
      rw [if_pos hkb, hlen]
      by_cases hh : a.kind = 3 ∨ a.kind = 4
      · rw [if_pos hh]; rfl
      · rw [if_neg hh]; rfl
    rw [Ev.pif_f (by simpa using hkb)]
    have l5 : ∀ z, (vlen a).2 = 0 → Ev (fun n => go_ref04_two_L5 n false z b a) (if (vlen a).2 ≠ 0 then ((vlen a).2, v0) else if b.kind ≠ 1 then (20, v0) else if b.num.den ≠ 1 then (2, v0) else vat a b.num.num) := fun z hz => by
      rw [ev_ref04_two_L5, Ev.pif_f (by rfl), if_neg (by simpa using hz), if_neg (by simpa using hkb)]
      by_cases hd : b.num.den = 1
      · rw [Ev.pif_f (by simpa using hd), if_neg (by simpa using hd), GValue.re_eq, Ev.bind_iff (ref03_At (by omega)), Ev.some_iff, GValue.re_eq]
      · rw [Ev.pif_t (by simpa using hd), if_pos hd, Ev.some_iff]; rfl
    by_cases k4 : a.kind = 4
    · rw [Ev.pif_f (by simpa using k4)]
      exact l5 _ (by rw [hlen, if_pos (.inr k4)])
    · rw [Ev.pif_t (by simpa using k4)]
      by_cases k3 : a.kind = 3
      · rw [show (a.kind != 3) = false by simpa using k3]
        exact l5 _ (by rw [hlen, if_pos (.inl k3)])
      · rw [show (a.kind != 3) = true by simpa using k3]
        refine (bad _).to ?_
        have h20 : (vlen a).2 = 20 := by rw [hlen, if_neg (by omega)]
        rw [h20]; rfl
  rw [ev_ref04_two, GValue.re_eq, GValue.re_eq]
  have l0 : ∀ c z, c = ((a.kind == 1) && (b.kind == 1)) → Ev (fun n => go_ref04_two_L0 n op c z b a) (eapply op [a, b]) := fun c z hc => by
    subst hc
    rw [ev_ref04_two_L0]
    simp only [GValue.re_eq]
    cases h2 : a.kind == 2
    · rw [Ev.pif_f (by rfl)]; have := main z; rwa [h2] at this
    · rw [Ev.pif_t (by rfl)]; have := main z; rwa [h2] at this
  cases h1 : a.kind == 1
  · rw [Ev.pif_f (by rfl)]; exact l0 _ _ (by rw [h1]; rfl)
  · rw [Ev.pif_t (by rfl)]; exact l0 _ _ (by rw [h1]; rfl)
theorem ref04_whole {n : Int} : Ev (fun m => go_ref04_whole m n) (0, vnum ⟨n, 1⟩) := by rw [ev_ref04_whole, Ev.bind_iff ref03_Of, Ev.some_iff, GValue.re_eq]; rfl
theorem ref04_one {op : Int} {a : GValue} (hop : ecount op = 1) (ha : vcheck a = 0) : Ev (fun n => go_ref04_one n op a) (eapply op [a]) := by
  obtain ⟨wa, sa⟩ := vok ha
  have ho := ops1 hop
  unfold eapply
  simp only [List.getD_cons_zero]
  rw [ev_ref04_one, if_neg (by omega), if_neg (by omega), if_neg (by omega), if_neg (by omega), if_neg (by omega), if_neg (by omega), if_neg (by omega), if_neg (by omega)]
  have one : ∀ k : Int, [a].all (fun v => v.kind == k) = (a.kind == k) := fun k => by simp
  simp only [one]
  by_cases h11 : op = 11
  · rw [Ev.pif_t (by simpa using h11), if_pos h11]
    by_cases hk : a.kind = 2
    · rw [Ev.pif_f (by simpa using hk), if_pos (by simpa using hk), Ev.bind_iff ref03_Is, Ev.some_iff, GValue.re_eq]; rfl
    · rw [Ev.pif_t (by simpa using hk), if_neg (by simpa using hk), Ev.some_iff]; rfl
  rw [Ev.pif_f (by simpa using h11), if_neg h11]
  by_cases h15 : op = 15
  · rw [Ev.pif_t (by simpa using h15), if_pos h15]
    by_cases hk : a.kind = 1
    · rw [Ev.pif_f (by simpa using hk), if_pos (by simpa using hk), Ev.bind_iff ref01_Floor, Ev.bind_iff ref04_whole, Ev.some_iff, GValue.re_eq]
    · rw [Ev.pif_t (by simpa using hk), if_neg (by simpa using hk), Ev.some_iff]; rfl
  have h16 : op = 16 := by omega
  rw [Ev.pif_f (by simpa using h15), if_neg h15, if_pos h16, GValue.re_eq, Ev.bind_iff (ref03_Len (by omega))]
  by_cases hz : (vlen a).2 = 0
  · rw [Ev.pif_f (by simpa using hz), if_neg (by simpa using hz), Ev.bind_iff ref04_whole, Ev.some_iff, GValue.re_eq]
  · rw [Ev.pif_t (by simpa using hz), if_pos hz, Ev.some_iff]; rfl
/-! ### results are valid -/
theorem vcheck_truth (b : Bool) : vcheck (vtruth b) = 0 := by cases b <;> decide
theorem vcheck_num {r : GRatio} (h : rok r = true) : vcheck (vnum r) = 0 := by
  refine vcheck_of ?_ ?_ ?_
  · rw [vfine_eq]; simp [vnum, h]
  · rw [vparts_eq]; simp [vnum]
  · rw [vdeep_eq]; simp [vnum]
theorem rok_one {n : Int} (h : -1000000000 ≤ n ∧ n ≤ 1000000000) : rok ⟨n, 1⟩ = true := by
  rw [rok_iff]; simp; omega
theorem vcheck_str {s : List UInt8} (h1 : s.length ≤ 60) (h2 : s.all chOk = true) : vcheck ⟨3, ⟨0, 0⟩, false, s, []⟩ = 0 := by
  refine vcheck_of ?_ ?_ ?_
  · rw [vfine_eq]; simp only [nul]; simp [h1]; simpa using h2
  · rw [vparts_eq]; simp
  · rw [vdeep_eq]; simp
theorem vfine3 {v : GValue} (h : vfine v = true) (hk : v.kind = 3) : v.str.length ≤ 60 ∧ v.str.all chOk = true := by
  rw [vfine_eq, if_neg (by omega), if_neg (by omega), if_pos hk] at h
  simp only [Bool.and_eq_true, decide_eq_true_eq] at h
  exact h.2.2.2
theorem onum_ok {f : GRatio → GRatio → Int × Int} {a b : GRatio} (h : (onum (rbin f a b)).1 = 0) : vcheck (onum (rbin f a b)).2 = 0 := by
  unfold onum at h ⊢
  split at h
  · rename_i hz
    rw [if_pos hz]
    refine vcheck_num ?_
    unfold rbin at hz ⊢
    split at hz
    · rename_i hr; rw [if_pos hr]; exact rmake_ok hz
    · cases hz
  · rename_i hz; exact (hz h).elim
theorem vpartsL_mem {l : List GValue} {x : GValue} (h : x ∈ l) : vparts x ≤ vpartsL l ∧ 1 + vdeep x ≤ vdeepL l := by
  induction l with
  | nil => cases h
  | cons y l ih =>
    rcases List.mem_cons.1 h with rfl | h
    · simp [vpartsL, vdeepL]; omega
    · have := ih h; simp [vpartsL, vdeepL]; omega
theorem velem_ok {v x : GValue} (h : vcheck v = 0) (hk : v.kind = 4) (hx : x ∈ v.list) : vcheck x = 0 := by
  obtain ⟨h1, h2, h3⟩ := vcheck_fine h
  obtain ⟨h4, h5⟩ := vpartsL_mem hx
  rw [vparts_eq, if_pos hk] at h2
  rw [vdeep_eq, if_pos hk] at h3
  exact vcheck_of (vfine_list h1 x hx) (by omega) (by omega)
theorem vadd_ok {a b : GValue} (h : (vadd a b).1 = 0) : vcheck (vadd a b).2 = 0 := by
  unfold vadd at h ⊢
  split at h
  · rename_i hz; exact (hz h).elim
  rename_i hz
  rw [if_neg hz]
  have hz : vboth a b = 0 := by simpa using hz
  obtain ⟨c1, c2⟩ := vboth_ok hz
  obtain ⟨f1, p1, d1⟩ := vcheck_fine c1
  obtain ⟨f2, p2, d2⟩ := vcheck_fine c2
  split at h
  · cases h
  rename_i hk
  rw [if_neg hk]
  split at h
  · rename_i h1
    rw [if_pos h1]
    split at h
    · rename_i hr; exact (hr h).elim
    · rename_i hr
      rw [if_neg hr]
      have hr : (rbin fadd a.num b.num).1 = 0 := by simpa using hr
      have := onum_ok (f := fadd) (a := a.num) (b := b.num) (by unfold onum; rw [if_pos hr])
      unfold onum at this
      rw [if_pos hr] at this
      exact this
  rename_i h1
  rw [if_neg h1]
  split at h
  · rename_i h3
    rw [if_pos h3]
    split at h
    · cases h
    · rename_i hl
      rw [if_neg hl]
      refine vcheck_str (by simp; omega) ?_
      rw [List.all_append, (vfine3 f1 h3).2, (vfine3 f2 (by omega)).2]; rfl
  rename_i h3
  rw [if_neg h3]
  split at h
  · cases h
  rename_i hl
  rw [if_neg hl]
  have k4 : a.kind = 4 := by have := vfine_kind f1; omega
  have k4b : b.kind = 4 := by omega
  have app : ∀ l m : List GValue, vpartsL (l ++ m) = vpartsL l + vpartsL m ∧ vdeepL (l ++ m) = max (vdeepL l) (vdeepL m) := fun l m => by
    induction l with
    | nil => simp [vpartsL, vdeepL]
    | cons x l ih => simp [vpartsL, vdeepL, ih]; omega
  obtain ⟨e1, e2⟩ := app a.list b.list
  rw [vparts_eq, if_pos k4] at p1; rw [vparts_eq, if_pos k4b] at p2
  rw [vdeep_eq, if_pos k4] at d1; rw [vdeep_eq, if_pos k4b] at d2
  rw [vparts_eq, vparts_eq b, if_pos k4, if_pos k4b] at hl
  refine vcheck_of ?_ ?_ ?_
  · rw [vfine_eq]
    have : vfineL (a.list ++ b.list) = true := by
      rw [vfineL_all, List.all_append, Bool.and_eq_true, List.all_eq_true, List.all_eq_true]
      exact ⟨vfine_list f1, vfine_list f2⟩
    simp [nul, this]
  · rw [vparts_eq, if_pos rfl, e1]; omega
  · rw [vdeep_eq, if_pos rfl, e2]; omega
theorem vat_ok {v : GValue} {i : Int} (h : (vat v i).1 = 0) : vcheck (vat v i).2 = 0 := by
  unfold vat at h ⊢
  split at h
  · rename_i hz; exact (hz h).elim
  rename_i hz
  rw [if_neg hz]
  obtain ⟨c, hk⟩ := vlen_ok (by simpa using hz)
  split at h
  · cases h
  rename_i hi
  rw [if_neg hi]
  split at h
  · rename_i k4
    rw [if_pos k4]
    have e : (vlen v).1 = v.list.length := by rcases hk with ⟨h3, _⟩ | ⟨_, e⟩; omega; exact e
    have hlt : i.toNat < v.list.length := by omega
    rw [List.getElem?_eq_getElem hlt]
    exact velem_ok c k4 (List.getElem_mem hlt)
  · rename_i k4
    rw [if_neg k4]
    have k3 : v.kind = 3 := by rcases hk with ⟨h3, _⟩ | ⟨h4, _⟩; exact h3; exact (k4 h4).elim
    obtain ⟨f1, _, _⟩ := vcheck_fine c
    obtain ⟨s1, s2⟩ := vfine3 f1 k3
    refine vcheck_str ?_ ?_
    · rw [List.length_take]; omega
    · rw [List.all_eq_true] at s2 ⊢
      intro x hx
      exact s2 x (List.mem_of_mem_drop (List.mem_of_mem_take hx))
theorem eapply_ok {op : Int} {l : List GValue} (hl : ∀ x ∈ l, vcheck x = 0) (hop : ecount op = l.length ∧ (l.length = 1 ∨ l.length = 2) ∨ op = 18) (h : (eapply op l).1 = 0) : vcheck (eapply op l).2 = 0 := by
  have g0 : 1 ≤ l.length → vcheck (l.getD 0 v0) = 0 := fun hh => by
    rw [List.getD_eq_getElem?_getD, List.getElem?_eq_getElem (by omega)]; exact hl _ (List.getElem_mem _)
  have g1 : 2 ≤ l.length → vcheck (l.getD 1 v0) = 0 := fun hh => by
    rw [List.getD_eq_getElem?_getD, List.getElem?_eq_getElem (by omega)]; exact hl _ (List.getElem_mem _)
  have hc2 : (3 ≤ op ∧ op ≤ 10) ∨ op = 13 ∨ op = 14 ∨ op = 17 → l.length = 2 := fun hh => by
    rcases hop with ⟨h1, h2⟩ | h1
    · rcases h2 with h2 | h2
      · rw [h2] at h1; have := ops1 h1; omega
      · exact h2
    · omega
  have hc1 : op = 11 ∨ op = 15 ∨ op = 16 → l.length = 1 := fun hh => by
    rcases hop with ⟨h1, h2⟩ | h1
    · rcases h2 with h2 | h2
      · exact h2
      · rw [h2] at h1; have := ops2 h1; omega
    · omega
  unfold eapply at h ⊢
  by_cases h3 : op = 3
  · rw [if_pos h3] at h ⊢; exact vadd_ok h
  rw [if_neg h3] at h ⊢
  have num : ∀ {f : GRatio → GRatio → Int × Int} {c : Bool} {a b : GRatio}, (if c = true then onum (rbin f a b) else (20, v0)).1 = 0 → vcheck (if c = true then onum (rbin f a b) else (20, v0)).2 = 0 := fun {f c a b} h => by
    cases c
    · cases h
    · rw [if_pos rfl] at h ⊢; exact onum_ok h
  by_cases h4 : op = 4
  · rw [if_pos h4] at h ⊢; exact num h
  rw [if_neg h4] at h ⊢
  by_cases h5 : op = 5
  · rw [if_pos h5] at h ⊢; exact num h
  rw [if_neg h5] at h ⊢
  by_cases h6 : op = 6
  · rw [if_pos h6] at h ⊢; exact num h
  rw [if_neg h6] at h ⊢
  by_cases h8 : op = 8
  · rw [if_pos h8]; exact vcheck_truth _
  rw [if_neg h8] at h ⊢
  by_cases h7 : op = 7 ∨ op = 13 ∨ op = 14
  · rw [if_pos h7] at h ⊢
    have hlen := hc2 (by omega)
    split at h
    · rename_i hz; exact (hz h).elim
    rename_i hz
    rw [if_neg hz]
    split
    · exact vcheck_truth _
    split
    · simp only; split
      · exact g1 (by omega)
      · exact g0 (by omega)
    · simp only; split
      · exact g1 (by omega)
      · exact g0 (by omega)
  rw [if_neg h7] at h ⊢
  have tr : ∀ {c b : Bool}, (if c = true then ((0 : Int), vtruth b) else (20, v0)).1 = 0 → vcheck (if c = true then ((0 : Int), vtruth b) else (20, v0)).2 = 0 := fun {c b} h => by
    cases c
    · cases h
    · exact vcheck_truth _
  by_cases h9 : op = 9
  · rw [if_pos h9] at h ⊢; exact tr h
  rw [if_neg h9] at h ⊢
  by_cases h10 : op = 10
  · rw [if_pos h10] at h ⊢; exact tr h
  rw [if_neg h10] at h ⊢
  by_cases h11 : op = 11
  · rw [if_pos h11] at h ⊢; exact tr h
  rw [if_neg h11] at h ⊢
  by_cases h15 : op = 15
  · rw [if_pos h15] at h ⊢
    split at h
    · rename_i hk; rw [if_pos hk]; exact vcheck_num (rok_one rfloor_b)
    · cases h
  rw [if_neg h15] at h ⊢
  by_cases h16 : op = 16
  · rw [if_pos h16] at h ⊢
    have := vlen_b (vok (g0 (by have := hc1 (by omega); omega))).2
    split at h
    · rename_i hz; exact (hz h).elim
    · rename_i hz; rw [if_neg hz]; exact vcheck_num (rok_one (by omega))
  rw [if_neg h16] at h ⊢
  by_cases h17 : op = 17
  · rw [if_pos h17] at h ⊢
    split at h
    · rename_i hz; exact (hz h).elim
    rename_i hz
    rw [if_neg hz]
    split at h
    · cases h
    rename_i hk
    rw [if_neg hk]
    split at h
    · cases h
    rename_i hd
    rw [if_neg hd]
    exact vat_ok h
  rw [if_neg h17] at h ⊢
  split at h
  · rename_i hz; exact (hz h).elim
  · rename_i hz; rw [if_neg hz]; simpa using hz
end Go.Proofs.YtfhpamcehnfhoaaGreat

namespace Go.Proofs.YtfhpamcehnfhoaaGreat
open Go Go.Ab
set_option linter.unusedVariables false
set_option linter.unusedSimpArgs false
def look (env : List GBind) (nm : List UInt8) : Option GValue := (env.find? fun b => b.name == nm).map (·.value)
mutual
noncomputable def eev (env : List GBind) : GExpr → Int × GValue
  | ⟨op, v, nm, l⟩ =>
    if op = 1 then (0, v)
    else if op = 2 then (match look env nm with | some x => (0, x) | none => (6, v0))
    else if op = 12 then eevIf env l
    else if (eevL env l).1 = 0 then eapply op (eevL env l).2 else ((eevL env l).1, v0)
noncomputable def eevIf (env : List GBind) : List GExpr → Int × GValue
  | [] => (0, v0)
  | c :: l => if (eev env c).1 ≠ 0 then ((eev env c).1, v0) else if (eev env c).2.kind ≠ 2 then (20, v0) else if (eev env c).2.truth then eevAt env l 0 else eevAt env l 1
noncomputable def eevAt (env : List GBind) : List GExpr → Nat → Int × GValue
  | [], _ => (0, v0)
  | x :: _, 0 => eev env x
  | _ :: l, k + 1 => eevAt env l k
noncomputable def eevL (env : List GBind) : List GExpr → Int × List GValue
  | [] => (0, [])
  | x :: l => if (eev env x).1 ≠ 0 then ((eev env x).1, []) else ((eevL env l).1, (eev env x).2 :: (eevL env l).2)
end
theorem look_cons (b : GBind) (l : List GBind) (nm : List UInt8) : look (b :: l) nm = if b.name = nm then some b.value else look l nm := by
  unfold look
  by_cases h : b.name = nm
  · rw [List.find?_cons_of_pos (by simpa using h), if_pos h]; rfl
  · rw [List.find?_cons_of_neg (by simpa using h), if_neg h]
theorem eev_eq (env : List GBind) (e : GExpr) : eev env e =
    if e.op = 1 then ((0 : Int), e.value)
    else if e.op = 2 then (match look env e.name with | some x => (0, x) | none => (6, v0))
    else if e.op = 12 then eevIf env e.args
    else if (eevL env e.args).1 = 0 then eapply e.op (eevL env e.args).2 else ((eevL env e.args).1, v0) := by cases e; rw [eev]
theorem eevAt_get (env : List GBind) : ∀ (l : List GExpr) (k : Nat) (h : k < l.length), eevAt env l k = eev env l[k]
  | x :: l, 0, h => by rw [eevAt]; rfl
  | x :: l, k + 1, h => by rw [eevAt, eevAt_get env l k (by simpa using h)]; rfl
theorem efine_args {e : GExpr} (h : efine e = true) : ∀ x ∈ e.args, efine x = true := by
  rw [efine_eq] at h
  simp only [Bool.and_eq_true, efineL_all, List.all_eq_true] at h
  exact h.2.2
theorem efine_arity {e : GExpr} (h : efine e = true) : earity e.op e.args.length = true := by
  rw [efine_eq] at h
  simp only [Bool.and_eq_true] at h
  exact h.1
theorem efine_own {e : GExpr} (h : efine e = true) : eown e.op e.value e.name = true := by
  rw [efine_eq] at h
  simp only [Bool.and_eq_true] at h
  exact h.2.1
theorem epartsL_len (l : List GExpr) : l.length ≤ epartsL l := by
  induction l with
  | nil => simp
  | cons x l ih => have := eparts_eq x; simp [epartsL]; omega
theorem epartsL_mem {l : List GExpr} {x : GExpr} (h : x ∈ l) : eparts x ≤ epartsL l := by
  induction l with
  | nil => cases h
  | cons y l ih =>
    rcases List.mem_cons.1 h with rfl | h
    · simp [epartsL]
    · have := ih h; simp [epartsL]; omega
theorem arity_cases {op : Int} {k : Nat} (h : earity op k = true) : ((op = 1 ∨ op = 2) ∧ k = 0) ∨ (ecount op = 2 ∧ k = 2) ∨ (ecount op = 1 ∧ k = 1) ∨ (op = 12 ∧ k = 3) ∨ op = 18 := by
  unfold earity at h
  simp only [Bool.and_eq_true, bne_iff_ne, ne_eq, Bool.or_eq_true, decide_eq_true_eq, beq_iff_eq] at h
  unfold ecount at h ⊢
  by_cases h1 : op = 1 ∨ op = 2
  · rw [if_pos h1] at h; exact .inl ⟨h1, by omega⟩
  rw [if_neg h1] at h ⊢
  by_cases h2 : (3 ≤ op ∧ op ≤ 10) ∨ op = 13 ∨ op = 14 ∨ op = 17
  · rw [if_pos h2] at h ⊢; exact .inr (.inl ⟨rfl, by omega⟩)
  rw [if_neg h2] at h ⊢
  by_cases h3 : op = 11 ∨ op = 15 ∨ op = 16
  · rw [if_pos h3] at h ⊢; exact .inr (.inr (.inl ⟨rfl, by omega⟩))
  rw [if_neg h3] at h ⊢
  by_cases h4 : op = 12
  · rw [if_pos h4] at h; exact .inr (.inr (.inr (.inl ⟨h4, by omega⟩)))
  rw [if_neg h4] at h
  by_cases h5 : op = 18
  · exact .inr (.inr (.inr (.inr h5)))
  · rw [if_neg h5] at h; omega
/-- binds whose values are valid -/
def EnvOk (env : List GBind) : Prop := (∀ b ∈ env, vcheck b.value = 0) ∧ env.length ≤ 1048576
theorem look_ok {env : List GBind} (h : EnvOk env) {nm : List UInt8} {v : GValue} (hv : look env nm = some v) : vcheck v = 0 := by
  unfold look at hv
  rw [Option.map_eq_some_iff] at hv
  obtain ⟨b, hb, rfl⟩ := hv
  exact h.1 b (List.mem_of_find?_eq_some hb)
theorem eevL_len (env : List GBind) : ∀ l : List GExpr, (eevL env l).1 = 0 → (eevL env l).2.length = l.length
  | [], _ => by rw [eevL]; rfl
  | x :: l, h => by
    rw [eevL] at h ⊢
    split at h
    · rename_i hz; exact (hz h).elim
    · rename_i hz; rw [if_neg hz]; simp [eevL_len env l h]
theorem eev_ok {env : List GBind} (henv : EnvOk env) : ∀ e : GExpr, efine e = true → (eev env e).1 = 0 → vcheck (eev env e).2 = 0 := eind fun e ih hf hz => by
  have hfa := efine_args hf
  have hL : ∀ l : List GExpr, (∀ x ∈ l, x ∈ e.args) → (eevL env l).1 = 0 → ∀ v ∈ (eevL env l).2, vcheck v = 0 := fun l => by
    induction l with
    | nil => intro _ _ v hv; rw [eevL] at hv; cases hv
    | cons x l ihl =>
      intro hm h v hv
      rw [eevL] at h hv
      split at h
      · rename_i hz; exact (hz h).elim
      · rename_i hx
        rw [if_neg hx] at hv
        have hx : (eev env x).1 = 0 := by simpa using hx
        rcases List.mem_cons.1 hv with rfl | hv
        · exact ih x (hm x List.mem_cons_self) (hfa x (hm x List.mem_cons_self)) hx
        · exact ihl (fun y hy => hm y (List.mem_cons_of_mem _ hy)) h v hv
  rw [eev_eq] at hz ⊢
  by_cases h1 : e.op = 1
  · rw [if_pos h1]
    have := efine_own hf
    unfold eown at this
    rw [if_pos h1] at this
    simp only [Bool.and_eq_true, beq_iff_eq] at this
    exact this.1
  rw [if_neg h1] at hz ⊢
  by_cases h2 : e.op = 2
  · rw [if_pos h2] at hz ⊢
    cases hl : look env e.name with
    | none => rw [hl] at hz; cases hz
    | some x => exact look_ok henv hl
  rw [if_neg h2] at hz ⊢
  have har := arity_cases (efine_arity hf)
  by_cases h12 : e.op = 12
  · rw [if_pos h12] at hz ⊢
    have hlen : e.args.length = 3 := by
      rcases har with ⟨h, _⟩ | ⟨h, _⟩ | ⟨h, _⟩ | ⟨_, h⟩ | h
      · omega
      · rw [h12] at h; cases h
      · rw [h12] at h; cases h
      · exact h
      · omega
    match hargs : e.args, hlen with
    | [c, a, b], _ =>
      rw [hargs, eevIf] at hz
      rw [eevIf]
      split at hz
      · rename_i h; exact (h hz).elim
      rename_i hc
      rw [if_neg hc]
      split at hz
      · cases hz
      rename_i hk
      rw [if_neg hk]
      split at hz
      · rename_i ht
        rw [if_pos ht]
        rw [eevAt] at hz ⊢
        have ha : a ∈ e.args := by rw [hargs]; simp
        exact ih a ha (hfa a ha) hz
      · rename_i ht
        rw [if_neg ht]
        rw [eevAt, eevAt] at hz ⊢
        have hb : b ∈ e.args := by rw [hargs]; simp
        exact ih b hb (hfa b hb) hz
  rw [if_neg h12] at hz ⊢
  split at hz
  · rename_i hl
    rw [if_pos hl]
    have hlen := eevL_len env e.args hl
    refine eapply_ok (hL e.args (fun _ h => h) hl) ?_ hz
    rcases har with ⟨h, _⟩ | ⟨h, h'⟩ | ⟨h, h'⟩ | ⟨h, _⟩ | h
    · omega
    · exact .inl ⟨by rw [h, hlen, h']; rfl, .inr (by omega)⟩
    · exact .inl ⟨by rw [h, hlen, h']; rfl, .inl (by omega)⟩
    · omega
    · exact .inr h
  · rename_i hl; exact (hl hz).elim
theorem idx_bind {env : List GBind} (hb : env.length ≤ 1048576) {a3 a4 a5 a6 : Int} {a7 : Bool} {a8 : List UInt8} {a9 : List GValue} {nm : List UInt8} {a11 : List GExpr} :
    ∃ i : Int, Ev (fun n => go_slices_IndexFunc_api_Bind_api_Bind n env a3 a4 a5 a6 a7 a8 a9 nm a11) (i, a3, a4, a5, a6, a7, a8, a9, nm, a11) ∧ ((i < 0 ∧ look env nm = none) ∨ ∃ j : Nat, ∃ hj : j < env.length, i = j ∧ look env nm = some env[j].value) := by
  have loop : ∀ k, k ≤ env.length → ∃ i : Int, Ev (fun n => go_slices_IndexFunc_api_Bind_api_Bind_L0 n (k : Int) env (env.length : Int) a3 a4 a5 a6 a7 a8 a9 nm a11) (i, a3, a4, a5, a6, a7, a8, a9, nm, a11) ∧ ((i < 0 ∧ look (env.drop k) nm = none) ∨ ∃ j : Nat, ∃ hj : j < env.length, i = j ∧ look (env.drop k) nm = some env[j].value) :=
    down ⟨-1, by rw [ev_slices_IndexFunc_api_Bind_api_Bind_L0, Ev.pif_f (by simp), Ev.some_iff], .inl ⟨by decide, by simp [look]⟩⟩ fun k hk ih => by
      obtain ⟨i, h1, h2⟩ := ih
      have h1' : Ev (fun n => go_expr_eval_1 n env[k] a3 a4 a5 a6 a7 a8 a9 nm a11) ((env[k].name == nm), a3, a4, a5, a6, a7, a8, a9, nm, a11) := by rw [ev_expr_eval_1, Ev.some_iff]
      by_cases he : env[k].name = nm
      · refine ⟨k, ?_, .inr ⟨k, hk, rfl, ?_⟩⟩
        · rw [ev_slices_IndexFunc_api_Bind_api_Bind_L0, Ev.pif_t (by simpa using hk), Ev.opt_iff (ix_lt hk), GBind.re_eq, Ev.bind_iff h1', Ev.pif_t (by simpa using he), Ev.some_iff]
        · rw [← List.getElem_cons_drop (h := hk), look_cons, if_pos he]
      · refine ⟨i, ?_, ?_⟩
        · rw [ev_slices_IndexFunc_api_Bind_api_Bind_L0, Ev.pif_t (by simpa using hk), Ev.opt_iff (ix_lt hk), GBind.re_eq, Ev.bind_iff h1', Ev.pif_f (by simpa using he), wrk (by omega)]; exact h1
        · have : look (env.drop k) nm = look (env.drop (k + 1)) nm := by rw [← List.getElem_cons_drop (h := hk), look_cons, if_neg he]
          rw [this]; exact h2
  obtain ⟨i, h1, h2⟩ := loop 0 (Nat.zero_le _)
  exact ⟨i, by rw [ev_slices_IndexFunc_api_Bind_api_Bind]; exact h1, h2⟩
theorem expr_eval {env : List GBind} (henv : EnvOk env) : ∀ e : GExpr, efine e = true → eparts e ≤ 100 → Ev (fun n => go_expr_eval n e env) (toRes (eev env e)) := eind fun e ih hf hp => by
  have hfa := efine_args hf
  have hok := fun x (hx : x ∈ e.args) => eev_ok henv x (hfa x hx)
  rw [eparts_eq] at hp
  have hpl := epartsL_len e.args
  have ihx : ∀ x ∈ e.args, Ev (fun n => go_expr_eval n x env) (toRes (eev env x)) := fun x hx => ih x hx (hfa x hx) (by have := epartsL_mem hx; omega)
  have har := arity_cases (efine_arity hf)
  rw [ev_expr_eval, eev_eq]
  by_cases h1 : e.op = 1
  · rw [Ev.pif_t (by simpa using h1), if_pos h1, Ev.some_iff, GValue.re_eq]; rfl
  rw [Ev.pif_f (by simpa using h1), if_neg h1]
  by_cases h2 : e.op = 2
  · rw [Ev.pif_t (by simpa using h2), if_pos h2]
    obtain ⟨i, hi1, hi2⟩ := idx_bind henv.2 (nm := e.name) (a3 := e.op) (a4 := e.value.kind) (a5 := e.value.num.num) (a6 := e.value.num.den) (a7 := e.value.truth) (a8 := e.value.str) (a9 := e.value.list) (a11 := e.args)
    rw [Ev.bind_iff hi1]
    rcases hi2 with ⟨hneg, hl⟩ | ⟨j, hj, rfl, hl⟩
    · rw [Ev.pif_t (by simpa using hneg), Ev.bind_iff (must_pan (by decide)), Ev.res_pan, Ev.some_iff, hl]; rfl
    · rw [Ev.pif_f (by simp), ev_expr_eval_L0, Ev.opt_iff (ix_lt hj), Ev.some_iff, GValue.re_eq, hl]; rfl
  rw [Ev.pif_f (by simpa using h2), if_neg h2]
  by_cases h12 : e.op = 12
  · rw [Ev.pif_t (by simpa using h12), if_pos h12]
    have hlen : e.args.length = 3 := by
      rcases har with ⟨h, _⟩ | ⟨h, _⟩ | ⟨h, _⟩ | ⟨_, h⟩ | h
      · omega
      · rw [h12] at h; cases h
      · rw [h12] at h; cases h
      · exact h
      · omega
    match hargs : e.args, hlen with
    | [c, a, b], _ =>
      have hc := ihx c (by rw [hargs]; simp)
      have ha := ihx a (by rw [hargs]; simp)
      have hb := ihx b (by rw [hargs]; simp)
      rw [Ev.opt_iff (show ix [c, a, b] 0 = some c from rfl), GExpr.re_eq, Ev.bind_iff hc, eevIf]
      by_cases hz : (eev env c).1 = 0
      case neg => rw [toRes_pan hz, Ev.res_pan, Ev.some_iff, if_pos hz, toRes_pan (by exact hz)]
      rw [toRes_ok hz, Ev.res_ok, GValue.re_eq, if_neg (by simpa using hz)]
      have hk := expr_kind (k := 2) (l := [(eev env c).2]) (by simp)
      by_cases hk2 : (eev env c).2.kind = 2
      case neg =>
        rw [if_neg (by simpa using hk2)] at hk
        rw [Ev.bind_iff hk, Ev.res_pan, Ev.some_iff, if_pos hk2]; rfl
      rw [if_pos (by simpa using hk2)] at hk
      rw [Ev.bind_iff hk, Ev.res_ok, if_neg (by simpa using hk2)]
      have fin : ∀ x : GExpr, Ev (fun n => go_expr_eval n x env) (toRes (eev env x)) → Ev (fun n => (go_expr_eval n x env).bind fun y10 => pRes y10 (fun r11 => some (Res.ok r11.re)) (fun e12 => some (Res.pan (e12.1, ())))) (toRes (eev env x)) := fun x hx => by
        rw [Ev.bind_iff hx]
        by_cases hz : (eev env x).1 = 0
        · rw [toRes_ok hz, Ev.res_ok, Ev.some_iff, GValue.re_eq]
        · rw [toRes_pan hz, Ev.res_pan, Ev.some_iff]
      cases ht : (eev env c).2.truth
      · rw [Ev.pif_f (by rfl), Ev.opt_iff (show ix [c, a, b] 2 = some b from rfl), GExpr.re_eq, if_neg (by simp), eevAt, eevAt]
        exact fin b hb
      · rw [Ev.pif_t (by rfl), Ev.opt_iff (show ix [c, a, b] 1 = some a from rfl), GExpr.re_eq, if_pos rfl, eevAt]
        exact fin a ha
  rw [Ev.pif_f (by simpa using h12), if_neg h12]
  have loop : ∀ k, k ≤ e.args.length → ∀ acc : List GValue, acc.length = k → (∀ v ∈ acc, vcheck v = 0) → ∀ a5 a6 a7 a8 a9 a11, Ev (fun n => go_expr_eval_L1 n (k : Int) env e.args (e.args.length : Int) acc a5 a6 a7 a8 a9 e a11) (toRes (if (eevL env (e.args.drop k)).1 = 0 then eapply e.op (acc ++ (eevL env (e.args.drop k)).2) else ((eevL env (e.args.drop k)).1, v0))) :=
    down (fun acc hacc hval a5 a6 a7 a8 a9 a11 => by
      have happ : Ev (fun n => go_expr_apply n e.op acc) (toRes (eapply e.op acc)) := by
        rcases har with ⟨h, _⟩ | ⟨h, h'⟩ | ⟨h, h'⟩ | ⟨h, _⟩ | h
        · omega
        · match acc, (show acc.length = 2 by omega) with
          | [x, y], _ => exact expr_apply2 h (hval x (by simp)) (hval y (by simp))
        · match acc, (show acc.length = 1 by omega) with
          | [x], _ => exact expr_apply1 h (hval x (by simp))
        · omega
        · rw [h]; exact expr_applyL (by omega) hval
      rw [ev_expr_eval_L1, Ev.pif_f (by simp), Ev.bind_iff happ, List.drop_length, eevL]
      simp only [if_true, List.append_nil]
      by_cases hz : (eapply e.op acc).1 = 0
      · rw [toRes_ok hz, Ev.res_ok, Ev.some_iff, GValue.re_eq]
      · rw [toRes_pan hz, Ev.res_pan, Ev.some_iff]) fun k hk ihk acc hacc hval a5 a6 a7 a8 a9 a11 => by
      have hx := List.getElem_mem hk
      rw [← List.getElem_cons_drop (h := hk), eevL]
      rw [ev_expr_eval_L1, Ev.pif_t (by simpa using hk), Ev.opt_iff (ix_lt hk), GExpr.re_eq, Ev.bind_iff (ihx _ hx)]
      by_cases hz : (eev env e.args[k]).1 = 0
      · rw [toRes_ok hz, Ev.res_ok, GValue.re_eq, Ev.opt_iff (ext_ok (by simp; omega)), wrk (by omega), GExpr.re_eq, if_neg (c := (eev env e.args[k]).1 ≠ 0) (by simpa using hz)]
        have := ihk (acc ++ [(eev env e.args[k]).2]) (by simp [hacc]) (fun v hv => by
          rcases List.mem_append.1 hv with hv | hv
          · exact hval v hv
          · rw [List.mem_singleton.1 hv]; exact hok _ hx hz) a5 a6 a7 a8 a9 a11
        refine this.to ?_
        simp only [List.append_assoc, List.singleton_append]
      · rw [toRes_pan hz, Ev.res_pan, Ev.some_iff, if_pos (c := (eev env e.args[k]).1 ≠ 0) hz]
        simp only
        rw [if_neg hz, toRes_pan (by exact hz)]
  have := loop 0 (Nat.zero_le _) [] rfl (by simp) 0 0 0 false [] []
  rw [GExpr.re_eq]
  simpa using this
theorem ref04_found {env : List GBind} (hb : env.length ≤ 1048576) {nm : List UInt8} : Ev (fun n => go_ref04_found n env nm) (match look env nm with | some x => (0, x) | none => (6, v0)) := by
  have loop : ∀ k, k ≤ env.length → ∀ z, Ev (fun n => go_ref04_found_L0 n (k : Int) env nm z) (match look (env.drop k) nm with | some x => (0, x) | none => (6, v0)) :=
    down (fun z => by rw [ev_ref04_found_L0, Ev.pif_f (by simp), Ev.some_iff]; simp [look, v0]) fun k hk ih z => by
      rw [← List.getElem_cons_drop (h := hk)]
      rw [ev_ref04_found_L0, Ev.pif_t (by simpa using hk), Ev.opt_iff (ix_lt hk)]
      by_cases he : env[k].name = nm
      · rw [Ev.pif_t (by simpa using he), Ev.opt_iff (ix_lt hk), Ev.some_iff, GValue.re_eq, look_cons, if_pos he]
      · rw [Ev.pif_f (by simpa using he), wrk (by omega)]
        refine (ih _).to ?_
        rw [look_cons, if_neg he]
  rw [ev_ref04_found]
  exact loop 0 (Nat.zero_le _) _
theorem ref04_Worth {env : List GBind} (henv : EnvOk env) : ∀ e : GExpr, efine e = true → eparts e ≤ 100 → Ev (fun n => go_ref04_Worth n e env) (eev env e) := eind fun e ih hf hp => by
  have hfa := efine_args hf
  have hok := fun x (hx : x ∈ e.args) => eev_ok henv x (hfa x hx)
  rw [eparts_eq] at hp
  have hpl := epartsL_len e.args
  have ihx : ∀ x ∈ e.args, Ev (fun n => go_ref04_Worth n x env) (eev env x) := fun x hx => ih x hx (hfa x hx) (by have := epartsL_mem hx; omega)
  have har := arity_cases (efine_arity hf)
  rw [ev_ref04_Worth, eev_eq]
  by_cases h1 : e.op = 1
  · rw [Ev.pif_t (by simpa using h1), if_pos h1, Ev.some_iff, GValue.re_eq]
  rw [Ev.pif_f (by simpa using h1), if_neg h1]
  by_cases h2 : e.op = 2
  · rw [Ev.pif_t (by simpa using h2), if_pos h2, Ev.bind_iff (ref04_found henv.2), Ev.some_iff, GValue.re_eq]
  rw [Ev.pif_f (by simpa using h2), if_neg h2]
  by_cases h12 : e.op = 12
  · rw [Ev.pif_t (by simpa using h12), if_pos h12]
    have hlen : e.args.length = 3 := by
      rcases har with ⟨h, _⟩ | ⟨h, _⟩ | ⟨h, _⟩ | ⟨_, h⟩ | h
      · omega
      · rw [h12] at h; cases h
      · rw [h12] at h; cases h
      · exact h
      · omega
    match hargs : e.args, hlen with
    | [c, a, b], _ =>
      have hc := ihx c (by rw [hargs]; simp)
      have ha := ihx a (by rw [hargs]; simp)
      have hb := ihx b (by rw [hargs]; simp)
      rw [Ev.opt_iff (show ix [c, a, b] 0 = some c from rfl), GExpr.re_eq, Ev.bind_iff hc, eevIf]
      by_cases hz : (eev env c).1 = 0
      case neg => rw [Ev.pif_t (by simpa using hz), Ev.some_iff, if_pos hz]; rfl
      rw [Ev.pif_f (by simpa using hz), if_neg (by simpa using hz)]
      by_cases hk2 : (eev env c).2.kind = 2
      case neg => rw [Ev.pif_t (by simpa using hk2), Ev.some_iff, if_pos hk2]; rfl
      rw [Ev.pif_f (by simpa using hk2), if_neg (by simpa using hk2)]
      cases ht : (eev env c).2.truth
      · rw [Ev.pif_f (by rfl), Ev.opt_iff (show ix [c, a, b] 2 = some b from rfl), GExpr.re_eq, if_neg (by simp), eevAt, eevAt, Ev.bind_iff hb, Ev.some_iff, GValue.re_eq]
      · rw [Ev.pif_t (by rfl), Ev.opt_iff (show ix [c, a, b] 1 = some a from rfl), GExpr.re_eq, if_pos rfl, eevAt, Ev.bind_iff ha, Ev.some_iff, GValue.re_eq]
  rw [Ev.pif_f (by simpa using h12), if_neg h12]
  have loop : ∀ k, k ≤ e.args.length → ∀ acc : List GValue, acc.length = k → (∀ v ∈ acc, vcheck v = 0) → ∀ a2 a3 a4 a5 a6 a9, Ev (fun n => go_ref04_Worth_L0 n (k : Int) env a2 a3 a4 a5 a6 acc e a9) (if (eevL env (e.args.drop k)).1 = 0 then eapply e.op (acc ++ (eevL env (e.args.drop k)).2) else ((eevL env (e.args.drop k)).1, v0)) :=
    down (fun acc hacc hval a2 a3 a4 a5 a6 a9 => by
      rw [ev_ref04_Worth_L0, Ev.pif_f (by simp), List.drop_length, eevL]
      simp only [if_true, List.append_nil]
      rcases har with ⟨h, _⟩ | ⟨h, h'⟩ | ⟨h, h'⟩ | ⟨h, _⟩ | h
      · omega
      · have h18 : e.op ≠ 18 := fun h18 => by rw [h18] at h; cases h
        rw [Ev.pif_f (by simpa using h18)]
        match acc, (show acc.length = 2 by omega) with
        | [x, y], _ =>
          rw [Ev.pif_f (by rfl), Ev.opt_iff (show ix [x, y] 0 = some x from rfl), Ev.opt_iff (show ix [x, y] 1 = some y from rfl), GValue.re_eq, GValue.re_eq, Ev.bind_iff (ref04_two h (hval x (by simp)) (hval y (by simp))), Ev.some_iff, GValue.re_eq]
      · have h18 : e.op ≠ 18 := fun h18 => by rw [h18] at h; cases h
        rw [Ev.pif_f (by simpa using h18)]
        match acc, (show acc.length = 1 by omega) with
        | [x], _ =>
          rw [Ev.pif_t (by rfl), Ev.opt_iff (show ix [x] 0 = some x from rfl), GValue.re_eq, Ev.bind_iff (ref04_one h (hval x (by simp))), Ev.some_iff, GValue.re_eq]
      · omega
      · obtain ⟨w, s⟩ := vlist_ok hval (by omega)
        have hc : Ev (fun n => go_ref03_Check n (GValue.mk 4 (GRatio.mk 0 0) false [] acc)) (vcheck (vlist acc)) := ref03_Check s
        have ee : eapply e.op acc = if vcheck (vlist acc) ≠ 0 then (vcheck (vlist acc), v0) else (0, vlist acc) := by rw [h]; unfold eapply; simp
        rw [Ev.pif_t (by simpa using h), Ev.bind_iff hc, ee]
        by_cases hz : vcheck (vlist acc) = 0
        · rw [Ev.pif_f (by simpa using hz), Ev.some_iff, if_neg (by simpa using hz)]; rfl
        · rw [Ev.pif_t (by simpa using hz), Ev.bind_iff hc, Ev.some_iff, if_pos hz]; rfl) fun k hk ihk acc hacc hval a2 a3 a4 a5 a6 a9 => by
      have hx := List.getElem_mem hk
      rw [← List.getElem_cons_drop (h := hk), eevL]
      rw [ev_ref04_Worth_L0, Ev.pif_t (by simpa using hk), Ev.opt_iff (ix_lt hk), GExpr.re_eq, Ev.bind_iff (ihx _ hx)]
      by_cases hz : (eev env e.args[k]).1 = 0
      · rw [Ev.pif_f (by simpa using hz), GValue.re_eq, Ev.opt_iff (ext_ok (by simp; omega)), wrk (by omega), GExpr.re_eq, if_neg (c := (eev env e.args[k]).1 ≠ 0) (by simpa using hz)]
        have := ihk (acc ++ [(eev env e.args[k]).2]) (by simp [hacc]) (fun v hv => by
          rcases List.mem_append.1 hv with hv | hv
          · exact hval v hv
          · rw [List.mem_singleton.1 hv]; exact hok _ hx hz) a2 a3 a4 a5 a6 a9
        refine this.to ?_
        simp only [List.append_assoc, List.singleton_append]
      · rw [Ev.pif_t (by simpa using hz), Ev.some_iff, if_pos (c := (eev env e.args[k]).1 ≠ 0) hz]
        simp only
        rw [if_neg hz]; rfl
  have := loop 0 (Nat.zero_le _) [] rfl (by simp) 0 0 0 false [] []
  rw [GExpr.re_eq]
  simpa using this
/-! ### Eval -/
def bok (b : GBind) : Bool := nameOk b.name && (vcheck b.value == 0)
def ebinds (env : List GBind) : Int := if 40 < env.length then 4 else if env.all bok then 0 else 8
noncomputable def eEval (e : GExpr) (env : List GBind) : Int × GValue := if echeck e ≠ 0 then (echeck e, v0) else if ebinds env ≠ 0 then (ebinds env, v0) else eev env e
theorem bsize_mem {l : List GBind} {x : GBind} (h : x ∈ l) : x.size ≤ (l.map GBind.size).sum := by
  induction l with
  | nil => cases h
  | cons y l ih =>
    rcases List.mem_cons.1 h with rfl | h
    · simp
    · have := ih h; simp; omega
theorem blen_size (l : List GBind) : l.length ≤ (l.map GBind.size).sum := by
  induction l with
  | nil => simp
  | cons x l ih => have := GBind.size_eq x; simp; omega
theorem env_ok {env : List GBind} (h : ebinds env = 0) : EnvOk env := by
  unfold ebinds at h
  split at h
  · cases h
  · split at h
    · rename_i h1 h2
      rw [List.all_eq_true] at h2
      refine ⟨fun b hb => ?_, by omega⟩
      have := h2 b hb
      simp only [bok, Bool.and_eq_true, beq_iff_eq] at this
      exact this.2
    · cases h
theorem expr_worth {e : GExpr} {env : List GBind} (henv : EnvOk env) (hf : efine e = true) (hp : eparts e ≤ 100) : Ev (fun n => go_expr_worth n e env) ((eev env e).2, (eev env e).1) ∨ ((eev env e).1 ≠ 0 ∧ Ev (fun n => go_expr_worth n e env) (v0, (eev env e).1)) := by
  by_cases hz : (eev env e).1 = 0
  · left
    have hs := (vok (eev_ok henv e hf hz)).2
    rw [ev_expr_worth, GExpr.re_eq, Ev.bind_iff (expr_eval henv e hf hp), toRes_ok hz, Ev.res_ok, GValue.re_eq, Ev.bind_iff (value_Twin (by omega)), GValue.re_eq]
    simp only [go_expr_caught, Option.bind_some]
    rw [Ev.some_iff, hz]
  · right
    refine ⟨hz, ?_⟩
    rw [ev_expr_worth, GExpr.re_eq, Ev.bind_iff (expr_eval henv e hf hp), toRes_pan hz, Ev.res_pan]
    simp only [go_expr_caught_s2, pIf, Bool.not_false, Option.bind_some]
    rw [Ev.some_iff]; rfl
/-- an error comes without a value -/
theorem eapply_err {op : Int} {l : List GValue} (h : (eapply op l).1 ≠ 0) : (eapply op l).2 = v0 := by
  have hadd : ∀ a b, (vadd a b).1 ≠ 0 → (vadd a b).2 = v0 := fun a b h => by
    unfold vadd at h ⊢
    repeat' split
    all_goals first
      | rfl
      | (exfalso; simp_all; done)
  have hat : ∀ v i, (vat v i).1 ≠ 0 → (vat v i).2 = v0 := fun v i h => by
    unfold vat at h ⊢
    repeat' split
    all_goals first
      | rfl
      | (exfalso; simp_all; done)
  have hnum : ∀ r, (onum r).1 ≠ 0 → (onum r).2 = v0 := fun r h => by
    unfold onum at h ⊢
    split
    · rename_i hz; rw [if_pos hz] at h; exact (h rfl).elim
    · rfl
  have num : ∀ {f : GRatio → GRatio → Int × Int} {c : Bool} {a b : GRatio}, (if c = true then onum (rbin f a b) else (20, v0)).1 ≠ 0 → (if c = true then onum (rbin f a b) else (20, v0)).2 = v0 := fun {f c a b} h => by
    cases c
    · rfl
    · rw [if_pos rfl] at h ⊢; exact hnum _ h
  have tr : ∀ {c : Bool} {v : GValue}, (if c = true then ((0 : Int), v) else (20, v0)).1 ≠ 0 → (if c = true then ((0 : Int), v) else (20, v0)).2 = v0 := fun {c v} h => by
    cases c
    · rfl
    · exact (h rfl).elim
  unfold eapply at h ⊢
  by_cases h3 : op = 3
  · rw [if_pos h3] at h ⊢; exact hadd _ _ h
  rw [if_neg h3] at h ⊢
  by_cases h4 : op = 4
  · rw [if_pos h4] at h ⊢; exact num h
  rw [if_neg h4] at h ⊢
  by_cases h5 : op = 5
  · rw [if_pos h5] at h ⊢; exact num h
  rw [if_neg h5] at h ⊢
  by_cases h6 : op = 6
  · rw [if_pos h6] at h ⊢; exact num h
  rw [if_neg h6] at h ⊢
  by_cases h8 : op = 8
  · rw [if_pos h8] at h; exact (h rfl).elim
  rw [if_neg h8] at h ⊢
  by_cases h7 : op = 7 ∨ op = 13 ∨ op = 14
  · rw [if_pos h7] at h ⊢
    split at h
    · rename_i hz; rw [if_pos hz]
    · split at h
      · exact (h rfl).elim
      · split at h <;> exact (h rfl).elim
  rw [if_neg h7] at h ⊢
  by_cases h9 : op = 9
  · rw [if_pos h9] at h ⊢; exact tr h
  rw [if_neg h9] at h ⊢
  by_cases h10 : op = 10
  · rw [if_pos h10] at h ⊢; exact tr h
  rw [if_neg h10] at h ⊢
  by_cases h11 : op = 11
  · rw [if_pos h11] at h ⊢; exact tr h
  rw [if_neg h11] at h ⊢
  by_cases h15 : op = 15
  · rw [if_pos h15] at h ⊢; exact tr h
  rw [if_neg h15] at h ⊢
  by_cases h16 : op = 16
  · rw [if_pos h16] at h ⊢
    split at h
    · rename_i hz; rw [if_pos hz]
    · exact (h rfl).elim
  rw [if_neg h16] at h ⊢
  by_cases h17 : op = 17
  · rw [if_pos h17] at h ⊢
    split at h
    · rename_i hz; rw [if_pos hz]
    rename_i hz
    rw [if_neg hz]
    split at h
    · rename_i hk; rw [if_pos hk]
    rename_i hk
    rw [if_neg hk]
    split at h
    · rename_i hd; rw [if_pos hd]
    rename_i hd
    rw [if_neg hd]
    exact hat _ _ h
  rw [if_neg h17] at h ⊢
  split at h
  · rename_i hz; rw [if_pos hz]
  · exact (h rfl).elim
theorem eev_err {env : List GBind} : ∀ e : GExpr, (eev env e).1 ≠ 0 → (eev env e).2 = v0 := eind fun e ih h => by
  rw [eev_eq] at h ⊢
  split at h
  · exact (h rfl).elim
  rename_i h1
  rw [if_neg h1]
  split at h
  · rename_i h2
    rw [if_pos h2]
    cases hl : look env e.name with
    | none => rfl
    | some x => rw [hl] at h; exact (h rfl).elim
  rename_i h2
  rw [if_neg h2]
  split at h
  · rename_i h12
    rw [if_pos h12]
    cases hargs : e.args with
    | nil => rw [eevIf]
    | cons c l =>
      rw [hargs, eevIf] at h
      rw [eevIf]
      have hat : ∀ k, (eevAt env l k).1 ≠ 0 → (eevAt env l k).2 = v0 := fun k hk => by
        by_cases hlt : k < l.length
        · rw [eevAt_get env l k hlt] at hk ⊢
          exact ih _ (by rw [hargs]; exact List.mem_cons_of_mem _ (List.getElem_mem hlt)) hk
        · have : ∀ (l : List GExpr) (k : Nat), ¬ k < l.length → eevAt env l k = (0, v0) := fun l => by
            induction l with
            | nil => intro k _; rw [eevAt]
            | cons x l ihl =>
              intro k hk
              cases k with
              | zero => simp at hk
              | succ k => rw [eevAt]; exact ihl k (by simpa using hk)
          rw [this l k hlt]
      split at h
      · rename_i hc; rw [if_pos hc]
      rename_i hc
      rw [if_neg hc]
      split at h
      · rename_i hk; rw [if_pos hk]
      rename_i hk
      rw [if_neg hk]
      split at h
      · rename_i ht; rw [if_pos ht]; exact hat _ h
      · rename_i ht; rw [if_neg ht]; exact hat _ h
  rename_i h12
  rw [if_neg h12]
  split at h
  · rename_i hl; rw [if_pos hl]; exact eapply_err h
  · rename_i hl; rw [if_neg hl]
theorem expr_worth' {e : GExpr} {env : List GBind} (henv : EnvOk env) (hf : efine e = true) (hp : eparts e ≤ 100) : Ev (fun n => go_expr_worth n e env) ((eev env e).2, (eev env e).1) := by
  rcases expr_worth henv hf hp with h | ⟨h1, h2⟩
  · exact h
  · rw [eev_err e h1]; exact h2
theorem expr_Eval {e : GExpr} {env : List GBind} (hw : e.wf) (hs : e.size ≤ 1048576) (hbw : ∀ b ∈ env, b.value.wf) (hbs : (env.map GBind.size).sum ≤ 1048576) : Ev (fun n => go_expr_Eval n e env) (eEval e env) := by
  have hbl := blen_size env
  rw [ev_expr_Eval, GExpr.re_eq, Ev.bind_iff (expr_Check hw hs)]
  unfold eEval
  by_cases hc : echeck e = 0
  case neg => rw [Ev.pif_t (by simpa using hc), Ev.some_iff, if_pos hc]; rfl
  rw [Ev.pif_f (by simpa using hc), if_neg (by simpa using hc)]
  obtain ⟨hf, hp, _⟩ := echeck_fine hc
  by_cases h40 : 40 < env.length
  · have : ebinds env = 4 := by unfold ebinds; rw [if_pos h40]
    rw [Ev.pif_t (by simp; omega), Ev.some_iff, this]; rfl
  rw [Ev.pif_f (by simp; omega)]
  have hbe : ebinds env = if env.all bok then 0 else 8 := by unfold ebinds; rw [if_neg h40]
  have bad : ∀ k z, Ev (fun n => go_expr_Eval_L1 n env env (env.length : Int) k true z e) (8, v0) := fun k z => by rw [ev_expr_Eval_L1, Ev.pif_t (by rfl), Ev.some_iff]; rfl
  have loop : ∀ k, k ≤ env.length → (∀ j (hj : j < env.length), j < k → bok env[j] = true) → ∀ z, Ev (fun n => go_expr_Eval_L0 n (k : Int) env env (env.length : Int) z e) (if ebinds env ≠ 0 then (ebinds env, v0) else eev env e) :=
    down (fun hall z => by
      have h0 : ebinds env = 0 := by
        rw [hbe, if_pos]
        rw [List.all_eq_true]
        intro b hb
        obtain ⟨j, hj, rfl⟩ := List.mem_iff_getElem.1 hb
        exact hall j hj hj
      rw [ev_expr_Eval_L0, Ev.pif_f (by simp), GExpr.re_eq, Ev.bind_iff (expr_worth' (env_ok h0) hf hp), Ev.some_iff, GValue.re_eq, h0]
      rfl) fun k hk ih hall z => by
      have hm := List.getElem_mem hk
      have hsz := bsize_mem hm
      have hsb := GBind.size_eq env[k]
      have hno : bok env[k] = false → ebinds env = 8 := fun hb => by
        rw [hbe, if_neg]
        rw [List.all_eq_true]
        intro h
        rw [h _ hm] at hb; cases hb
      rw [ev_expr_Eval_L0, Ev.pif_t (by simpa using hk), Ev.opt_iff (ix_lt hk), Ev.bind_iff (label_Name (by omega)), GValue.re_eq, GExpr.re_eq]
      cases hn : nameOk env[k].name
      · rw [Ev.pif_t (by rfl)]
        refine (bad _ _).to ?_
        rw [hno (by simp [bok, hn])]; rfl
      · rw [Ev.pif_f (by rfl), GValue.re_eq, Ev.bind_iff (value_Check (hbw _ hm) (by omega))]
        by_cases hv : vcheck env[k].value = 0
        · rw [show (vcheck env[k].value != 0) = false by simpa using hv, ev_expr_Eval_L1, Ev.pif_f (by rfl), wrk (by omega), GValue.re_eq, GExpr.re_eq]
          refine ih (fun j hj hjk => ?_) _
          by_cases hjk' : j < k
          · exact hall j hj hjk'
          · have : j = k := by omega
            subst this; simp [bok, hn, hv]
        · rw [show (vcheck env[k].value != 0) = true by simpa using hv]
          refine (bad _ _).to ?_
          rw [hno (by simp [bok, hn, hv])]; rfl
  have := loop 0 (Nat.zero_le _) (fun j hj h => absurd h (Nat.not_lt_zero _)) (GValue.mk 0 (GRatio.mk 0 0) false [] [])
  exact this
theorem ref04_Binds {env : List GBind} (hbs : (env.map GBind.size).sum ≤ 1048576) : Ev (fun n => go_ref04_Binds n env) (ebinds env) := by
  have hbl := blen_size env
  rw [ev_ref04_Binds]
  by_cases h40 : 40 < env.length
  · have : ebinds env = 4 := by unfold ebinds; rw [if_pos h40]
    rw [Ev.pif_t (by simp; omega), Ev.some_iff, this]
  rw [Ev.pif_f (by simp; omega)]
  have hbe : ebinds env = if env.all bok then 0 else 8 := by unfold ebinds; rw [if_neg h40]
  rw [hbe]
  have bad : ∀ k, Ev (fun n => go_ref04_Binds_L1 n env k true) 8 := fun k => by rw [ev_ref04_Binds_L1, Ev.pif_t (by rfl), Ev.some_iff]
  have loop : ∀ k, k ≤ env.length → Ev (fun n => go_ref04_Binds_L0 n (k : Int) env) (if (env.drop k).all bok then 0 else 8) :=
    down (by rw [ev_ref04_Binds_L0, Ev.pif_f (by simp), Ev.some_iff]; simp) fun k hk ih => by
      have hm := List.getElem_mem hk
      have hsz := bsize_mem hm
      have hsb := GBind.size_eq env[k]
      rw [← List.getElem_cons_drop (h := hk), List.all_cons]
      rw [ev_ref04_Binds_L0, Ev.pif_t (by simpa using hk), Ev.opt_iff (ix_lt hk), Ev.bind_iff (ref02_Name (by omega))]
      cases hn : nameOk env[k].name
      · rw [Ev.pif_t (by rfl)]
        refine (bad _).to ?_
        rw [show bok env[k] = false by simp [bok, hn]]; rfl
      · rw [Ev.pif_f (by rfl), Ev.opt_iff (ix_lt hk), GValue.re_eq, Ev.bind_iff (ref03_Check (by omega))]
        by_cases hv : vcheck env[k].value = 0
        · rw [show (vcheck env[k].value != 0) = false by simpa using hv, ev_ref04_Binds_L1, Ev.pif_f (by rfl), wrk (by omega), show bok env[k] = true by simp [bok, hn, hv], Bool.true_and]
          exact ih
        · rw [show (vcheck env[k].value != 0) = true by simpa using hv]
          refine (bad _).to ?_
          rw [show bok env[k] = false by simp [bok, hn, hv]]; rfl
  exact loop 0 (Nat.zero_le _)
theorem ref04_Eval {e : GExpr} {env : List GBind} (hs : e.size ≤ 1048576) (hbs : (env.map GBind.size).sum ≤ 1048576) : Ev (fun n => go_ref04_Eval n e env) (eEval e env) := by
  rw [ev_ref04_Eval, GExpr.re_eq, Ev.bind_iff (ref04_Check hs)]
  unfold eEval
  by_cases hc : echeck e = 0
  case neg => rw [Ev.pif_t (by simpa using hc), Ev.bind_iff (ref04_Check hs), Ev.some_iff, if_pos hc]; rfl
  rw [Ev.pif_f (by simpa using hc), if_neg (by simpa using hc), Ev.bind_iff (ref04_Binds hbs)]
  obtain ⟨hf, hp, _⟩ := echeck_fine hc
  by_cases hb : ebinds env = 0
  case neg => rw [Ev.pif_t (by simpa using hb), Ev.bind_iff (ref04_Binds hbs), Ev.some_iff, if_pos hb]; rfl
  rw [Ev.pif_f (by simpa using hb), if_neg (by simpa using hb), Ev.bind_iff (ref04_Worth (env_ok hb) e hf hp)]
  have hsz : (eev env e).2.size ≤ 1048576 := by
    by_cases hz : (eev env e).1 = 0
    · have := (vok (eev_ok (env_ok hb) e hf hz)).2; omega
    · rw [eev_err e hz]; rw [GValue.size_eq, GRatio.size_eq]; simp [v0]
  rw [GValue.re_eq, Ev.bind_iff (ref03_Twin _ hsz), Ev.some_iff, GValue.re_eq]
theorem ref04_GreatBinds {env : List GBind} (hbs : (env.map GBind.size).sum ≤ 1048576) : ∃ b, Ev (fun n => go_ref04_GreatBinds n env) b := by
  have hbl := blen_size env
  have fin : ∀ k : Int, ∃ b, Ev (fun n => go_ref04_GreatBinds_L1 n env k false) b := fun k => ⟨_, by rw [ev_ref04_GreatBinds_L1, Ev.pif_f (by rfl)]; exact Ev.some_iff.2 rfl⟩
  have loop : ∀ k, k ≤ env.length → ∃ b, Ev (fun n => go_ref04_GreatBinds_L0 n (k : Int) env) b :=
    down (by
      obtain ⟨b, hb⟩ := fin (env.length : Int)
      exact ⟨b, by rw [ev_ref04_GreatBinds_L0, Ev.pif_f (by simp)]; exact hb⟩) fun k hk ih => by
      have hm := List.getElem_mem hk
      have hsz := bsize_mem hm
      have hsb := GBind.size_eq env[k]
      obtain ⟨c, hc⟩ := ih
      have l2 : ∀ b, ∃ d, Ev (fun n => go_ref04_GreatBinds_L2 n env (k : Int) b) d := fun b => by
        cases b
        · exact ⟨c, by rw [ev_ref04_GreatBinds_L2, Ev.pif_f (by rfl), wrk (by omega)]; exact hc⟩
        · exact ⟨true, by rw [ev_ref04_GreatBinds_L2, Ev.pif_t (by rfl), Ev.some_iff]⟩
      have l1 : ∀ b, ∃ d, Ev (fun n => go_ref04_GreatBinds_L1 n env (k : Int) b) d := fun b => by
        cases b
        · exact fin _
        · obtain ⟨g, hg⟩ := ref03_Great (v := env[k].value) (by omega)
          simp only [ev_ref04_GreatBinds_L1, Ev.pif, if_true, Ev.opt_iff (ix_lt hk), GValue.re_eq, Ev.bind_iff hg]
          split
          · exact l2 _
          · exact l2 _
      simp only [ev_ref04_GreatBinds_L0, Ev.pif]
      split
      · exact l1 _
      · exact l1 _
  obtain ⟨b, hb⟩ := loop 0 (Nat.zero_le _)
  exact ⟨b, by rw [ev_ref04_GreatBinds]; exact hb⟩
end Go.Proofs.YtfhpamcehnfhoaaGreat
