/-
  WHAT THE FUNCTIONS ON VALUES COME TO.
-/
import Derived.Test.YtabknpjajioneaaFns
import Derived.Test.YtabknpjajioneaaAbLoops
namespace Go.Ab
open Go
set_option linter.unusedVariables false

theorem GValue.size_pos (v : GValue) : 1 ≤ v.size := by rw [GValue.size_eq]; omega
theorem GNode.size_pos (v : GNode) : 1 ≤ v.size := by rw [GNode.size_eq]; omega
theorem GValue.eta (a : GValue) : GValue.mk a.kind a.num a.truth a.str a.list = a := by cases a; rfl
theorem GNode.eta (a : GNode) : GNode.mk a.path a.rule_ a.args a.scope a.leaf a.fault a.open_ = a := by cases a; rfl
/-- the fuel that a value needs -/
def needV (v : GValue) : Nat := 4 * v.size - 2
theorem needV_list (v : GValue) : needs needV v.list 0 + 8 ≤ needV v := by
  have h := sum_four (l := v.list) (f := GValue.size) fun x _ => x.size_pos
  have hl := len_le_sum' (l := v.list) (f := GValue.size) fun x _ => x.size_pos
  rw [needs_zero]; show ((v.list.map fun x => 4 * x.size - 2).sum) + _ + _ + _ ≤ 4 * v.size - 2
  rw [GValue.size_eq]; omega
theorem GValue.len_le (v : GValue) : v.list.length ≤ v.size := by
  have := len_le_sum' (l := v.list) (f := GValue.size) fun x _ => x.size_pos
  rw [GValue.size_eq]; omega
theorem GValue.mem_le {v x : GValue} (h : x ∈ v.list) : x.size < v.size := by
  have := mem_le_sum' (f := GValue.size) h
  rw [GValue.size_eq v]; omega

theorem GValue.ext'' {a b : GValue} (h1 : a.kind = b.kind) (h2 : (a.num.num == b.num.num && a.num.den == b.num.den) = true) (h3 : a.truth = b.truth) (h4 : a.str = b.str) (h5 : a.list = b.list) : a = b := by
  obtain ⟨k, ⟨n, d⟩, t, s, l⟩ := a
  obtain ⟨k', ⟨n', d'⟩, t', s', l'⟩ := b
  simp at h1 h2 h3 h4 h5
  simp [*]

theorem ref03_same : ∀ (s : Nat) (a b : GValue) (n : Nat), a.size ≤ s → a.size ≤ 1048576 → needV a ≤ n → go_ref03_Same n a b = some (eqB a b) := by
  intro s
  induction s with
  | zero => intro a b n h; have := a.size_pos; omega
  | succ s ih =>
    intro a b n hs hb hn
    have hl := needV_list a
    have hp := @needs_pos _ needV a.list 0
    have hlen := a.len_le
    obtain ⟨n, rfl⟩ : ∃ q, n = q + 3 := ⟨n - 3, by omega⟩
    have no : a ≠ b → go_ref03_Same_J1 (n + 2) a b true = some (eqB a b) := fun h => by rw [go_ref03_Same_J1, if_pos rfl, eqB_false.2 h]
    rw [go_ref03_Same]
    split
    · exact no (by rintro rfl; simp at *)
    split
    · exact no (by rintro rfl; simp at *)
    split
    · exact no (by rintro rfl; simp at *)
    split
    · exact no (by rintro rfl; simp at *)
    rename_i h1 h2 h3 h4
    by_cases h5 : a.list.length = b.list.length
    · rw [go_ref03_Same_J1, if_neg (by simp [h5])]
      have := same_loop (S := go_ref03_Same) (L := fun n k => go_ref03_Same_L1 n a b k) (need := needV) h5 (by omega) (fun n k => by rw [go_ref03_Same_L1]) (fun n x y hx hn => ih x y n (by have := GValue.mem_le hx; omega) (by have := GValue.mem_le hx; omega) hn) _ 0 (n + 1) rfl (by omega) (by omega) (by simp)
      simp only [Int.natCast_zero] at this
      rw [this]
      congr 1
      by_cases he : a.list = b.list
      · rw [eqB_true.2 he, eqB_true.2 (GValue.ext'' (by simpa using h1) (by simpa using h2) (by simpa using h3) (by simpa using h4) he)]
      · rw [eqB_false.2 he, eqB_false.2 (fun h => he (by rw [h]))]
    · rw [show (!((a.list.length : Int) == (b.list.length : Int))) = true by simp; omega]
      exact no (by rintro rfl; exact h5 rfl)

theorem value_same : ∀ (s : Nat) (a b : GValue) (n : Nat), a.size ≤ s → a.size ≤ 1048576 → needV a ≤ n → go_value_Same n a b = some (eqB a b) := by
  intro s
  induction s with
  | zero => intro a b n h; have := a.size_pos; omega
  | succ s ih =>
    intro a b n hs hb hn
    have hl := needV_list a
    have hp := @needs_pos _ needV a.list 0
    have hlen := a.len_le
    obtain ⟨n, rfl⟩ : ∃ q, n = q + 3 := ⟨n - 3, by omega⟩
    have no : a ≠ b → go_value_Same_J1 (n + 2) a b true = some (eqB a b) := fun h => by rw [go_value_Same_J1, if_pos rfl, eqB_false.2 h]
    rw [go_value_Same]
    split
    · exact no (by rintro rfl; simp at *)
    split
    · exact no (by rintro rfl; simp at *)
    split
    · exact no (by rintro rfl; simp at *)
    split
    · exact no (by rintro rfl; simp at *)
    rename_i h1 h2 h3 h4
    by_cases h5 : a.list.length = b.list.length
    · rw [go_value_Same_J1, if_neg (by simp [h5])]
      have := same_loop (S := go_value_Same) (L := fun n k => go_value_Same_L1 n a b k) (need := needV) h5 (by omega) (fun n k => by rw [go_value_Same_L1]) (fun n x y hx hn => ih x y n (by have := GValue.mem_le hx; omega) (by have := GValue.mem_le hx; omega) hn) _ 0 (n + 1) rfl (by omega) (by omega) (by simp)
      simp only [Int.natCast_zero] at this
      rw [this]
      congr 1
      by_cases he : a.list = b.list
      · rw [eqB_true.2 he, eqB_true.2 (GValue.ext'' (by simpa using h1) (by simpa using h2) (by simpa using h3) (by simpa using h4) he)]
      · rw [eqB_false.2 he, eqB_false.2 (fun h => he (by rw [h]))]
    · rw [show (!((a.list.length : Int) == (b.list.length : Int))) = true by simp; omega]
      exact no (by rintro rfl; exact h5 rfl)

theorem ref03_twin : ∀ (s : Nat) (a : GValue) (n : Nat), a.size ≤ s → a.size ≤ 1048576 → needV a ≤ n → go_ref03_Twin n a = some a := by
  intro s
  induction s with
  | zero => intro a n h; have := a.size_pos; omega
  | succ s ih =>
    intro a n hs hb hn
    have hl := needV_list a
    have hp := @needs_pos _ needV a.list 0
    have hlen := a.len_le
    obtain ⟨n, rfl⟩ : ∃ q, n = q + 3 := ⟨n - 3, by omega⟩
    rw [go_ref03_Twin]
    have := map_loop (T := go_ref03_Twin) (L := fun n l k => go_ref03_Twin_L1 n a l k) (need := needV) (f := id) (xs := a.list) (c := 0) (fin := fun l => some (GValue.mk a.kind a.num a.truth a.str l)) (by omega) (fun n l k => by rw [go_ref03_Twin_L1]) (fun n x hx hn => ih x n (by have := GValue.mem_le hx; omega) (by have := GValue.mem_le hx; omega) hn) _ 0 (n + 2) rfl (by omega) (by omega)
    simpa [GValue.eta] using this

theorem value_twin1 : ∀ (s : Nat) (a : GValue) (n : Nat), a.size ≤ s → a.size ≤ 1048576 → needV a ≤ n → go_value_Twin_1__value_Twin_1 n a = some a := by
  intro s
  induction s with
  | zero => intro a n h; have := a.size_pos; omega
  | succ s ih =>
    intro a n hs hb hn
    have hl := needV_list a
    have hp := @needs_pos _ needV a.list 0
    have hlen := a.len_le
    obtain ⟨n, rfl⟩ : ∃ q, n = q + 3 := ⟨n - 3, by omega⟩
    rw [go_value_Twin_1__value_Twin_1]
    have := map_loop (T := go_value_Twin_1__value_Twin_1) (L := fun n l k => go_value_Twin_1__value_Twin_1_L1 n a l k) (need := needV) (f := id) (xs := a.list) (c := 0) (fin := fun l => some (GValue.mk a.kind a.num a.truth a.str l)) (by omega) (fun n l k => by rw [go_value_Twin_1__value_Twin_1_L1]) (fun n x hx hn => ih x n (by have := GValue.mem_le hx; omega) (by have := GValue.mem_le hx; omega) hn) _ 0 (n + 2) rfl (by omega) (by omega)
    simpa [GValue.eta] using this
theorem value_twin {a : GValue} {n : Nat} (hb : a.size ≤ 1048576) (hn : needV a ≤ n) : go_value_Twin n a = some a := by
  rw [go_value_Twin, value_twin1 _ a n (Nat.le_refl _) hb hn]; rfl

/-- 'great' answers -/
theorem ref03_great : ∀ (s : Nat) (a : GValue) (d : Int) (n : Nat), a.size ≤ s → a.size ≤ 1048576 → needV a ≤ n → ∃ b, go_ref03_great n a d = some b := by
  intro s
  induction s with
  | zero => intro a d n h; have := a.size_pos; omega
  | succ s ih =>
    intro a d n hs hb hn
    have hl := needV_list a
    have hp := @needs_pos _ needV a.list 0
    have hlen := a.len_le
    obtain ⟨n, rfl⟩ : ∃ q, n = q + 3 := ⟨n - 3, by omega⟩
    have yes : go_ref03_great_J1 (n + 2) a d true = some true := by rw [go_ref03_great_J1, if_pos rfl]
    rw [go_ref03_great]
    split
    · exact ⟨_, yes⟩
    split
    · exact ⟨_, yes⟩
    generalize decide (150 < (a.list.length : Int)) = c
    cases c with
    | true => exact ⟨_, yes⟩
    | false =>
      rw [go_ref03_great_J1, if_neg (by simp)]
      suffices ∀ (m k n : Nat), a.list.length - k = m → k ≤ a.list.length → needs needV a.list k ≤ n → ∃ b, go_ref03_great_L1 n a d k = some b from this _ 0 (n + 1) rfl (by omega) (by omega)
      intro m
      induction m with
      | zero =>
        intro k n hm hk hn
        obtain ⟨n, rfl⟩ : ∃ q, n = q + 1 := ⟨n - 1, by have := @needs_pos _ needV a.list k; omega⟩
        rw [go_ref03_great_L1, dec_lt, if_neg (by simp; omega)]; exact ⟨_, rfl⟩
      | succ m ih2 =>
        intro k n hm hk hn
        obtain ⟨n, rfl⟩ : ∃ q, n = q + 1 := ⟨n - 1, by have := @needs_pos _ needV a.list k; omega⟩
        have hlt : k < a.list.length := by omega
        have hst := needs_step (f := needV) hlt
        have hq := @needs_pos _ needV a.list (k + 1)
        have hm := GValue.mem_le (List.getElem_mem hlt)
        rw [go_ref03_great_L1, dec_lt, if_pos (by simpa using hlt), ix_lt hlt]
        simp only [Option.bind_some]
        obtain ⟨c, hc⟩ := ih a.list[k] (IntKind.i64.wrap (d - 1)) n (by omega) (by omega) (by omega)
        rw [hc]
        simp only [Option.bind_some]
        split
        · exact ⟨_, rfl⟩
        · rw [wrk (by omega)]; exact ih2 (k + 1) n (by omega) hlt (by omega)

theorem ref03_parts : ∀ (s : Nat) (a : GValue) (n : Nat), a.size ≤ s → a.size ≤ 1048576 → 2 * needV a ≤ n → ∃ b, go_ref03_Parts n a = some b := by
  intro s
  induction s with
  | zero => intro a n h; have := a.size_pos; omega
  | succ s ih =>
    intro a n hs hb hn
    have hl := needV_list a
    have hp := @needs_pos _ needV a.list 0
    have hlen := a.len_le
    obtain ⟨n, rfl⟩ : ∃ q, n = q + 1 := ⟨n - 1, by omega⟩
    rw [go_ref03_Parts]
    suffices ∀ (m k n : Nat) (x : Int), a.list.length - k = m → k ≤ a.list.length → 2 * needs needV a.list k ≤ n → ∃ b, go_ref03_Parts_L1 n a x k = some b from this _ 0 n 1 rfl (by omega) (by omega)
    intro m
    induction m with
    | zero =>
      intro k n x hm hk hn
      obtain ⟨n, rfl⟩ : ∃ q, n = q + 2 := ⟨n - 2, by have := @needs_pos _ needV a.list k; omega⟩
      rw [go_ref03_Parts_L1, dec_lt, if_neg (by simp; omega), go_ref03_Parts_J1, if_neg (by simp)]; exact ⟨_, rfl⟩
    | succ m ih2 =>
      intro k n x hm hk hn
      obtain ⟨n, rfl⟩ : ∃ q, n = q + 2 := ⟨n - 2, by have := @needs_pos _ needV a.list k; omega⟩
      have hlt : k < a.list.length := by omega
      have hst := needs_step (f := needV) hlt
      have hq := @needs_pos _ needV a.list (k + 1)
      have hm := GValue.mem_le (List.getElem_mem hlt)
      rw [go_ref03_Parts_L1, dec_lt, if_pos (by simpa using hlt), go_ref03_Parts_J1]
      split
      · rw [ix_lt hlt]
        simp only [Option.bind_some]
        obtain ⟨c, hc⟩ := ih a.list[k] n (by omega) (by omega) (by omega)
        rw [hc]
        simp only [Option.bind_some]
        rw [wrk (by omega)]; exact ih2 (k + 1) n _ (by omega) hlt (by omega)
      · exact ⟨_, rfl⟩

theorem ref03_Great {a : GValue} {n : Nat} (hb : a.size ≤ 1048576) (hn : 2 * needV a ≤ n) : ∃ b, go_ref03_Great n a = some b := by
  obtain ⟨c, hc⟩ := ref03_great _ a 10 n (Nat.le_refl _) hb (by omega)
  obtain ⟨d, hd⟩ := ref03_parts _ a n (Nat.le_refl _) hb hn
  rw [go_ref03_Great, hc]
  simp only [Option.bind_some]
  split
  · exact ⟨_, rfl⟩
  · rw [hd]; exact ⟨_, rfl⟩
end Go.Ab
