/-
  WHAT THE FUNCTIONS ON NODES COME TO.
-/
import Derived.Test.YtabknpjajioneaaP03
namespace Go.Ab
open Go
set_option linter.unusedVariables false
set_option linter.unusedSimpArgs false

/-- the fuel that a node needs -/
def needN (x : GNode) : Nat := 8 * x.size
def needA (l : List GValue) : Nat := 2 * (needs needV l 0) + 2
theorem needA_le (x : GNode) : needA x.args + 8 ≤ needN x := by
  have h := sum_four (l := x.args) (f := GValue.size) fun x _ => x.size_pos
  have hl := len_le_sum' (l := x.args) (f := GValue.size) fun x _ => x.size_pos
  unfold needA needN
  rw [needs_zero, GNode.size_eq]
  have : (x.args.map needV).sum = (x.args.map fun x => 4 * x.size - 2).sum := rfl
  omega
theorem GNode.len_le (x : GNode) : x.args.length ≤ x.size := by
  have := len_le_sum' (l := x.args) (f := GValue.size) fun x _ => x.size_pos
  rw [GNode.size_eq]; omega
theorem GNode.mem_le {x : GNode} {v : GValue} (h : v ∈ x.args) : v.size < x.size := by
  have := mem_le_sum' (f := GValue.size) h
  rw [GNode.size_eq]; omega

theorem GNode.ext'' {a b : GNode} (h1 : a.path = b.path) (h2 : a.rule_ = b.rule_)
    (h3 : (a.scope.frame.turn == b.scope.frame.turn && (a.scope.frame.at_.x == b.scope.frame.at_.x && (a.scope.frame.at_.y == b.scope.frame.at_.y && (a.scope.frame.at_.z == b.scope.frame.at_.z && (a.scope.size_.x == b.scope.size_.x && (a.scope.size_.y == b.scope.size_.y && a.scope.size_.z == b.scope.size_.z)))))) = true)
    (h4 : a.leaf = b.leaf) (h5 : a.fault = b.fault) (h6 : a.open_ = b.open_) (h7 : a.args = b.args) : a = b := by
  obtain ⟨p, r, l, ⟨⟨t, ⟨x, y, z⟩⟩, ⟨sx, sy, sz⟩⟩, f, e, o⟩ := a
  obtain ⟨p', r', l', ⟨⟨t', ⟨x', y', z'⟩⟩, ⟨sx', sy', sz'⟩⟩, f', e', o'⟩ := b
  simp at h1 h2 h3 h4 h5 h6 h7
  simp [*]

theorem ref27_greatArgs {x : GNode} {n : Nat} (hb : x.size ≤ 1048576) (hn : needA x.args ≤ n) : ∃ b, go_ref27_GreatArgs n x.args = some b := by
  obtain ⟨n, rfl⟩ : ∃ q, n = q + 1 := ⟨n - 1, by unfold needA at hn; omega⟩
  have hlen := x.len_le
  rw [go_ref27_GreatArgs]
  have h := down (len := x.args.length) (Q := fun k => ∀ n, 2 * needs needV x.args k ≤ n → ∃ b, go_ref27_GreatArgs_L1 n x.args k = some b) (fun n hn => by
      obtain ⟨n, rfl⟩ : ∃ q, n = q + 1 := ⟨n - 1, by have := @needs_pos _ needV x.args x.args.length; omega⟩
      rw [go_ref27_GreatArgs_L1, dec_lt, if_neg (by simp)]; exact ⟨_, rfl⟩) fun k hlt ih n hn => by
      obtain ⟨n, rfl⟩ : ∃ q, n = q + 1 := ⟨n - 1, by have := @needs_pos _ needV x.args k; omega⟩
      have hst := needs_step (f := needV) hlt
      have hm := GNode.mem_le (List.getElem_mem hlt)
      rw [go_ref27_GreatArgs_L1, dec_lt, if_pos (by simpa using hlt), ix_lt hlt]
      simp only [Option.bind_some]
      obtain ⟨c, hc⟩ := ref03_Great (a := x.args[k]) (n := n) (by omega) (by omega)
      rw [hc]
      simp only [Option.bind_some]
      split
      · exact ⟨_, rfl⟩
      · rw [wrk (by omega)]; exact ih n (by omega)
  exact h 0 (Nat.zero_le _) n (by unfold needA at hn; omega)

theorem ref27_great {t : List GNode} {n : Nat} (hb : (t.map GNode.size).sum ≤ 1048576) (hn : 2 * needs needN t 0 + 1 ≤ n) : ∃ b, go_ref27_Great n t = some b := by
  obtain ⟨n, rfl⟩ : ∃ q, n = q + 1 := ⟨n - 1, by omega⟩
  have hlen := len_le_sum' (l := t) (f := GNode.size) fun x _ => x.size_pos
  rw [go_ref27_Great]
  have h := down (len := t.length) (Q := fun k => ∀ n, 2 * needs needN t k ≤ n → ∃ b, go_ref27_Great_L1 n t k = some b) (fun n hn => by
      obtain ⟨n, rfl⟩ : ∃ q, n = q + 1 := ⟨n - 1, by have := @needs_pos _ needN t t.length; omega⟩
      rw [go_ref27_Great_L1, dec_lt, if_neg (by simp)]; exact ⟨_, rfl⟩) fun k hlt ih n hn => by
      obtain ⟨n, rfl⟩ : ∃ q, n = q + 2 := ⟨n - 2, by have := @needs_pos _ needN t k; omega⟩
      have hst := needs_step (f := needN) hlt
      have hm := mem_le_sum' (f := GNode.size) (List.getElem_mem hlt)
      have ha := needA_le t[k]
      have go : ∀ c : Bool, ∃ b, go_ref27_Great_J1 (n + 1) t k c = some b := fun c => by
        rw [go_ref27_Great_J1]
        split
        · exact ⟨_, rfl⟩
        · rw [wrk (by omega)]; exact ih n (by omega)
      rw [go_ref27_Great_L1, dec_lt, if_pos (by simpa using hlt), ix_lt hlt]
      simp only [Option.bind_some]
      split
      · exact go _
      split
      · exact go _
      split
      · exact go _
      obtain ⟨c, hc⟩ := ref27_greatArgs (x := t[k]) (n := n + 1) (by omega) (by omega)
      rw [hc]
      exact go _
  exact h 0 (Nat.zero_le _) n (by omega)

theorem derive_twin {x : GNode} {n : Nat} (hb : x.size ≤ 1048576) (hn : needN x ≤ n) : go_derive_twin n x = some x := by
  have hlen := x.len_le
  have ha := needA_le x
  unfold needA at ha
  obtain ⟨n, rfl⟩ : ∃ q, n = q + 1 := ⟨n - 1, by omega⟩
  rw [go_derive_twin]
  have := map_loop (T := go_value_Twin) (L := fun n l k => go_derive_twin_L1 n x l k) (need := needV) (f := id) (xs := x.args) (c := 0) (fin := fun l => some (GNode.mk x.path x.rule_ l x.scope x.leaf x.fault x.open_)) (by omega) (fun n l k => by rw [go_derive_twin_L1]) (fun n v hv hn => value_twin (by have := GNode.mem_le hv; omega) hn) _ 0 n rfl (by omega) (by omega)
  simpa [GNode.eta] using this
theorem ref27_twin {x : GNode} {n : Nat} (hb : x.size ≤ 1048576) (hn : needN x ≤ n) : go_ref27_Twin n x = some x := by
  have hlen := x.len_le
  have ha := needA_le x
  unfold needA at ha
  obtain ⟨n, rfl⟩ : ∃ q, n = q + 1 := ⟨n - 1, by omega⟩
  rw [go_ref27_Twin]
  have := map_loop (T := go_ref03_Twin) (L := fun n l k => go_ref27_Twin_L1 n x l k) (need := needV) (f := id) (xs := x.args) (c := 0) (fin := fun l => some (GNode.mk x.path x.rule_ l x.scope x.leaf x.fault x.open_)) (by omega) (fun n l k => by rw [go_ref27_Twin_L1]) (fun n v hv hn => ref03_twin _ v n (Nat.le_refl _) (by have := GNode.mem_le hv; omega) hn) _ 0 n rfl (by omega) (by omega)
  simpa [GNode.eta] using this

theorem ref27_same {a b : GNode} {n : Nat} (hb : a.size ≤ 1048576) (hn : needN a ≤ n) : go_ref27_Same n a b = some (eqB a b) := by
  have hlen := a.len_le
  have ha := needA_le a
  unfold needA at ha
  obtain ⟨n, rfl⟩ : ∃ q, n = q + 3 := ⟨n - 3, by omega⟩
  have no : a ≠ b → go_ref27_Same_J1 (n + 2) a b true = some (eqB a b) := fun h => by rw [go_ref27_Same_J1, if_pos rfl, eqB_false.2 h]
  rw [go_ref27_Same]
  split
  · exact no (by rintro rfl; simp at *)
  split
  · exact no (by rintro rfl; simp at *)
  split
  · exact no (by rintro rfl; simp at *)
  split
  · exact no (by rintro rfl; simp at *)
  split
  · exact no (by rintro rfl; simp at *)
  split
  · exact no (by rintro rfl; simp at *)
  rename_i h1 h2 h3 h4 h5 h6
  by_cases h7 : a.args.length = b.args.length
  · rw [go_ref27_Same_J1, if_neg (by simp [h7])]
    have := same_loop (S := go_ref03_Same) (L := fun n k => go_ref27_Same_L1 n a b k) (need := needV) h7 (by omega) (fun n k => by rw [go_ref27_Same_L1]) (fun n x y hx hn => ref03_same _ x y n (Nat.le_refl _) (by have := GNode.mem_le hx; omega) hn) _ 0 (n + 1) rfl (by omega) (by omega) (by simp)
    simp only [Int.natCast_zero] at this
    rw [this]
    congr 1
    by_cases he : a.args = b.args
    · rw [eqB_true.2 he, eqB_true.2 (GNode.ext'' (by simpa using h1) (by simpa using h2) (by simpa using h3) (by simpa using h4) (by simpa using h5) (by simpa using h6) he)]
    · rw [eqB_false.2 he, eqB_false.2 (fun h => he (by rw [h]))]
  · rw [show (!((a.args.length : Int) == (b.args.length : Int))) = true by simp; omega]
    exact no (by rintro rfl; exact h7 rfl)

theorem equalV {xs ys : List GValue} {n : Nat} (hb : (xs.map GValue.size).sum ≤ 1048576) (hn : needs needV xs 0 + 1 ≤ n) : go_slices_EqualFunc_Value_Value_Value_Value__value_Same n xs ys = some (eqB xs ys) := by
  have hlen := len_le_sum' (l := xs) (f := GValue.size) fun x _ => x.size_pos
  obtain ⟨n, rfl⟩ : ∃ q, n = q + 1 := ⟨n - 1, by omega⟩
  rw [go_slices_EqualFunc_Value_Value_Value_Value__value_Same]
  by_cases h7 : xs.length = ys.length
  · rw [if_neg (by simp [h7])]
    have := same_loop (S := go_value_Same) (L := fun n k => go_slices_EqualFunc_Value_Value_Value_Value__value_Same_L1 n xs ys k) (need := needV) h7 (by omega) (fun n k => by rw [go_slices_EqualFunc_Value_Value_Value_Value__value_Same_L1]) (fun n x y hx hn => value_same _ x y n (Nat.le_refl _) (by have := mem_le_sum' (f := GValue.size) hx; omega) hn) _ 0 n rfl (by omega) (by omega) (by simp)
    simpa using this
  · rw [if_pos (by simp; omega), eqB_false.2 (fun h => h7 (by rw [h]))]

theorem derive_same {a b : GNode} {n : Nat} (hb : a.size ≤ 1048576) (hn : needN a ≤ n) : go_derive_Same n a b = some (eqB a b) := by
  have hlen := a.len_le
  have ha := needA_le a
  unfold needA at ha
  have no : a ≠ b → go_derive_Same_J1 n false = some (eqB a b) := fun h => by rw [go_derive_Same_J1, eqB_false.2 h]
  rw [go_derive_Same]
  split
  case isFalse h => exact no (by rintro rfl; simp at h)
  split
  case isFalse h => exact no (by rintro rfl; simp at h)
  split
  case isFalse h => exact no (by rintro rfl; simp at h)
  split
  case isFalse h => exact no (by rintro rfl; simp at h)
  split
  case isFalse h => exact no (by rintro rfl; simp at h)
  split
  case isFalse h => exact no (by rintro rfl; simp at h)
  rename_i h1 h2 h3 h4 h5 h6
  rw [equalV (by rw [GNode.size_eq] at hb; omega) (by omega)]
  simp only [Option.bind_some, go_derive_Same_J1]
  congr 1
  by_cases he : a.args = b.args
  · rw [eqB_true.2 he, eqB_true.2 (GNode.ext'' (by simpa using h1) (by simpa using h2) (by simpa using h3) (by simpa using h4) (by simpa using h5) (by simpa using h6) he)]
  · rw [eqB_false.2 he, eqB_false.2 (fun h => he (by rw [h]))]

theorem ref27_sameAll {xs ys : List GNode} {n : Nat} (hb : (xs.map GNode.size).sum ≤ 1048576) (hn : needs needN xs 0 + 1 ≤ n) : go_ref27_SameAll n xs ys = some (eqB xs ys) := by
  have hlen := len_le_sum' (l := xs) (f := GNode.size) fun x _ => x.size_pos
  obtain ⟨n, rfl⟩ : ∃ q, n = q + 1 := ⟨n - 1, by omega⟩
  rw [go_ref27_SameAll]
  by_cases h7 : xs.length = ys.length
  · rw [if_neg (by simp [h7])]
    have := same_loop (S := go_ref27_Same) (L := fun n k => go_ref27_SameAll_L1 n xs ys k) (need := needN) h7 (by omega) (fun n k => by rw [go_ref27_SameAll_L1]) (fun n x y hx hn => ref27_same (by have := mem_le_sum' (f := GNode.size) hx; omega) hn) _ 0 n rfl (by omega) (by omega) (by simp)
    simpa using this
  · rw [if_pos (by simp; omega), eqB_false.2 (fun h => h7 (by rw [h]))]

/-- Find -/
def find27 (t : List GNode) (p : List UInt8) : Int × Int := match t.findIdx? (fun n => n.path == p) with | some i => ((i : Int), 0) | none => (0, 6)
theorem ref27_find {t : List GNode} {p : List UInt8} {n : Nat} (hb : t.length ≤ 1048576) (hn : needs (fun _ => 0) t 0 + 1 ≤ n) : go_ref27_Find n t p = some (find27 t p) := by
  obtain ⟨n, rfl⟩ : ∃ q, n = q + 1 := ⟨n - 1, by omega⟩
  rw [go_ref27_Find]
  have := find_loop (T := fun n (x : GNode) => some (x.path == p)) (L := fun n k => go_ref27_Find_L1 n t p k) (got := fun i => some ((i : Int), (0 : Int))) (fin := some (0, 6)) (need := fun _ => 0) (p := fun x => x.path == p) (xs := t) (by omega) (fun n k => by rw [go_ref27_Find_L1]; rfl) (fun n x hx hn => rfl) _ 0 n rfl (by omega) (by omega) (by simp)
  simp only [Int.natCast_zero] at this
  rw [this, find27]
  cases t.findIdx? (fun n => n.path == p) <;> rfl
theorem derive_find {t : List GNode} {p : List UInt8} {n : Nat} (hb : t.length ≤ 1048576) (hn : needs (fun _ => 0) t 0 + 1 ≤ n) : go_derive_Find n t p = some (find27 t p) := by
  obtain ⟨n, rfl⟩ : ∃ q, n = q + 1 := ⟨n - 1, by omega⟩
  rw [go_derive_Find, go_slices_IndexFunc_Node_Node__derive_Find_1]
  have := find_loop (T := fun n (x : GNode) => go_derive_Find_1 n x p) (L := fun n k => go_slices_IndexFunc_Node_Node__derive_Find_1_L1 n t p k) (got := fun i => some (i : Int)) (fin := some (-1)) (need := fun _ => 0) (p := fun x => x.path == p) (xs := t) (by omega) (fun n k => by rw [go_slices_IndexFunc_Node_Node__derive_Find_1_L1]) (fun n x hx hn => rfl) _ 0 n rfl (by omega) (by omega) (by simp)
  simp only [Int.natCast_zero] at this
  rw [this, find27]
  cases t.findIdx? (fun n => n.path == p) <;> simp

/-- Leaves -/
def leaves (t : List GNode) : List GNode := t.filter fun x => x.rule_ == []
theorem leaves_take {t : List GNode} {k : Nat} (h : k < t.length) : leaves (t.take (k + 1)) = if t[k].rule_ == [] then leaves (t.take k) ++ [t[k]] else leaves (t.take k) := by
  unfold leaves
  rw [List.take_add_one, List.getElem?_eq_getElem h, List.filter_append]
  cases hc : t[k].rule_ == [] <;> simp [hc] <;> simpa using hc
theorem leaves_le (t : List GNode) (k : Nat) : (leaves (t.take k)).length ≤ k := by
  unfold leaves
  have := List.length_filter_le (fun x : GNode => x.rule_ == []) (t.take k)
  simp at this ⊢; omega
theorem derive_leaves {t : List GNode} {n : Nat} (hb : (t.map GNode.size).sum ≤ 1048576) (hn : 2 * needs needN t 0 + 1 ≤ n) : go_derive_Leaves n t = some (leaves t) := by
  obtain ⟨n, rfl⟩ : ∃ q, n = q + 1 := ⟨n - 1, by omega⟩
  have hlen := len_le_sum' (l := t) (f := GNode.size) fun x _ => x.size_pos
  rw [go_derive_Leaves]
  have h := down (len := t.length) (Q := fun k => ∀ n, 2 * needs needN t k ≤ n → go_derive_Leaves_L1 n t (leaves (t.take k)) k = some (leaves t)) (fun n hn => by
      obtain ⟨n, rfl⟩ : ∃ q, n = q + 1 := ⟨n - 1, by have := @needs_pos _ needN t t.length; omega⟩
      rw [go_derive_Leaves_L1, dec_lt, if_neg (by simp), List.take_length]) fun k hlt ih n hn => by
      obtain ⟨n, rfl⟩ : ∃ q, n = q + 2 := ⟨n - 2, by have := @needs_pos _ needN t k; omega⟩
      have hst := needs_step (f := needN) hlt
      have hm := mem_le_sum' (f := GNode.size) (List.getElem_mem hlt)
      have hle := leaves_le t k
      have hs := leaves_take hlt
      rw [go_derive_Leaves_L1, dec_lt, if_pos (by simpa using hlt), ix_lt hlt]
      simp only [Option.bind_some]
      split
      · rename_i hc
        rw [derive_twin (by omega) (by omega)]
        simp only [Option.bind_some]
        rw [ext_ok (by simp; omega)]
        simp only [Option.bind_some]
        rw [go_derive_Leaves_J1, wrk (by omega), ← ih n (by omega), hs, if_pos hc]
      · rename_i hc
        rw [go_derive_Leaves_J1, wrk (by omega), ← ih n (by omega), hs, if_neg hc]
  simpa [leaves] using h 0 (Nat.zero_le _) n (by omega)
theorem ref27_leaves {t : List GNode} {n : Nat} (hb : (t.map GNode.size).sum ≤ 1048576) (hn : 2 * needs needN t 0 + 1 ≤ n) : go_ref27_Leaves n t = some (leaves t) := by
  obtain ⟨n, rfl⟩ : ∃ q, n = q + 1 := ⟨n - 1, by omega⟩
  have hlen := len_le_sum' (l := t) (f := GNode.size) fun x _ => x.size_pos
  rw [go_ref27_Leaves]
  have h := down (len := t.length) (Q := fun k => ∀ n, 2 * needs needN t k ≤ n → go_ref27_Leaves_L1 n t (leaves (t.take k)) k = some (leaves t)) (fun n hn => by
      obtain ⟨n, rfl⟩ : ∃ q, n = q + 1 := ⟨n - 1, by have := @needs_pos _ needN t t.length; omega⟩
      rw [go_ref27_Leaves_L1, dec_lt, if_neg (by simp), List.take_length]) fun k hlt ih n hn => by
      obtain ⟨n, rfl⟩ : ∃ q, n = q + 2 := ⟨n - 2, by have := @needs_pos _ needN t k; omega⟩
      have hst := needs_step (f := needN) hlt
      have hm := mem_le_sum' (f := GNode.size) (List.getElem_mem hlt)
      have hle := leaves_le t k
      have hs := leaves_take hlt
      have hq : ((t[k].rule_.length : Int) == 0) = (t[k].rule_ == []) := by
        cases t[k].rule_ with
        | nil => rfl
        | cons a l => simp; omega
      rw [go_ref27_Leaves_L1, dec_lt, if_pos (by simpa using hlt), ix_lt hlt]
      simp only [Option.bind_some]
      rw [hq]
      split
      · rename_i hc
        rw [ref27_twin (by omega) (by omega)]
        simp only [Option.bind_some]
        rw [ext_ok (by simp; omega)]
        simp only [Option.bind_some]
        rw [go_ref27_Leaves_J1, wrk (by omega), ← ih n (by omega), hs, if_pos hc]
      · rename_i hc
        rw [go_ref27_Leaves_J1, wrk (by omega), ← ih n (by omega), hs, if_neg hc]
  simpa [leaves] using h 0 (Nat.zero_le _) n (by omega)

theorem filter_sum {α : Type} (f : α → Nat) (p : α → Bool) : ∀ l : List α, ((l.filter p).map f).sum ≤ (l.map f).sum
  | [] => Nat.le_refl _
  | x :: l => by
    have := filter_sum f p l
    rw [List.filter_cons]
    split <;> simp only [List.map_cons, List.sum_cons] <;> omega
/-- the law -/
theorem law27_lists (t : List GNode) (p : List UInt8) (hb : (t.map GNode.size).sum ≤ 1048576) : ∃ n, go_gambrellaw27_DeriveLists n t p = some true := by
  have hlen := len_le_sum' (l := t) (f := GNode.size) fun x _ => x.size_pos
  obtain ⟨B, hB⟩ : ∃ B, B = 2 * needs needN t 0 + needs (fun _ => 0) t 0 + 10 := ⟨_, rfl⟩
  have hf := @needs_pos _ (fun _ : GNode => 0) t 0
  have hd := @needs_pos _ needN t 0
  refine ⟨B + t.length * 2 + 10, ?_⟩
  obtain ⟨b, hgr⟩ := ref27_great (n := B + t.length * 2 + 9) hb (by omega)
  rw [go_gambrellaw27_DeriveLists, hgr]
  simp only [Option.bind_some]
  have one : ∀ (k : Nat) (h : k < t.length), needN t[k] ≤ B := fun k h => by
    have h1 := mem_le_sum' (f := needN) (List.getElem_mem h)
    rw [needs_zero] at hB; omega
  have onz : ∀ (k : Nat) (h : k < t.length), t[k].size ≤ 1048576 := fun k h => by
    have h1 := mem_le_sum' (f := GNode.size) (List.getElem_mem h); omega
  have loop := down (len := t.length) (Q := fun k => 1 ≤ k → ∀ n, B + (t.length - k) * 2 + 2 ≤ n → go_gambrellaw27_DeriveLists_L1 n t k = some true) (fun _ n hn => by
      obtain ⟨n, rfl⟩ : ∃ q, n = q + 1 := ⟨n - 1, by omega⟩
      rw [go_gambrellaw27_DeriveLists_L1, dec_lt, if_neg (by simp)]) fun k hlt ih h1 n hn => by
      obtain ⟨n, rfl⟩ : ∃ q, n = q + 2 := ⟨n - 2, by omega⟩
      have hw : IntKind.i64.wrap ((k : Int) - 1) = ((k - 1 : Nat) : Int) := by rw [wrI (by omega) (by omega)]; omega
      rw [go_gambrellaw27_DeriveLists_L1, dec_lt, if_pos (by simpa using hlt), hw, ix_lt (show k - 1 < t.length by omega), ix_lt hlt]
      simp only [Option.bind_some]
      rw [derive_same (onz _ _) (by have := one (k - 1) (by omega); omega), ref27_same (onz _ _) (by have := one (k - 1) (by omega); omega), derive_same (onz _ _) (by have := one k hlt; omega)]
      simp only [Option.bind_some, beq_self_eq_true, Bool.not_true, eqB_rfl]
      rw [if_neg (by simp), go_gambrellaw27_DeriveLists_J3, if_neg (by simp), wrk (by omega)]
      exact ih (by omega) n (by omega)
  have last : ∀ n, B + t.length * 2 + 3 ≤ n → go_gambrellaw27_DeriveLists_J2 n t false = some true := fun n hn => by
    obtain ⟨n, rfl⟩ : ∃ q, n = q + 1 := ⟨n - 1, by omega⟩
    rw [go_gambrellaw27_DeriveLists_J2, if_neg (by simp)]
    rcases Nat.eq_zero_or_pos t.length with h0 | h0
    · obtain ⟨n, rfl⟩ : ∃ q, n = q + 1 := ⟨n - 1, by omega⟩
      rw [go_gambrellaw27_DeriveLists_L1, if_neg (by simp; omega)]
    · exact loop 1 (by omega) (Nat.le_refl _) n (by omega)
  have next : ∀ n, B + t.length * 2 + 4 ≤ n → ∀ c, go_gambrellaw27_DeriveLists_J1 n t p c = some true := fun n hn c => by
    obtain ⟨n, rfl⟩ : ∃ q, n = q + 1 := ⟨n - 1, by omega⟩
    rw [go_gambrellaw27_DeriveLists_J1]
    split
    · rfl
    rw [derive_find (by omega) (by omega), ref27_find (by omega) (by omega), derive_leaves hb (by omega), ref27_leaves hb (by omega)]
    simp only [Option.bind_some, beq_self_eq_true, Bool.not_true]
    have hle : ((leaves t).map GNode.size).sum ≤ (t.map GNode.size).sum := filter_sum _ _ _
    have hle2 : ((leaves t).map needN).sum ≤ (t.map needN).sum := filter_sum _ _ _
    have hle3 : (leaves t).length ≤ t.length := List.length_filter_le _ _
    rw [ref27_sameAll (by omega) (by rw [needs_zero] at *; omega)]
    simp only [Option.bind_some, eqB_rfl, Bool.not_true]
    rw [if_neg (by simp), if_neg (by simp)]
    exact last _ (by omega)
  split
  · exact next _ (by omega) _
  · exact next _ (by omega) _
theorem lists_plain (x0 : List GNode) (x1 : List UInt8) (hb : (x0.map GNode.size).sum + x1.length ≤ 1048576) : ∃ n, go_gambrellaw27_DeriveLists n x0 x1 = some true := law27_lists x0 x1 (by omega)
end Go.Ab
