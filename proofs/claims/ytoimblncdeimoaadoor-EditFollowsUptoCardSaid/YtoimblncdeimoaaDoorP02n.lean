/-
  THE REFERENCE OF STEPS, WITH THE NAME OF A STEP.
-/
import Derived.Test.YtoimblncdeimoaaDoorP02
namespace Go.Ab
open Go
set_option linter.unusedVariables false
set_option linter.unusedSimpArgs false

/-- one digit -/
theorem digit_step_n {s d : List UInt8} {x1 x27 : Int} (hb : d.length ≤ 1048576) {k : Nat} (hk : k < d.length) {a : List UInt8} {b : Int} {r : Bool}
    (hg : isDig d[k] = true → ¬ 3 < k → Ev (fun n => go_ref02_Step_L2 n s x1 d (IntKind.i64.wrap ((IntKind.i64.wrap (10 * x27)) + (IntKind.i64.wrap (IntKind.u8.wrap (((d[k].toNat : Nat) : Int) - 48))))) ((k + 1 : Nat) : Int)) (a, b, r))
    (hbad : (isDig d[k] = false ∨ 3 < k) → r = false) {t : List UInt8} (ha : r = true → a = t) : ∃ a b, Ev (fun n => go_ref02_Step_L2 n s x1 d x27 k) (a, b, r) ∧ (r = true → a = t) := by
  have bad : r = false → Ev (fun n => go_ref02_Step_J2 n s x1 d x27 k true) ([], 0, r) := fun h => by
    rw [h]
    refine .succ (fun n => by rw [go_ref02_Step_J2]) ?_
    exact .t rfl (.pure rfl)
  cases hd : isDig d[k]
  · refine ⟨[], 0, .succ (fun n => by rw [go_ref02_Step_L2]) ?_, fun h => by rw [hbad (.inl hd)] at h; cases h⟩
    refine .t (by simpa using hk) (.opt (ix_lt hk) (.bind ref_digit ?_))
    refine .t (by rw [hd]; rfl) ?_
    exact bad (hbad (.inl hd))
  · by_cases h3 : 3 < k
    · refine ⟨[], 0, .succ (fun n => by rw [go_ref02_Step_L2]) ?_, fun h => by rw [hbad (.inr h3)] at h; cases h⟩
      refine .t (by simpa using hk) (.opt (ix_lt hk) (.bind ref_digit ?_))
      refine .f (by rw [hd]; rfl) ?_
      rw [show decide ((3 : Int) < (k : Int)) = true by simp; omega]
      exact bad (hbad (.inr h3))
    · refine ⟨a, b, .succ (fun n => by rw [go_ref02_Step_L2]) ?_, ha⟩
      refine .t (by simpa using hk) (.opt (ix_lt hk) (.bind ref_digit ?_))
      refine .f (by rw [hd]; rfl) ?_
      rw [show decide ((3 : Int) < (k : Int)) = false by simp; omega]
      refine .succ (fun n => by rw [go_ref02_Step_J2]) ?_
      refine .f rfl (.opt (ix_lt hk) ?_)
      rw [wrk (by omega)]
      exact hg hd h3

theorem ref_short_n {s d : List UInt8} {x1 : Int} (h4 : d.length ≤ 4) (h1 : 0 ≤ x1 ∧ x1 ≤ s.length) : ∀ k, k ≤ d.length → ∀ x27, ∃ a b, Ev (fun n => go_ref02_Step_L2 n s x1 d x27 k) (a, b, (d.drop k).all isDig && digFin d) ∧ (((d.drop k).all isDig && digFin d) = true → a = s.take x1.toNat) :=
  down (fun x27 => by
    have hJ : ∀ c, ∃ a b, Ev (fun n => go_ref02_Step_J3 n s x1 x27 c) (a, b, !c) ∧ ((!c) = true → a = s.take x1.toNat) := fun c => by
      cases c
      · refine ⟨s.take x1.toNat, x27, .succ (fun n => by rw [go_ref02_Step_J3]) ?_, fun _ => rfl⟩
        refine .f rfl ?_
        refine .opt (y := s.take x1.toNat) ?_ (.pure rfl)
        have := sub_front (l := s) (hi := x1.toNat) (by omega)
        rwa [Int.toNat_of_nonneg h1.1] at this
      · refine ⟨[], 0, .succ (fun n => by rw [go_ref02_Step_J3]) ?_, fun h => by cases h⟩
        exact .t rfl (.pure rfl)
    cases d with
    | nil =>
      obtain ⟨a, b, h, _⟩ := hJ true
      refine ⟨a, b, .succ (fun n => by rw [go_ref02_Step_L2]) ?_, fun h => by cases h⟩
      refine .f rfl ?_
      exact .t rfl h
    | cons c d =>
      have e1 : decide (1 ≤ (c :: d).length) = true := by simp
      by_cases hl : 1 < (c :: d).length
      · obtain ⟨a, b, h, ha⟩ := hJ (((c.toNat : Nat) : Int) == 48)
        refine ⟨a, b, .succ (fun n => by rw [go_ref02_Step_L2]) (.f (by simp) ?_), fun hh => ha (by
          rw [byte48 (d := d)]
          simpa only [digFin, List.drop_length, List.all_nil, hl, e1, decide_true, Bool.true_and, Bool.and_true] using hh)⟩
        refine .f (by simp; omega) (.t (by simp only [decide_eq_true_eq]; omega) (.opt (y := c) rfl ?_))
        refine h.to ?_
        rw [byte48 (d := d)]
        simp only [digFin, List.drop_length, List.all_nil, hl, e1, decide_true, Bool.true_and, Bool.and_true]
      · obtain ⟨a, b, h, ha⟩ := hJ false
        refine ⟨a, b, .succ (fun n => by rw [go_ref02_Step_L2]) (.f (by simp) ?_), fun _ => ha rfl⟩
        refine .f (by simp; omega) (.f (by simp only [decide_eq_false_iff_not]; omega) ?_)
        refine h.to ?_
        simp only [digFin, List.drop_length, List.all_nil, hl, e1, decide_true, decide_false, Bool.and_false, Bool.not_false, Bool.true_and]) fun k hk ih x27 => by
    obtain ⟨a, b, h, ha⟩ := ih (IntKind.i64.wrap ((IntKind.i64.wrap (10 * x27)) + (IntKind.i64.wrap (IntKind.u8.wrap (((d[k].toNat : Nat) : Int) - 48)))))
    rw [← List.getElem_cons_drop (h := hk)]
    refine digit_step_n (by omega) hk (fun hd _ => h.to (by rw [List.all_cons, hd, Bool.true_and])) (fun hh => ?_) fun hh => ha (by simp only [List.all_cons, Bool.and_eq_true] at hh ⊢; exact ⟨hh.1.2, hh.2⟩)
    rcases hh with hh | hh
    · rw [List.all_cons, hh]; rfl
    · omega
theorem ref_digits_n {s d : List UInt8} {x1 : Int} (hb : d.length ≤ 1048576) (h1 : 0 ≤ x1 ∧ x1 ≤ s.length) : ∃ a b, Ev (fun n => go_ref02_Step_L2 n s x1 d 0 0) (a, b, digsOk d) ∧ (digsOk d = true → a = s.take x1.toNat) := by
  by_cases h4 : d.length ≤ 4
  · obtain ⟨a, b, h, ha⟩ := ref_short_n (x1 := x1) h4 h1 0 (Nat.zero_le _) 0
    have e : ((d.drop 0).all isDig && digFin d) = digsOk d := by
      simp only [digFin, digsOk, h4, List.drop_zero, decide_true, Bool.and_true]
      rw [Bool.and_comm]
    exact ⟨a, b, Ev.to h (by rw [e]), fun hh => ha (by rw [e]; exact hh)⟩
  · obtain ⟨a, b, h⟩ := ref_long (s := s) (x1 := x1) hb (by omega) 0 (by omega) 0
    have e : digsOk d = false := by simp only [digsOk, h4, decide_false, Bool.and_false, Bool.false_and]
    exact ⟨a, b, Ev.to h (by rw [e]), fun hh => by rw [e] at hh; cases hh⟩

theorem ref_step_n {s : List UInt8} (hb : s.length ≤ 1000000) : ∃ a b, Ev (fun n => go_ref02_Step n s) (a, b, readOk s) ∧ (readOk s = true → a = s.takeWhile (· != 91)) := by
  have h1 : (s.takeWhile (· != 91)).length ≤ s.length := cutAt_one 91 s
  have ht : s.take (s.takeWhile (· != 91)).length = s.takeWhile (· != 91) := take_tw
  have hsub : sub s 0 ((s.takeWhile (· != 91)).length : Int) = some (s.takeWhile (· != 91)) := by rw [sub_front h1, ht]
  suffices h : ∃ a b, Ev (fun n => go_ref02_Step_J1 n s ((s.takeWhile (· != 91)).length : Int) false) (a, b, readOk s) ∧ (readOk s = true → a = s.takeWhile (· != 91)) by
    obtain ⟨a, b, h, ha⟩ := h
    exact ⟨a, b, .succ (fun n => by rw [go_ref02_Step]) (ref_at hb h), ha⟩
  have hro : readOk s = (nameOk (s.takeWhile (· != 91)) && (!(cutAt 91 s).2.2 || ((cutAt 91 s).2.1.getLast? == some 93 && digsOk (cutAt 91 s).2.1.dropLast))) := rfl
  cases hn : nameOk (s.takeWhile (· != 91))
  · refine ⟨[], 0, .succ (fun n => by rw [go_ref02_Step_J1]) (.f rfl (.opt hsub (.bind (ref_name (s := s.takeWhile (· != 91)) (Nat.le_trans h1 (by omega))) ?_))), fun h => by rw [hro, hn] at h; cases h⟩
    refine .t (by rw [hn]; rfl) (.pure ?_)
    rw [hro, hn]; rfl
  rw [hn, Bool.true_and] at hro
  cases hc : s.any (· == 91)
  · have hcut := cut_no hc
    have hs : s.takeWhile (· != 91) = s := congrArg Prod.fst hcut
    refine ⟨s, -1, .succ (fun n => by rw [go_ref02_Step_J1]) (.f rfl (.opt hsub (.bind (ref_name (s := s.takeWhile (· != 91)) (Nat.le_trans h1 (by omega))) ?_))), fun _ => hs.symm⟩
    refine .f (by rw [hn]; rfl) (.t (by rw [hs]; simp) (.pure ?_))
    rw [hro, hcut]; rfl
  · obtain ⟨hi, _, hdrop⟩ := cut_idx hc
    have hrest : (cutAt 91 s).2.1 = s.drop ((s.takeWhile (· != 91)).length + 1) := hdrop.symm
    have h22 : (cutAt 91 s).2.2 = true := hc
    rw [h22, hrest, Bool.not_true, Bool.false_or] at hro
    have hat : s[(s.takeWhile (· != 91)).length] = 91 := by
      have h3 := List.takeWhile_append_dropWhile (p := (· != 91)) (l := s)
      cases hd : s.dropWhile (· != 91) with
      | nil => rw [hd, List.append_nil] at h3; have := congrArg List.length h3; omega
      | cons c t =>
        have h4 := List.head?_dropWhile_not (p := (· != 91)) s
        rw [hd] at h4
        have h5 : s[(s.takeWhile (· != 91)).length]? = some c := by
          rw [hd] at h3
          have h6 : (s.takeWhile (· != 91) ++ c :: t)[(s.takeWhile (· != 91)).length]? = some c := by simp
          rwa [h3] at h6
        rw [List.getElem?_eq_getElem hi] at h5
        injection h5 with h5
        rw [h5]; simpa using h4
    generalize hk : (s.takeWhile (· != 91)).length = k at *
    have hlast : ((s.length : Int) - 1) = ((s.length - 1 : Nat) : Int) := by omega
    have hl1 : s.length - 1 < s.length := by omega
    have hgl : s.getLast? = some s[s.length - 1] := by rw [List.getLast?_eq_getElem?, List.getElem?_eq_getElem hl1]
    have e93 : (((s[s.length - 1].toNat : Nat) : Int) == 93) = (s[s.length - 1] == 93) := by
      cases hc : s[s.length - 1] == 93 with
      | true => have : s[s.length - 1] = 93 := by simpa using hc
                rw [this]; rfl
      | false =>
        have hn : s[s.length - 1] ≠ 93 := by simpa using hc
        have : s[s.length - 1].toNat ≠ 93 := fun hh => hn (UInt8.toNat_inj.1 (by simpa using hh))
        simp; omega
    have hdl : (s.drop (k + 1)).getLast? = if k + 1 < s.length then s.getLast? else none := by
      rw [List.getLast?_drop]; split <;> split <;> first | rfl | omega
    cases hl : s[s.length - 1] == 93
    · have hno : readOk s = false := by
        rw [hro, hdl]
        split
        · rw [hgl]
          have : (some s[s.length - 1] == some (93 : UInt8)) = false := by simpa using hl
          rw [this]; rfl
        · rfl
      refine ⟨[], 0, .succ (fun n => by rw [go_ref02_Step_J1]) (.f rfl (.opt hsub (.bind (ref_name (s := s.takeWhile (· != 91)) (by rw [hk]; omega)) ?_))), fun h => by rw [hno] at h; cases h⟩
      refine .f (by rw [hn]; rfl) (.f (by simp; omega) ?_)
      rw [hlast, wrI (by omega) (by omega)]
      refine .opt (ix_lt hl1) (.t (by rw [e93, hl]; rfl) (.pure ?_))
      rw [hro, hdl]
      split
      · rw [hgl]
        have : (some s[s.length - 1] == some (93 : UInt8)) = false := by simpa using hl
        rw [this]; rfl
      · rfl
    · have hkk : k + 1 ≤ s.length - 1 := by
        rcases Nat.lt_or_ge k (s.length - 1) with h | h
        · exact h
        · have : k = s.length - 1 := by omega
          subst this
          rw [hat] at hl; cases hl
      have hd := ref_digits_n (s := s) (d := (s.take (s.length - 1)).drop (k + 1)) (x1 := (k : Int)) (by simp; omega) ⟨by omega, by omega⟩
      obtain ⟨a, b, hd, ha⟩ := hd
      have hdg : digsOk ((s.take (s.length - 1)).drop (k + 1)) = readOk s := by
        rw [hro, hdl, if_pos (by omega), hgl]
        have : (some s[s.length - 1] == some (93 : UInt8)) = true := by simpa using hl
        rw [this, Bool.true_and]
        congr 1
        rw [List.dropLast_eq_take, List.drop_take, List.length_drop]
        congr 1; omega
      refine ⟨a, b, .succ (fun n => by rw [go_ref02_Step_J1]) (.f rfl (.opt hsub (.bind (ref_name (s := s.takeWhile (· != 91)) (by rw [hk]; omega)) ?_))), fun h => by rw [ha (by rw [hdg]; exact h)]; simpa using ht⟩
      refine .f (by rw [hn]; rfl) (.f (by simp; omega) ?_)
      rw [hlast, wrI (by omega) (by omega)]
      refine .opt (ix_lt hl1) (.f (by rw [e93, hl]; rfl) ?_)
      rw [wrk (by omega)]
      refine .opt (sub_nat hkk (by omega)) (hd.to (by rw [hdg]))

end Go.Ab
