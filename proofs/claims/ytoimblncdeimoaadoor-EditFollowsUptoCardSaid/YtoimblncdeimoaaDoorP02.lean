/-
  THE REFERENCE OF PATHS COMES TO THE SAME.
-/
import Derived.Test.YtoimblncdeimoaaDoorPLabel
namespace Go.Ab
open Go
set_option linter.unusedVariables false
set_option linter.unusedSimpArgs false

theorem ref_letter {c : UInt8} : Ev (fun n => go_ref02_letter n (c.toNat : Int)) (isLet c) := by
  refine .same (fun n => by rw [go_ref02_letter]) ?_
  have hJ : ∀ b, Ev (fun n => go_ref02_letter_J1 n b) b := fun b => .same (fun n => by rw [go_ref02_letter_J1]) (.pure rfl)
  refine .cond (fun h => (hJ _).to ?_) fun h => (hJ _).to ?_
  · have : 97 ≤ c.toNat := by simp at h; omega
    simp [isLet, this]; omega
  · have : ¬ 97 ≤ c.toNat := by simp at h; omega
    simp [isLet, this]
theorem ref_digit {c : UInt8} : Ev (fun n => go_ref02_digit n (c.toNat : Int)) (isDig c) := by
  refine .same (fun n => by rw [go_ref02_digit]) ?_
  have hJ : ∀ b, Ev (fun n => go_ref02_digit_J1 n b) b := fun b => .same (fun n => by rw [go_ref02_digit_J1]) (.pure rfl)
  refine .cond (fun h => (hJ _).to ?_) fun h => (hJ _).to ?_
  · have : 48 ≤ c.toNat := by simp at h; omega
    simp [isDig, this]; omega
  · have : ¬ 48 ≤ c.toNat := by simp at h; omega
    simp [isDig, this]

theorem byte45 {c : UInt8} : (((c.toNat : Nat) : Int) == 45) = (c == 45) := by
  cases h : c == 45 with
  | true => have : c = 45 := by simpa using h
            subst this; rfl
  | false =>
    have : c.toNat ≠ 45 := fun hh => by
      have : c = 45 := UInt8.toNat_inj.1 (by simpa using hh)
      subst this; cases h
    simp; omega

theorem ref_name {s : List UInt8} (hb : s.length ≤ 1048576) : Ev (fun n => go_ref02_Name n s) (nameOk s) := by
  have j2 : ∀ b, Ev (fun n => go_ref02_Name_J2 n b) b := fun b => .succ (fun n => by rw [go_ref02_Name_J2]) (.pure rfl)
  have j1t : ∀ k : Int, Ev (fun n => go_ref02_Name_J1 n s k true) false := fun k => .succ (fun n => by rw [go_ref02_Name_J1]) (.t rfl (.pure rfl))
  have rest : ∀ k, k ≤ s.length → 1 ≤ k → Ev (fun n => go_ref02_Name_L1 n s (k : Int)) ((s.drop k).all isMid && decide (s.length ≤ 40)) :=
    down (Q := fun k => 1 ≤ k → Ev (fun n => go_ref02_Name_L1 n s (k : Int)) ((s.drop k).all isMid && decide (s.length ≤ 40))) (fun h1 => by
      refine .succ (fun n => by rw [go_ref02_Name_L1]) (.f (by simp) ?_)
      refine .t (by simp; omega) ((j2 _).to ?_)
      simp only [List.drop_length, List.all_nil, Bool.true_and]
      exact decide_eq_decide.2 (by omega)) fun k hk ih h1 => by
      rw [← List.getElem_cons_drop (h := hk)]
      have hJ : ∀ b, b = !isMid s[k] → Ev (fun n => go_ref02_Name_J1 n s (k : Int) b) ((s[k] :: s.drop (k + 1)).all isMid && decide (s.length ≤ 40)) := fun b hb' => by
        refine .succ (fun n => by rw [go_ref02_Name_J1]) (.cond (fun h => .pure ?_) fun h => ?_)
        · rw [h] at hb'
          rw [List.all_cons, show isMid s[k] = false by simpa using hb'.symm]; rfl
        · rw [h] at hb'
          rw [List.all_cons, show isMid s[k] = true by simpa using hb'.symm, wrk (by omega)]
          exact ih (by omega)
      refine .succ (fun n => by rw [go_ref02_Name_L1]) (.t (by simpa using hk) (.opt (ix_lt hk) (.bind ref_letter ?_)))
      refine .cond (fun h => ?_) fun h => ?_
      · rw [Bool.not_eq_true'] at h
        refine .f (by simp; omega) ?_
        rw [byte45]
        refine .cond (fun h45 => .bind ref_digit (hJ _ ?_)) fun h45 => hJ _ ?_
        · rw [Bool.not_eq_true'] at h45; simp [isMid, h, h45]
        · rw [Bool.not_eq_false'] at h45; simp [isMid, h, h45]
      · rw [Bool.not_eq_false'] at h
        exact hJ _ (by simp [isMid, h])
  refine .succ (fun n => by rw [go_ref02_Name]) ?_
  cases s with
  | nil =>
    refine Ev.to (r' := false) ?_ rfl
    refine .succ (fun n => by rw [go_ref02_Name_L1]) ?_
    refine .f rfl ?_
    refine .f rfl ?_
    exact j2 _
  | cons c t =>
    have hz : (0 : Nat) < (c :: t).length := by simp
    refine .succ (fun n => by rw [go_ref02_Name_L1]) ?_
    refine .t (by simp) ?_
    refine .opt (y := c) rfl ?_
    refine .bind ref_letter ?_
    refine .cond (fun h => ?_) fun h => ?_
    · rw [Bool.not_eq_true'] at h
      refine .t rfl ((j1t _).to ?_)
      simp [nameOk, h]
    · rw [Bool.not_eq_false'] at h
      refine .succ (fun n => by rw [go_ref02_Name_J1]) (.f rfl ?_)
      have := rest 1 (by simp) (Nat.le_refl _)
      refine Ev.to this ?_
      simp only [List.drop_one, List.tail_cons, nameOk, h, Bool.true_and]

/-! ### steps -/
theorem byte48 {c : UInt8} {d : List UInt8} : (((c.toNat : Nat) : Int) == 48) = ((c :: d).head? == some 48) := by
  cases hc : (c :: d).head? == some 48 with
  | true => have : c = 48 := by simpa using hc
            subst this; rfl
  | false =>
    have hn : c ≠ 48 := by simpa using hc
    have : c.toNat ≠ 48 := fun hh => hn (UInt8.toNat_inj.1 (by simpa using hh))
    simp; omega

/-- one digit -/
theorem digit_step {s d : List UInt8} {x1 x27 : Int} (hb : d.length ≤ 1048576) {k : Nat} (hk : k < d.length) {a : List UInt8} {b : Int} {r : Bool}
    (hg : isDig d[k] = true → ¬ 3 < k → Ev (fun n => go_ref02_Step_L2 n s x1 d (IntKind.i64.wrap ((IntKind.i64.wrap (10 * x27)) + (IntKind.i64.wrap (IntKind.u8.wrap (((d[k].toNat : Nat) : Int) - 48))))) ((k + 1 : Nat) : Int)) (a, b, r))
    (hbad : (isDig d[k] = false ∨ 3 < k) → r = false) : ∃ a b, Ev (fun n => go_ref02_Step_L2 n s x1 d x27 k) (a, b, r) := by
  have bad : r = false → Ev (fun n => go_ref02_Step_J2 n s x1 d x27 k true) ([], 0, r) := fun h => by
    rw [h]
    refine .succ (fun n => by rw [go_ref02_Step_J2]) ?_
    exact .t rfl (.pure rfl)
  cases hd : isDig d[k]
  · refine ⟨[], 0, .succ (fun n => by rw [go_ref02_Step_L2]) ?_⟩
    refine .t (by simpa using hk) (.opt (ix_lt hk) (.bind ref_digit ?_))
    refine .t (by rw [hd]; rfl) ?_
    exact bad (hbad (.inl hd))
  · by_cases h3 : 3 < k
    · refine ⟨[], 0, .succ (fun n => by rw [go_ref02_Step_L2]) ?_⟩
      refine .t (by simpa using hk) (.opt (ix_lt hk) (.bind ref_digit ?_))
      refine .f (by rw [hd]; rfl) ?_
      rw [show decide ((3 : Int) < (k : Int)) = true by simp; omega]
      exact bad (hbad (.inr h3))
    · refine ⟨a, b, .succ (fun n => by rw [go_ref02_Step_L2]) ?_⟩
      refine .t (by simpa using hk) (.opt (ix_lt hk) (.bind ref_digit ?_))
      refine .f (by rw [hd]; rfl) ?_
      rw [show decide ((3 : Int) < (k : Int)) = false by simp; omega]
      refine .succ (fun n => by rw [go_ref02_Step_J2]) ?_
      refine .f rfl (.opt (ix_lt hk) ?_)
      rw [wrk (by omega)]
      exact hg hd h3

def digFin (d : List UInt8) : Bool := decide (1 ≤ d.length) && !(d.head? == some 48 && decide (1 < d.length))
theorem ref_short {s d : List UInt8} {x1 : Int} (h4 : d.length ≤ 4) (h1 : 0 ≤ x1 ∧ x1 ≤ s.length) : ∀ k, k ≤ d.length → ∀ x27, ∃ a b, Ev (fun n => go_ref02_Step_L2 n s x1 d x27 k) (a, b, (d.drop k).all isDig && digFin d) :=
  down (fun x27 => by
    have hJ : ∀ c, ∃ a b, Ev (fun n => go_ref02_Step_J3 n s x1 x27 c) (a, b, !c) := fun c => by
      cases c
      · refine ⟨s.take x1.toNat, x27, .succ (fun n => by rw [go_ref02_Step_J3]) ?_⟩
        refine .f rfl ?_
        refine .opt (y := s.take x1.toNat) ?_ (.pure rfl)
        have := sub_front (l := s) (hi := x1.toNat) (by omega)
        rwa [Int.toNat_of_nonneg h1.1] at this
      · refine ⟨[], 0, .succ (fun n => by rw [go_ref02_Step_J3]) ?_⟩
        exact .t rfl (.pure rfl)
    cases d with
    | nil =>
      obtain ⟨a, b, h⟩ := hJ true
      refine ⟨a, b, .succ (fun n => by rw [go_ref02_Step_L2]) ?_⟩
      refine .f rfl ?_
      exact .t rfl h
    | cons c d =>
      have e1 : decide (1 ≤ (c :: d).length) = true := by simp
      by_cases hl : 1 < (c :: d).length
      · obtain ⟨a, b, h⟩ := hJ (((c.toNat : Nat) : Int) == 48)
        refine ⟨a, b, .succ (fun n => by rw [go_ref02_Step_L2]) (.f (by simp) ?_)⟩
        refine .f (by simp; omega) (.t (by simp only [decide_eq_true_eq]; omega) (.opt (y := c) rfl ?_))
        refine h.to ?_
        rw [byte48 (d := d)]
        simp only [digFin, List.drop_length, List.all_nil, hl, e1, decide_true, Bool.true_and, Bool.and_true]
      · obtain ⟨a, b, h⟩ := hJ false
        refine ⟨a, b, .succ (fun n => by rw [go_ref02_Step_L2]) (.f (by simp) ?_)⟩
        refine .f (by simp; omega) (.f (by simp only [decide_eq_false_iff_not]; omega) ?_)
        refine h.to ?_
        simp only [digFin, List.drop_length, List.all_nil, hl, e1, decide_true, decide_false, Bool.and_false, Bool.not_false, Bool.true_and]) fun k hk ih x27 => by
    obtain ⟨a, b, h⟩ := ih (IntKind.i64.wrap ((IntKind.i64.wrap (10 * x27)) + (IntKind.i64.wrap (IntKind.u8.wrap (((d[k].toNat : Nat) : Int) - 48)))))
    rw [← List.getElem_cons_drop (h := hk)]
    refine digit_step (by omega) hk (fun hd _ => h.to (by rw [List.all_cons, hd, Bool.true_and])) fun hh => ?_
    rcases hh with hh | hh
    · rw [List.all_cons, hh]; rfl
    · omega
theorem ref_long {s d : List UInt8} {x1 : Int} (hb : d.length ≤ 1048576) (h4 : 4 < d.length) : ∀ k : Nat, k ≤ 4 → ∀ x27, ∃ a b, Ev (fun n => go_ref02_Step_L2 n s x1 d x27 k) (a, b, false) :=
  down (fun x27 => digit_step (a := []) (b := 0) hb (k := 4) (by omega) (fun _ h => absurd (by decide) h) fun _ => rfl) fun k hk ih x27 => by
    obtain ⟨a, b, h⟩ := ih (IntKind.i64.wrap ((IntKind.i64.wrap (10 * x27)) + (IntKind.i64.wrap (IntKind.u8.wrap ((((d[k]'(by omega)).toNat : Nat) : Int) - 48)))))
    exact digit_step hb (k := k) (by omega) (fun _ _ => h) fun _ => rfl
theorem ref_digits {s d : List UInt8} {x1 : Int} (hb : d.length ≤ 1048576) (h1 : 0 ≤ x1 ∧ x1 ≤ s.length) : ∃ a b, Ev (fun n => go_ref02_Step_L2 n s x1 d 0 0) (a, b, digsOk d) := by
  by_cases h4 : d.length ≤ 4
  · obtain ⟨a, b, h⟩ := ref_short (x1 := x1) h4 h1 0 (Nat.zero_le _) 0
    refine ⟨a, b, Ev.to h ?_⟩
    simp only [digFin, digsOk, h4, List.drop_zero, decide_true, Bool.and_true]
    congr 2
    rw [Bool.and_comm]
  · obtain ⟨a, b, h⟩ := ref_long (s := s) (x1 := x1) hb (by omega) 0 (by omega) 0
    refine ⟨a, b, Ev.to h ?_⟩
    simp only [digsOk, h4, decide_false, Bool.and_false, Bool.false_and]

/-! ### cutting -/
def pa (p : List UInt8) : List UInt8 → List (List UInt8)
  | [] => [p]
  | c :: t => if c == 47 then p :: pa [] t else pa (p ++ [c]) t
theorem pa_eq : ∀ (t p : List UInt8), ∃ h r, parts 47 t = h :: r ∧ pa p t = (p ++ h) :: r
  | [], p => ⟨[], [], rfl, by simp [pa]⟩
  | c :: t, p => by
    cases hc : c == 47
    · obtain ⟨h, r, h1, h2⟩ := pa_eq t (p ++ [c])
      refine ⟨c :: h, r, by rw [parts, hc, h1]; rfl, by rw [pa, hc]; simp [h2]⟩
    · obtain ⟨h, r, h1, h2⟩ := pa_eq t []
      refine ⟨[], h :: r, by rw [parts, hc, h1]; rfl, by rw [pa, hc]; simp [h2]⟩
theorem pa_nil (t : List UInt8) : pa [] t = parts 47 t := by
  obtain ⟨h, r, h1, h2⟩ := pa_eq t []
  rw [h1, h2]; rfl

theorem ref_cut {s : List UInt8} (hb : s.length ≤ 1000000) : Ev (fun n => go_ref02_Cut n s) (steps s) := by
  have loop : ∀ k, k ≤ s.length → ∀ (f : Nat) (l : List (List UInt8)), f ≤ k → l.length ≤ k → Ev (fun n => go_ref02_Cut_L1 n s l (f : Int) (k : Int)) (l ++ pa ((s.take k).drop f) (s.drop k)) :=
    down (fun f l hf hl => by
      refine .succ (fun n => by rw [go_ref02_Cut_L1]) (.t (by simp) (.t (by simp) ?_))
      refine .succ (fun n => by rw [go_ref02_Cut_J1]) (.t rfl ?_)
      refine .opt (sub_nat hf (Nat.le_refl _)) (.opt (ext_ok (by simp; omega)) ?_)
      refine .succ (fun n => by rw [go_ref02_Cut_J2]) ?_
      rw [wrk (by omega)]
      refine .succ (fun n => by rw [go_ref02_Cut_L1]) (.f (by simp; omega) (.pure ?_))
      simp [pa]) fun k hk ih f l hf hl => by
      rw [← List.getElem_cons_drop (h := hk), pa]
      refine .succ (fun n => by rw [go_ref02_Cut_L1]) (.t (by simp; omega) (.f (by simp; omega) (.opt (ix_lt hk) ?_)))
      refine .succ (fun n => by rw [go_ref02_Cut_J1]) ?_
      have e47 : (((s[k].toNat : Nat) : Int) == 47) = (s[k] == 47) := by
        cases hc : s[k] == 47 with
        | true => have : s[k] = 47 := by simpa using hc
                  rw [this]; rfl
        | false =>
          have hn : s[k] ≠ 47 := by simpa using hc
          have : s[k].toNat ≠ 47 := fun hh => hn (UInt8.toNat_inj.1 (by simpa using hh))
          simp; omega
      rw [e47]
      refine .cond (fun h => ?_) fun h => ?_
      · refine .opt (sub_nat hf (by omega)) (.opt (ext_ok (by simp; omega)) ?_)
        refine .succ (fun n => by rw [go_ref02_Cut_J2]) ?_
        rw [wrk (by omega)]
        refine (ih (k + 1) _ (Nat.le_refl _) (by simp; omega)).to ?_
        rw [h, if_pos rfl, List.append_assoc]
        rw [show (s.take (k + 1)).drop (k + 1) = [] from List.drop_of_length_le (by rw [List.length_take]; omega)]
        rfl
      · refine .succ (fun n => by rw [go_ref02_Cut_J2]) ?_
        rw [wrk (by omega)]
        refine (ih f l (by omega) (by omega)).to ?_
        rw [h, if_neg (by simp)]
        congr 2
        rw [List.take_add_one, List.getElem?_eq_getElem hk, List.drop_append_of_le_length (by simp; omega)]
        rfl
  refine .succ (fun n => by rw [go_ref02_Cut]) ?_
  refine .cond (fun h => .pure ?_) fun h => ?_
  · unfold steps; rw [h]; rfl
  · refine (loop 0 (Nat.zero_le _) 0 [] (Nat.le_refl _) (Nat.le_refl _)).to ?_
    unfold steps; rw [h]
    simp [pa_nil]

theorem mem_tw {α : Type} {p : α → Bool} : ∀ {s : List α} {x : α}, x ∈ s.takeWhile p → p x = true
  | [], x, h => by simp at h
  | c :: t, x, h => by
    rw [List.takeWhile_cons] at h
    split at h
    · rcases List.mem_cons.1 h with rfl | h
      · assumption
      · exact mem_tw h
    · cases h
theorem take_tw {α : Type} {p : α → Bool} : ∀ {s : List α}, s.take (s.takeWhile p).length = s.takeWhile p
  | [] => rfl
  | c :: t => by
    rw [List.takeWhile_cons]
    split
    · simp [take_tw (s := t)]
    · rfl
theorem ref_at {s : List UInt8} (hb : s.length ≤ 1000000) {r : List UInt8 × Int × Bool} (h : Ev (fun n => go_ref02_Step_J1 n s ((s.takeWhile (· != 91)).length : Int) false) r) : Ev (fun n => go_ref02_Step_L1 n s 0) r := by
  have tw : ∀ (k : Nat) (hk : k < (s.takeWhile (· != 91)).length), ∃ h : k < s.length, (s[k] != 91) = true := fun k hk => by
    have hl := (List.takeWhile_sublist (l := s) (· != 91)).length_le
    refine ⟨by omega, ?_⟩
    have h1 : (s.takeWhile (· != 91))[k]'hk ∈ s.takeWhile (· != 91) := List.getElem_mem hk
    have h2 := mem_tw h1
    have e : (s.takeWhile (· != 91))[k]'hk = s[k]'(by omega) := by
      have h3 := List.takeWhile_append_dropWhile (p := (· != 91)) (l := s)
      have h4 : (s.takeWhile (· != 91) ++ s.dropWhile (· != 91))[k]? = s[k]? := by rw [h3]
      rw [List.getElem?_append_left hk, List.getElem?_eq_getElem hk, List.getElem?_eq_getElem (by omega)] at h4
      simpa using h4
    rwa [e] at h2
  have e91 : ∀ c : UInt8, (!(((c.toNat : Nat) : Int) == 91)) = (c != 91) := fun c => by
    cases hc : c == 91 with
    | true => have : c = 91 := by simpa using hc
              subst this; rfl
    | false =>
      have hn : c ≠ 91 := by simpa using hc
      have : c.toNat ≠ 91 := fun hh => hn (UInt8.toNat_inj.1 (by simpa using hh))
      simp [bne, hc]; omega
  have := down (len := (s.takeWhile (· != 91)).length) (Q := fun k => Ev (fun n => go_ref02_Step_L1 n s (k : Int)) r) (by
      by_cases hl : (s.takeWhile (· != 91)).length < s.length
      · refine .succ (fun n => by rw [go_ref02_Step_L1]) (.t (by simpa using hl) (.opt (ix_lt hl) ?_))
        rw [e91]
        have hc : (s[(s.takeWhile (· != 91)).length] != 91) = false := by
          have h3 := List.takeWhile_append_dropWhile (p := (· != 91)) (l := s)
          cases hd : s.dropWhile (· != 91) with
          | nil => rw [hd, List.append_nil] at h3; have := congrArg List.length h3; omega
          | cons c t =>
            have h4 := List.head?_dropWhile_not (p := (· != 91)) s
            rw [hd] at h4
            have h5 : s[(s.takeWhile (· != 91)).length]? = some c := by
              rw [hd] at h3
              have h6 : (s.takeWhile (· != 91) ++ c :: t)[(s.takeWhile (· != 91)).length]? = some c := by simp
              rwa [h3] at h6
            rw [List.getElem?_eq_getElem hl] at h5
            injection h5 with h5
            rw [h5]
            simpa using h4
        rw [hc]; exact h
      · have hl' : (s.takeWhile (· != 91)).length = s.length := by have := (List.takeWhile_sublist (l := s) (· != 91)).length_le; omega
        refine .succ (fun n => by rw [go_ref02_Step_L1]) (.f (by rw [hl']; simp) h)) (fun k hk ih => by
      obtain ⟨h1, h2⟩ := tw k hk
      refine .succ (fun n => by rw [go_ref02_Step_L1]) (.t (by simpa using h1) (.opt (ix_lt h1) ?_))
      rw [e91, h2]
      refine .succ (fun n => by rw [go_ref02_Step_J1]) (.t rfl ?_)
      rw [wrk (by omega)]; exact ih) 0 (Nat.zero_le _)
  exact this

theorem ref_step {s : List UInt8} (hb : s.length ≤ 1000000) : ∃ a b, Ev (fun n => go_ref02_Step n s) (a, b, readOk s) := by
  have h1 : (s.takeWhile (· != 91)).length ≤ s.length := cutAt_one 91 s
  have ht : s.take (s.takeWhile (· != 91)).length = s.takeWhile (· != 91) := take_tw
  have hsub : sub s 0 ((s.takeWhile (· != 91)).length : Int) = some (s.takeWhile (· != 91)) := by rw [sub_front h1, ht]
  suffices h : ∃ a b, Ev (fun n => go_ref02_Step_J1 n s ((s.takeWhile (· != 91)).length : Int) false) (a, b, readOk s) by
    obtain ⟨a, b, h⟩ := h
    exact ⟨a, b, .succ (fun n => by rw [go_ref02_Step]) (ref_at hb h)⟩
  have hro : readOk s = (nameOk (s.takeWhile (· != 91)) && (!(cutAt 91 s).2.2 || ((cutAt 91 s).2.1.getLast? == some 93 && digsOk (cutAt 91 s).2.1.dropLast))) := rfl
  cases hn : nameOk (s.takeWhile (· != 91))
  · refine ⟨[], 0, .succ (fun n => by rw [go_ref02_Step_J1]) (.f rfl (.opt hsub (.bind (ref_name (s := s.takeWhile (· != 91)) (Nat.le_trans h1 (by omega))) ?_)))⟩
    refine .t (by rw [hn]; rfl) (.pure ?_)
    rw [hro, hn]; rfl
  rw [hn, Bool.true_and] at hro
  cases hc : s.any (· == 91)
  · have hcut := cut_no hc
    have hs : s.takeWhile (· != 91) = s := congrArg Prod.fst hcut
    refine ⟨s, -1, .succ (fun n => by rw [go_ref02_Step_J1]) (.f rfl (.opt hsub (.bind (ref_name (s := s.takeWhile (· != 91)) (Nat.le_trans h1 (by omega))) ?_)))⟩
    refine .f (by rw [hn]; rfl) (.t (by rw [hs]; simp) (.pure ?_))
    rw [hro, hcut]; rfl
  · obtain ⟨hi, _, hdrop⟩ := cut_idx hc
    have hrest : (cutAt 91 s).2.1 = s.drop ((s.takeWhile (· != 91)).length + 1) := hdrop.symm
    have h22 : (cutAt 91 s).2.2 = true := hc
    rw [h22, hrest, Bool.not_true, Bool.false_or] at hro
    have hat : s[(s.takeWhile (· != 91)).length] = 91 := by
      have h3 := List.takeWhile_append_dropWhile (p := (· != 91)) (l := s)
      cases hd : s.dropWhile (· != 91) with
      | nil => rw [hd, List.append_nil] at h3; have := congrArg List.length h3; omega
      | cons c t =>
        have h4 := List.head?_dropWhile_not (p := (· != 91)) s
        rw [hd] at h4
        have h5 : s[(s.takeWhile (· != 91)).length]? = some c := by
          rw [hd] at h3
          have h6 : (s.takeWhile (· != 91) ++ c :: t)[(s.takeWhile (· != 91)).length]? = some c := by simp
          rwa [h3] at h6
        rw [List.getElem?_eq_getElem hi] at h5
        injection h5 with h5
        rw [h5]; simpa using h4
    generalize hk : (s.takeWhile (· != 91)).length = k at *
    have hlast : ((s.length : Int) - 1) = ((s.length - 1 : Nat) : Int) := by omega
    have hl1 : s.length - 1 < s.length := by omega
    have hgl : s.getLast? = some s[s.length - 1] := by rw [List.getLast?_eq_getElem?, List.getElem?_eq_getElem hl1]
    have e93 : (((s[s.length - 1].toNat : Nat) : Int) == 93) = (s[s.length - 1] == 93) := by
      cases hc : s[s.length - 1] == 93 with
      | true => have : s[s.length - 1] = 93 := by simpa using hc
                rw [this]; rfl
      | false =>
        have hn : s[s.length - 1] ≠ 93 := by simpa using hc
        have : s[s.length - 1].toNat ≠ 93 := fun hh => hn (UInt8.toNat_inj.1 (by simpa using hh))
        simp; omega
    have hdl : (s.drop (k + 1)).getLast? = if k + 1 < s.length then s.getLast? else none := by
      rw [List.getLast?_drop]; split <;> split <;> first | rfl | omega
    cases hl : s[s.length - 1] == 93
    · refine ⟨[], 0, .succ (fun n => by rw [go_ref02_Step_J1]) (.f rfl (.opt hsub (.bind (ref_name (s := s.takeWhile (· != 91)) (by rw [hk]; omega)) ?_)))⟩
      refine .f (by rw [hn]; rfl) (.f (by simp; omega) ?_)
      rw [hlast, wrI (by omega) (by omega)]
      refine .opt (ix_lt hl1) (.t (by rw [e93, hl]; rfl) (.pure ?_))
      rw [hro, hdl]
      split
      · rw [hgl]
        have : (some s[s.length - 1] == some (93 : UInt8)) = false := by simpa using hl
        rw [this]; rfl
      · rfl
    · have hkk : k + 1 ≤ s.length - 1 := by
        rcases Nat.lt_or_ge k (s.length - 1) with h | h
        · exact h
        · have : k = s.length - 1 := by omega
          subst this
          rw [hat] at hl; cases hl
      have hd := ref_digits (s := s) (d := (s.take (s.length - 1)).drop (k + 1)) (x1 := (k : Int)) (by simp; omega) ⟨by omega, by omega⟩
      obtain ⟨a, b, hd⟩ := hd
      refine ⟨a, b, .succ (fun n => by rw [go_ref02_Step_J1]) (.f rfl (.opt hsub (.bind (ref_name (s := s.takeWhile (· != 91)) (by rw [hk]; omega)) ?_)))⟩
      refine .f (by rw [hn]; rfl) (.f (by simp; omega) ?_)
      rw [hlast, wrI (by omega) (by omega)]
      refine .opt (ix_lt hl1) (.f (by rw [e93, hl]; rfl) ?_)
      rw [wrk (by omega)]
      refine .opt (sub_nat hkk (by omega)) (hd.to ?_)
      rw [hro, hdl, if_pos (by omega), hgl]
      have : (some s[s.length - 1] == some (93 : UInt8)) = true := by simpa using hl
      rw [this, Bool.true_and]
      congr 4
      rw [List.dropLast_eq_take, List.drop_take, List.length_drop]
      congr 1; omega

theorem ref_check {s : List UInt8} : Ev (fun n => go_ref02_Check n s) (labelCheck s) := by
  refine .succ (fun n => by rw [go_ref02_Check]) ?_
  refine .cond (fun h => .pure ?_) fun h => ?_
  · have : 4000 < s.length := by simp at h; omega
    simp [labelCheck, this]
  · have h4 : ¬ 4000 < s.length := by simp at h; omega
    refine .bind (ref_cut (by omega)) ?_
    refine .cond (fun h => .pure ?_) fun h => ?_
    · have : 40 < (steps s).length := by simp at h; omega
      simp [labelCheck, h4, this]
    · have h40 : ¬ 40 < (steps s).length := by simp at h; omega
      have := down (len := (steps s).length) (Q := fun k => Ev (fun n => go_ref02_Check_L1 n (steps s) (k : Int)) (if ((steps s).drop k).all readOk then 0 else 12)) (by
          refine .succ (fun n => by rw [go_ref02_Check_L1]) (.f (by simp) (.pure ?_))
          simp) (fun k hk ih => by
          rw [← List.getElem_cons_drop (h := hk)]
          obtain ⟨a, b, hst⟩ := ref_step (s := (steps s)[k]) (by have := steps_len (List.getElem_mem hk); omega)
          refine .succ (fun n => by rw [go_ref02_Check_L1]) (.t (by simpa using hk) (.opt (ix_lt hk) (.bind hst ?_)))
          refine .cond (fun h => .pure ?_) fun h => ?_
          · have : readOk (steps s)[k] = false := by simpa using h
            rw [List.all_cons, this]; rfl
          · have : readOk (steps s)[k] = true := by simpa using h
            rw [List.all_cons, this, wrk (by omega)]; exact ih) 0 (Nat.zero_le _)
      refine Ev.to this ?_
      simp only [labelCheck, h4, h40, if_false, List.drop_zero]
end Go.Ab
