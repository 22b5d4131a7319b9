/-
  OVERRIDES: WHAT IS WELL FORMED.
-/
import Derived.Test.YtoimblncdeimoaaDoorP02n
namespace Go.Ab
open Go
set_option linter.unusedVariables false
set_option linter.unusedSimpArgs false

theorem GOver.size_pos (v : GOver) : 1 ≤ v.size := by rw [GOver.size_eq]; omega
theorem great30_ev {l : List GOver} (hb : (l.map GOver.size).sum ≤ 1048576) : ∃ b, Ev (fun n => go_ref30_Great n l) b := by
  have hlen := len_le_sum' (l := l) (f := GOver.size) fun x _ => x.size_pos
  have hl := down (len := l.length) (Q := fun k => ∃ b, Ev (fun n => go_ref30_Great_L1 n l (k : Int)) b) (by
      exact ⟨_, .succ (fun n => by rw [go_ref30_Great_L1]) (.f (by simp) (.pure rfl))⟩) (fun k hk ih => by
      obtain ⟨r, hr⟩ := ih
      have j : ∀ c, ∃ b, Ev (fun n => go_ref30_Great_J1 n l (k : Int) c) b := fun c => by
        cases c
        · refine ⟨r, .succ (fun n => by rw [go_ref30_Great_J1]) ?_⟩
          refine .f rfl ?_
          rw [wrk (by omega)]; exact hr
        · exact ⟨true, .succ (fun n => by rw [go_ref30_Great_J1]) (.t rfl (.pure rfl))⟩
      obtain ⟨b1, h1⟩ := j true
      obtain ⟨b2, h2⟩ := j (decide (200 < (l[k].name.length : Int)))
      cases e1 : decide (5000 < (l[k].path.length : Int))
      · refine ⟨b2, .succ (fun n => by rw [go_ref30_Great_L1]) ?_⟩
        exact .t (by simpa using hk) (.opt (ix_lt hk) (.f e1 h2))
      · refine ⟨b1, .succ (fun n => by rw [go_ref30_Great_L1]) ?_⟩
        exact .t (by simpa using hk) (.opt (ix_lt hk) (.t e1 h1))) 0 (Nat.zero_le _)
  obtain ⟨b, h⟩ := hl
  exact ⟨b, .succ (fun n => by rw [go_ref30_Great]; rfl) h⟩

/-! ### what is well formed -/
def plainC (c : UInt8) : Bool := decide (32 ≤ c.toNat) && decide (c.toNat ≤ 126)
def overOk (o : GOver) : Bool :=
  (labelCheck o.path == 0 && !(o.path == [])) &&
    (if o.kind == 1 then o.name == [] else if o.kind == 2 then nameOk o.name else if o.kind == 3 then decide (o.name.length ≤ 60) && o.name.all plainC else false)
def formedL (l : List GOver) : Int := if 60 < l.length then 4 else if l.all overOk then 0 else 8

theorem nil_len {s : List UInt8} : ((s.length : Int) == 0) = (s == []) := by
  cases s
  · rfl
  · simp; omega

theorem ref_formed {o : GOver} (hb : o.size ≤ 1048576) : Ev (fun n => go_ref30_formed n o) (overOk o) := by
  have hsz := o.size_eq
  have h1 : o.path.length ≤ 1048576 := by omega
  have h2 : o.name.length ≤ 1048576 := by omega
  have jt : Ev (fun n => go_ref30_formed_J1 n o true) false := .succ (fun n => by rw [go_ref30_formed_J1]) (.t rfl (.pure rfl))
  have jf : Ev (fun n => go_ref30_formed_J1 n o false) (if o.kind == 1 then o.name == [] else if o.kind == 2 then nameOk o.name else if o.kind == 3 then decide (o.name.length ≤ 60) && o.name.all plainC else false) := by
    refine .succ (fun n => by rw [go_ref30_formed_J1]) ?_
    refine .f rfl ?_
    refine .cond (fun h => .pure (by rw [if_pos h, nil_len])) fun h => ?_
    rw [if_neg (by rw [h]; decide)]
    refine .cond (fun h => .bind (ref_name (by omega)) (.pure (by rw [if_pos h]))) fun h => ?_
    rw [if_neg (by rw [h]; decide)]
    refine .cond (fun h => ?_) fun h => .pure (by rw [if_neg (by rw [h]; decide)])
    rw [if_pos h]
    have hl := down (len := o.name.length) (Q := fun k => Ev (fun n => go_ref30_formed_L1 n o (k : Int)) (decide (o.name.length ≤ 60) && (o.name.drop k).all plainC)) (by
        refine .succ (fun n => by rw [go_ref30_formed_L1]) (.f (by simp) (.pure ?_))
        simp; omega) (fun k hk ih => by
        rw [← List.getElem_cons_drop (h := hk)]
        refine .succ (fun n => by rw [go_ref30_formed_L1]) (.t (by simpa using hk) (.opt (ix_lt hk) ?_))
        have j : ∀ b, b = !plainC o.name[k] → Ev (fun n => go_ref30_formed_J2 n o (k : Int) b) (decide (o.name.length ≤ 60) && (o.name[k] :: o.name.drop (k + 1)).all plainC) := fun b hb => by
          refine .succ (fun n => by rw [go_ref30_formed_J2]) ?_
          refine .cond (fun h => .pure ?_) fun h => ?_
          · rw [h] at hb
            rw [List.all_cons, show plainC o.name[k] = false by simpa using hb.symm, Bool.false_and, Bool.and_false]
          · rw [h] at hb
            rw [List.all_cons, show plainC o.name[k] = true by simpa using hb.symm, Bool.true_and, wrk (by omega)]
            exact ih
        refine .cond (fun h => j _ ?_) fun h => j _ ?_
        · have : ¬ 32 ≤ o.name[k].toNat := by simp at h; omega
          simp [plainC, this]
        · have : 32 ≤ o.name[k].toNat := by simp at h; omega
          simp only [plainC, this, decide_true, Bool.true_and]
          rw [← decide_not]
          exact decide_eq_decide.2 (by omega)) 0 (Nat.zero_le _)
    exact hl
  refine .succ (fun n => by rw [go_ref30_formed]) ?_
  refine .bind (ref_check) ?_
  refine .cond (fun h => jt.to ?_) fun h => ?_
  · have : (labelCheck o.path == 0) = false := by simpa using h
    simp [overOk, this]
  · have h0 : (labelCheck o.path == 0) = true := by simpa using h
    rw [nil_len]
    cases hp : o.path == []
    · refine jf.to ?_
      simp only [overOk, h0, hp, Bool.not_false, Bool.and_self, Bool.true_and]
    · refine jt.to ?_
      simp only [overOk, h0, hp, Bool.not_true, Bool.and_false, Bool.false_and]

theorem ref_Formed {l : List GOver} (hb : (l.map GOver.size).sum ≤ 1048576) : Ev (fun n => go_ref30_Formed n l) (formedL l) := by
  have hlen := len_le_sum' (l := l) (f := GOver.size) fun x _ => x.size_pos
  refine .succ (fun n => by rw [go_ref30_Formed]) ?_
  refine .cond (fun h => .pure ?_) fun h => ?_
  · have : 60 < l.length := by simp at h; omega
    simp [formedL, this]
  · have h60 : ¬ 60 < l.length := by simp at h; omega
    have hl := down (len := l.length) (Q := fun k => Ev (fun n => go_ref30_Formed_L1 n l (k : Int)) (if (l.drop k).all overOk then 0 else 8)) (by
        refine .succ (fun n => by rw [go_ref30_Formed_L1]) (.f (by simp) (.pure (by simp)))) (fun k hk ih => by
        rw [← List.getElem_cons_drop (h := hk)]
        have hm := mem_le_sum' (f := GOver.size) (List.getElem_mem hk)
        refine .succ (fun n => by rw [go_ref30_Formed_L1]) (.t (by simpa using hk) (.opt (ix_lt hk) (.bind (ref_formed (o := l[k]) (by omega)) ?_)))
        refine .cond (fun h => .pure ?_) fun h => ?_
        · rw [List.all_cons, show overOk l[k] = false by simpa using h]; rfl
        · rw [List.all_cons, show overOk l[k] = true by simpa using h, Bool.true_and, wrk (by omega)]; exact ih) 0 (Nat.zero_le _)
    refine Ev.to hl ?_
    simp only [formedL, h60, if_false, List.drop_zero]

/-! ### the program's own -/
theorem own_index {s : List UInt8} (hb : s.length ≤ 1048576) : ∃ i, Ev (fun n => go_strings_IndexFunc__override_formed_1 n s) i ∧ (decide (i < 0) = s.all plainC) := by
  have odd : ∀ r : Nat, Ev (fun n => go_override_formed_1 n (r : Int)) (!(decide (32 ≤ r) && decide (r ≤ 126))) := fun r => by
    have j : ∀ b, Ev (fun n => go_override_formed_1_J1 n b) b := fun b => .same (fun n => by rw [go_override_formed_1_J1]) (.pure rfl)
    refine .same (fun n => by rw [go_override_formed_1]) ?_
    refine .cond (fun h => (j _).to ?_) fun h => (j _).to ?_
    · have : ¬ 32 ≤ r := by simp at h; omega
      simp [this]
    · have : 32 ≤ r := by simp at h; omega
      simp only [this, decide_true, Bool.true_and]
      rw [← decide_not]
      exact decide_eq_decide.2 (by omega)
  have hl := down (len := s.length) (Q := fun k => ∃ i, Ev (fun n => go_strings_indexFunc__override_formed_1_L1 n s true k) i ∧ (decide (i < 0) = (s.drop k).all plainC)) (by
      refine ⟨-1, .succ (fun n => by rw [go_strings_indexFunc__override_formed_1_L1]) (.f (by simp) (.pure rfl)), by simp⟩) (fun k hk ih => by
      obtain ⟨i, hi, hi2⟩ := ih
      rw [← List.getElem_cons_drop (h := hk)]
      by_cases hp : plainC s[k] = true
      · have hp' : 32 ≤ s[k].toNat ∧ s[k].toNat ≤ 126 := by simpa [plainC] using hp
        have e := decL_low hk (by omega)
        refine ⟨i, ?_, by rw [List.all_cons, hp, Bool.true_and]; exact hi2⟩
        refine .succ (fun n => by rw [go_strings_indexFunc__override_formed_1_L1]) ?_
        refine .t (by simpa using hk) (.bind (odd _) ?_)
        refine .f (by rw [e]; simp; omega) ?_
        rw [e]; exact hi
      · rw [Bool.not_eq_true] at hp
        refine ⟨(k : Int), ?_, by rw [List.all_cons, hp, Bool.false_and]; simp⟩
        refine .succ (fun n => by rw [go_strings_indexFunc__override_formed_1_L1]) ?_
        refine .t (by simpa using hk) (.bind (odd _) (.t ?_ (.pure rfl)))
        by_cases hlow : s[k].toNat < 128
        · rw [decL_low hk hlow]
          have : (decide (32 ≤ s[k].toNat) && decide (s[k].toNat ≤ 126)) = false := hp
          simp only [this]; rfl
        · have := (decL_high hk (by omega)).1
          rw [show decide ((decL s k).1 ≤ 126) = false by simp; omega]; simp) 0 (Nat.zero_le _)
  obtain ⟨i, h1, h2⟩ := hl
  refine ⟨i, .same (fun n => by rw [go_strings_IndexFunc__override_formed_1]) ?_, h2⟩
  refine .bind (y := i) ?_ (.pure rfl)
  exact .succ (fun n => by rw [go_strings_indexFunc__override_formed_1]) h1

theorem own_formed {l : List GOver} (hb : (l.map GOver.size).sum ≤ 1048576) : Ev (fun n => go_override_formed n l) (formedL l) := by
  have hlen := len_le_sum' (l := l) (f := GOver.size) fun x _ => x.size_pos
  refine .succ (fun n => by rw [go_override_formed]) ?_
  refine .cond (fun h => .pure ?_) fun h => ?_
  · have : 60 < l.length := by simp at h; omega
    simp [formedL, this]
  · have h60 : ¬ 60 < l.length := by simp at h; omega
    have hl := down (len := l.length) (Q := fun k => Ev (fun n => go_override_formed_L1 n l (k : Int)) (if (l.drop k).all overOk then 0 else 8)) (by
        refine .succ (fun n => by rw [go_override_formed_L1]) (.f (by simp) (.pure (by simp)))) (fun k hk ih => by
        rw [← List.getElem_cons_drop (h := hk)]
        have hm := mem_le_sum' (f := GOver.size) (List.getElem_mem hk)
        have hsz := (l[k]).size_eq
        have j2 : ∀ b, b = overOk l[k] → Ev (fun n => go_override_formed_J2 n l (k : Int) b) (if (l[k] :: l.drop (k + 1)).all overOk then 0 else 8) := fun b hb => by
          refine .succ (fun n => by rw [go_override_formed_J2]) ?_
          refine .cond (fun h => .pure ?_) fun h => ?_
          · rw [List.all_cons, ← hb, show b = false by simpa using h]; rfl
          · rw [List.all_cons, ← hb, show b = true by simpa using h, Bool.true_and, wrk (by omega)]; exact ih
        have j3 : ∀ b, b = overOk l[k] → Ev (fun n => go_override_formed_J3 n l (k : Int) b) (if (l[k] :: l.drop (k + 1)).all overOk then 0 else 8) := fun b hb => .succ (fun n => by rw [go_override_formed_J3]) (j2 b hb)
        have j4 : ∀ b, b = overOk l[k] → Ev (fun n => go_override_formed_J4 n l (k : Int) b) (if (l[k] :: l.drop (k + 1)).all overOk then 0 else 8) := fun b hb => .succ (fun n => by rw [go_override_formed_J4]) (j2 b hb)
        have j5 : ∀ b, b = overOk l[k] → Ev (fun n => go_override_formed_J5 n l (k : Int) b) (if (l[k] :: l.drop (k + 1)).all overOk then 0 else 8) := fun b hb => .succ (fun n => by rw [go_override_formed_J5]) (j4 b hb)
        have j6 : ∀ b, b = overOk l[k] → Ev (fun n => go_override_formed_J6 n l (k : Int) b) (if (l[k] :: l.drop (k + 1)).all overOk then 0 else 8) := fun b hb => .succ (fun n => by rw [go_override_formed_J6]) (j4 b hb)
        have j7 : ∀ b, b = overOk l[k] → Ev (fun n => go_override_formed_J7 n l (k : Int) b) (if (l[k] :: l.drop (k + 1)).all overOk then 0 else 8) := fun b hb => .succ (fun n => by rw [go_override_formed_J7]) (j6 b hb)
        have j1 : ∀ b, b = (labelCheck l[k].path == 0 && !(l[k].path == [])) → Ev (fun n => go_override_formed_J1 n l (k : Int) l[k] b) (if (l[k] :: l.drop (k + 1)).all overOk then 0 else 8) := fun b hb => by
          have ho : overOk l[k] = (b && (if l[k].kind == 1 then l[k].name == [] else if l[k].kind == 2 then nameOk l[k].name else if l[k].kind == 3 then decide (l[k].name.length ≤ 60) && l[k].name.all plainC else false)) := by rw [hb]; rfl
          refine .succ (fun n => by rw [go_override_formed_J1]) ?_
          refine .cond (fun h => ?_) fun h => ?_
          · rw [if_pos h] at ho
            refine .cond (fun h => j3 _ ?_) fun h => j3 _ ?_
            · rw [ho, h, Bool.true_and]
            · rw [ho, h, Bool.false_and]
          rw [if_neg (by rw [h]; decide)] at ho
          refine .cond (fun h => ?_) fun h => ?_
          · rw [if_pos h] at ho
            refine .cond (fun h => .bind (label_name (by omega)) (j5 _ ?_)) fun h => j5 _ ?_
            · rw [ho, h, Bool.true_and]
            · rw [ho, h, Bool.false_and]
          rw [if_neg (by rw [h]; decide)] at ho
          refine .cond (fun h => ?_) fun h => ?_
          · rw [if_pos h] at ho
            refine .cond (fun h => ?_) fun h => j7 _ ?_
            · rw [h, Bool.true_and] at ho
              refine .cond (fun h => ?_) fun h => j7 _ ?_
              · obtain ⟨i, h1, h2⟩ := own_index (s := l[k].name) (by omega)
                refine .bind h1 (j7 _ ?_)
                have : l[k].name.length ≤ 60 := by simp at h; omega
                rw [ho, h2]; simp [this]
              · have : ¬ l[k].name.length ≤ 60 := by simp at h; omega
                rw [ho]; simp [this]
            · rw [ho, h, Bool.false_and]
          rw [if_neg (by rw [h]; decide), Bool.and_false] at ho
          exact j6 _ ho.symm
        refine .succ (fun n => by rw [go_override_formed_L1]) (.t (by simpa using hk) (.opt (ix_lt hk) (.bind (y := labelCheck l[k].path) (.pure rfl) ?_)))
        refine .cond (fun h => j1 _ ?_) fun h => j1 _ ?_
        · rw [h, Bool.true_and]
        · rw [h, Bool.false_and]) 0 (Nat.zero_le _)
    refine Ev.to hl ?_
    simp only [formedL, h60, if_false, List.drop_zero]

end Go.Ab
