/-
  OVERRIDES: WHAT IS WELL FORMED, AND WHAT ATTACHES.
-/
import Derived.Test.YtabknpjajioneaaP02
namespace Go.Ab
open Go
set_option linter.unusedVariables false
set_option linter.unusedSimpArgs false

/-! ### sizes -/
theorem GValue.size_pos (v : GValue) : 1 ≤ v.size := by rw [GValue.size_eq]; omega
theorem GNode.size_pos (v : GNode) : 1 ≤ v.size := by rw [GNode.size_eq]; omega
theorem GOver.size_pos (v : GOver) : 1 ≤ v.size := by rw [GOver.size_eq]; omega
theorem GValue.len_le (v : GValue) : v.list.length ≤ v.size := by
  have := len_le_sum' (l := v.list) (f := GValue.size) fun x _ => x.size_pos
  rw [GValue.size_eq]; omega
theorem GValue.mem_le {v x : GValue} (h : x ∈ v.list) : x.size < v.size := by
  have := mem_le_sum' (f := GValue.size) h
  rw [GValue.size_eq v]; omega
theorem GNode.len_le (x : GNode) : x.args.length ≤ x.size := by
  have := len_le_sum' (l := x.args) (f := GValue.size) fun x _ => x.size_pos
  rw [GNode.size_eq]; omega
theorem GNode.mem_le {x : GNode} {v : GValue} (h : v ∈ x.args) : v.size < x.size := by
  have := mem_le_sum' (f := GValue.size) h
  rw [GNode.size_eq]; omega

/-! ### what is great -/
theorem great_ev : ∀ (s : Nat) (v : GValue), v.size ≤ s → v.size ≤ 1048576 → ∀ d, ∃ b, Ev (fun n => go_ref03_great n v d) b := by
  intro s
  induction s with
  | zero => intro v h; have := v.size_pos; omega
  | succ s ih =>
    intro v hs hb d
    have hlen := v.len_le
    have j1 : ∀ c, ∃ b, Ev (fun n => go_ref03_great_J1 n v d c) b := fun c => by
      have hl := down (len := v.list.length) (Q := fun k => ∃ b, Ev (fun n => go_ref03_great_L1 n v d (k : Int)) b) (by
          refine ⟨false, .succ (fun n => by rw [go_ref03_great_L1]) ?_⟩
          exact .f (by simp) (.pure rfl)) (fun k hk ih2 => by
          obtain ⟨r, hr⟩ := ih2
          obtain ⟨c, hc⟩ := ih v.list[k] (by have := GValue.mem_le (List.getElem_mem hk); omega) (by have := GValue.mem_le (List.getElem_mem hk); omega) (IntKind.i64.wrap (d - 1))
          cases c
          · refine ⟨r, .succ (fun n => by rw [go_ref03_great_L1]) ?_⟩
            refine .t (by simpa using hk) (.opt (ix_lt hk) (.bind hc (.f rfl ?_)))
            rw [wrk (by omega)]; exact hr
          · refine ⟨true, .succ (fun n => by rw [go_ref03_great_L1]) ?_⟩
            exact .t (by simpa using hk) (.opt (ix_lt hk) (.bind hc (.t rfl (.pure rfl))))) 0 (Nat.zero_le _)
      obtain ⟨b, hb⟩ := hl
      cases c
      · refine ⟨b, .succ (fun n => by rw [go_ref03_great_J1]) ?_⟩
        exact .f rfl hb
      · refine ⟨true, .succ (fun n => by rw [go_ref03_great_J1]) ?_⟩
        exact .t rfl (.pure rfl)
    obtain ⟨b1, h1⟩ := j1 true
    obtain ⟨b2, h2⟩ := j1 (decide (150 < (v.list.length : Int)))
    cases hd : (d == 0)
    · cases h2' : decide (200 < (v.str.length : Int))
      · refine ⟨b2, .succ (fun n => by rw [go_ref03_great]) ?_⟩
        exact .f hd (.f h2' h2)
      · refine ⟨b1, .succ (fun n => by rw [go_ref03_great]) ?_⟩
        exact .f hd (.t h2' h1)
    · refine ⟨b1, .succ (fun n => by rw [go_ref03_great]) ?_⟩
      exact .t hd h1
theorem parts_ev : ∀ (s : Nat) (v : GValue), v.size ≤ s → v.size ≤ 1048576 → ∃ b, Ev (fun n => go_ref03_Parts n v) b := by
  intro s
  induction s with
  | zero => intro v h; have := v.size_pos; omega
  | succ s ih =>
    intro v hs hb
    have hlen := v.len_le
    have j1f : ∀ a k, ∃ b, Ev (fun n => go_ref03_Parts_J1 n v a k false) b := fun a k => by
      refine ⟨a, .succ (fun n => by rw [go_ref03_Parts_J1]) ?_⟩
      exact .f rfl (.pure rfl)
    have hl := down (len := v.list.length) (Q := fun k => ∀ a, ∃ b, Ev (fun n => go_ref03_Parts_L1 n v a (k : Int)) b) (fun a => by
        obtain ⟨b, h⟩ := j1f a v.list.length
        refine ⟨b, .succ (fun n => by rw [go_ref03_Parts_L1]) ?_⟩
        exact .f (by simp) h) (fun k hk ih2 a => by
        cases h4 : (v.kind == 4)
        · obtain ⟨b, h⟩ := j1f a k
          refine ⟨b, .succ (fun n => by rw [go_ref03_Parts_L1]) ?_⟩
          refine .t (by simpa using hk) ?_
          rw [h4]; exact h
        · obtain ⟨c, hc⟩ := ih v.list[k] (by have := GValue.mem_le (List.getElem_mem hk); omega) (by have := GValue.mem_le (List.getElem_mem hk); omega)
          obtain ⟨b, hb⟩ := ih2 (IntKind.i64.wrap (a + c))
          refine ⟨b, .succ (fun n => by rw [go_ref03_Parts_L1]) ?_⟩
          refine .t (by simpa using hk) ?_
          rw [h4]
          refine .succ (fun n => by rw [go_ref03_Parts_J1]) ?_
          refine .t rfl (.opt (ix_lt hk) (.bind hc ?_))
          rw [wrk (by omega)]; exact hb) 0 (Nat.zero_le _) 1
    obtain ⟨b, h⟩ := hl
    exact ⟨b, .succ (fun n => by rw [go_ref03_Parts]; rfl) h⟩
theorem Great_ev {v : GValue} (hb : v.size ≤ 1048576) : ∃ b, Ev (fun n => go_ref03_Great n v) b := by
  obtain ⟨g, hg⟩ := great_ev _ v (Nat.le_refl _) hb 10
  obtain ⟨p, hp⟩ := parts_ev _ v (Nat.le_refl _) hb
  have j : ∀ c, Ev (fun n => go_ref03_Great_J1 n c) c := fun c => .same (fun n => by rw [go_ref03_Great_J1]) (.pure rfl)
  cases g
  · exact ⟨_, .same (fun n => by rw [go_ref03_Great]) (.bind hg (.f rfl (.bind hp (j _))))⟩
  · refine ⟨true, .same (fun n => by rw [go_ref03_Great]) ?_⟩
    refine .bind hg ?_
    exact .t rfl (j _)
theorem greatArgs_ev {x : GNode} (hb : x.size ≤ 1048576) : ∃ b, Ev (fun n => go_ref27_GreatArgs n x.args) b := by
  have hlen := x.len_le
  have hl := down (len := x.args.length) (Q := fun k => ∃ b, Ev (fun n => go_ref27_GreatArgs_L1 n x.args (k : Int)) b) (by
      exact ⟨_, .succ (fun n => by rw [go_ref27_GreatArgs_L1]) (.f (by simp) (.pure rfl))⟩) (fun k hk ih => by
      obtain ⟨c, hc⟩ := Great_ev (v := x.args[k]) (by have := GNode.mem_le (List.getElem_mem hk); omega)
      obtain ⟨r, hr⟩ := ih
      cases c
      · refine ⟨r, .succ (fun n => by rw [go_ref27_GreatArgs_L1]) ?_⟩
        refine .t (by simpa using hk) (.opt (ix_lt hk) (.bind hc (.f rfl ?_)))
        rw [wrk (by omega)]; exact hr
      · refine ⟨true, .succ (fun n => by rw [go_ref27_GreatArgs_L1]) ?_⟩
        refine .t (by simpa using hk) (.opt (ix_lt hk) ?_)
        refine .bind hc ?_
        exact .t rfl (.pure rfl)) 0 (Nat.zero_le _)
  obtain ⟨b, h⟩ := hl
  exact ⟨b, .succ (fun n => by rw [go_ref27_GreatArgs]; rfl) h⟩
theorem great27_ev {t : List GNode} (hb : (t.map GNode.size).sum ≤ 1048576) : ∃ b, Ev (fun n => go_ref27_Great n t) b := by
  have hlen := len_le_sum' (l := t) (f := GNode.size) fun x _ => x.size_pos
  have hl := down (len := t.length) (Q := fun k => ∃ b, Ev (fun n => go_ref27_Great_L1 n t (k : Int)) b) (by
      exact ⟨_, .succ (fun n => by rw [go_ref27_Great_L1]) (.f (by simp) (.pure rfl))⟩) (fun k hk ih => by
      obtain ⟨r, hr⟩ := ih
      have hm := mem_le_sum' (f := GNode.size) (List.getElem_mem hk)
      obtain ⟨c, hc⟩ := greatArgs_ev (x := t[k]) (by omega)
      have j : ∀ c, ∃ b, Ev (fun n => go_ref27_Great_J1 n t (k : Int) c) b := fun c => by
        cases c
        · refine ⟨r, .succ (fun n => by rw [go_ref27_Great_J1]) ?_⟩
          refine .f rfl ?_
          rw [wrk (by omega)]; exact hr
        · exact ⟨true, .succ (fun n => by rw [go_ref27_Great_J1]) (.t rfl (.pure rfl))⟩
      obtain ⟨b1, h1⟩ := j true
      obtain ⟨b2, h2⟩ := j c
      cases e1 : decide (5000 < (t[k].path.length : Int))
      · cases e2 : decide (100 < (t[k].rule_.length : Int))
        · cases e3 : decide (200 < (t[k].leaf.length : Int))
          · refine ⟨b2, .succ (fun n => by rw [go_ref27_Great_L1]) ?_⟩
            exact .t (by simpa using hk) (.opt (ix_lt hk) (.f e1 (.f e2 (.f e3 (.bind hc h2)))))
          · refine ⟨b1, .succ (fun n => by rw [go_ref27_Great_L1]) ?_⟩
            exact .t (by simpa using hk) (.opt (ix_lt hk) (.f e1 (.f e2 (.t e3 h1))))
        · refine ⟨b1, .succ (fun n => by rw [go_ref27_Great_L1]) ?_⟩
          exact .t (by simpa using hk) (.opt (ix_lt hk) (.f e1 (.t e2 h1)))
      · refine ⟨b1, .succ (fun n => by rw [go_ref27_Great_L1]) ?_⟩
        exact .t (by simpa using hk) (.opt (ix_lt hk) (.t e1 h1))) 0 (Nat.zero_le _)
  obtain ⟨b, h⟩ := hl
  exact ⟨b, .succ (fun n => by rw [go_ref27_Great]; rfl) h⟩
theorem great30_ev {l : List GOver} (hb : (l.map GOver.size).sum ≤ 1048576) : ∃ b, Ev (fun n => go_ref30_Great n l) b := by
  have hlen := len_le_sum' (l := l) (f := GOver.size) fun x _ => x.size_pos
  have hl := down (len := l.length) (Q := fun k => ∃ b, Ev (fun n => go_ref30_Great_L1 n l (k : Int)) b) (by
      exact ⟨_, .succ (fun n => by rw [go_ref30_Great_L1]) (.f (by simp) (.pure rfl))⟩) (fun k hk ih => by
      obtain ⟨r, hr⟩ := ih
      have j : ∀ c, ∃ b, Ev (fun n => go_ref30_Great_J1 n l (k : Int) c) b := fun c => by
        cases c
        · refine ⟨r, .succ (fun n => by rw [go_ref30_Great_J1]) ?_⟩
          refine .f rfl ?_
          rw [wrk (by omega)]; exact hr
        · exact ⟨true, .succ (fun n => by rw [go_ref30_Great_J1]) (.t rfl (.pure rfl))⟩
      obtain ⟨b1, h1⟩ := j true
      obtain ⟨b2, h2⟩ := j (decide (200 < (l[k].name.length : Int)))
      cases e1 : decide (5000 < (l[k].path.length : Int))
      · refine ⟨b2, .succ (fun n => by rw [go_ref30_Great_L1]) ?_⟩
        exact .t (by simpa using hk) (.opt (ix_lt hk) (.f e1 h2))
      · refine ⟨b1, .succ (fun n => by rw [go_ref30_Great_L1]) ?_⟩
        exact .t (by simpa using hk) (.opt (ix_lt hk) (.t e1 h1))) 0 (Nat.zero_le _)
  obtain ⟨b, h⟩ := hl
  exact ⟨b, .succ (fun n => by rw [go_ref30_Great]; rfl) h⟩

/-! ### what is well formed -/
def plainC (c : UInt8) : Bool := decide (32 ≤ c.toNat) && decide (c.toNat ≤ 126)
def overOk (o : GOver) : Bool :=
  (labelCheck o.path == 0 && !(o.path == [])) &&
    (if o.kind == 1 then o.name == [] else if o.kind == 2 then nameOk o.name else if o.kind == 3 then decide (o.name.length ≤ 60) && o.name.all plainC else false)
def formedL (l : List GOver) : Int := if 60 < l.length then 4 else if l.all overOk then 0 else 8

theorem nil_len {s : List UInt8} : ((s.length : Int) == 0) = (s == []) := by
  cases s
  · rfl
  · simp; omega

theorem ref_formed {o : GOver} (hb : o.size ≤ 1048576) : Ev (fun n => go_ref30_formed n o) (overOk o) := by
  have hsz := o.size_eq
  have h1 : o.path.length ≤ 1048576 := by omega
  have h2 : o.name.length ≤ 1048576 := by omega
  have jt : Ev (fun n => go_ref30_formed_J1 n o true) false := .succ (fun n => by rw [go_ref30_formed_J1]) (.t rfl (.pure rfl))
  have jf : Ev (fun n => go_ref30_formed_J1 n o false) (if o.kind == 1 then o.name == [] else if o.kind == 2 then nameOk o.name else if o.kind == 3 then decide (o.name.length ≤ 60) && o.name.all plainC else false) := by
    refine .succ (fun n => by rw [go_ref30_formed_J1]) ?_
    refine .f rfl ?_
    refine .cond (fun h => .pure (by rw [if_pos h, nil_len])) fun h => ?_
    rw [if_neg (by rw [h]; decide)]
    refine .cond (fun h => .bind (ref_name (by omega)) (.pure (by rw [if_pos h]))) fun h => ?_
    rw [if_neg (by rw [h]; decide)]
    refine .cond (fun h => ?_) fun h => .pure (by rw [if_neg (by rw [h]; decide)])
    rw [if_pos h]
    have hl := down (len := o.name.length) (Q := fun k => Ev (fun n => go_ref30_formed_L1 n o (k : Int)) (decide (o.name.length ≤ 60) && (o.name.drop k).all plainC)) (by
        refine .succ (fun n => by rw [go_ref30_formed_L1]) (.f (by simp) (.pure ?_))
        simp; omega) (fun k hk ih => by
        rw [← List.getElem_cons_drop (h := hk)]
        refine .succ (fun n => by rw [go_ref30_formed_L1]) (.t (by simpa using hk) (.opt (ix_lt hk) ?_))
        have j : ∀ b, b = !plainC o.name[k] → Ev (fun n => go_ref30_formed_J2 n o (k : Int) b) (decide (o.name.length ≤ 60) && (o.name[k] :: o.name.drop (k + 1)).all plainC) := fun b hb => by
          refine .succ (fun n => by rw [go_ref30_formed_J2]) ?_
          refine .cond (fun h => .pure ?_) fun h => ?_
          · rw [h] at hb
            rw [List.all_cons, show plainC o.name[k] = false by simpa using hb.symm, Bool.false_and, Bool.and_false]
          · rw [h] at hb
            rw [List.all_cons, show plainC o.name[k] = true by simpa using hb.symm, Bool.true_and, wrk (by omega)]
            exact ih
        refine .cond (fun h => j _ ?_) fun h => j _ ?_
        · have : ¬ 32 ≤ o.name[k].toNat := by simp at h; omega
          simp [plainC, this]
        · have : 32 ≤ o.name[k].toNat := by simp at h; omega
          simp only [plainC, this, decide_true, Bool.true_and]
          rw [← decide_not]
          exact decide_eq_decide.2 (by omega)) 0 (Nat.zero_le _)
    exact hl
  refine .succ (fun n => by rw [go_ref30_formed]) ?_
  refine .bind (ref_check) ?_
  refine .cond (fun h => jt.to ?_) fun h => ?_
  · have : (labelCheck o.path == 0) = false := by simpa using h
    simp [overOk, this]
  · have h0 : (labelCheck o.path == 0) = true := by simpa using h
    rw [nil_len]
    cases hp : o.path == []
    · refine jf.to ?_
      simp only [overOk, h0, hp, Bool.not_false, Bool.and_self, Bool.true_and]
    · refine jt.to ?_
      simp only [overOk, h0, hp, Bool.not_true, Bool.and_false, Bool.false_and]

theorem ref_Formed {l : List GOver} (hb : (l.map GOver.size).sum ≤ 1048576) : Ev (fun n => go_ref30_Formed n l) (formedL l) := by
  have hlen := len_le_sum' (l := l) (f := GOver.size) fun x _ => x.size_pos
  refine .succ (fun n => by rw [go_ref30_Formed]) ?_
  refine .cond (fun h => .pure ?_) fun h => ?_
  · have : 60 < l.length := by simp at h; omega
    simp [formedL, this]
  · have h60 : ¬ 60 < l.length := by simp at h; omega
    have hl := down (len := l.length) (Q := fun k => Ev (fun n => go_ref30_Formed_L1 n l (k : Int)) (if (l.drop k).all overOk then 0 else 8)) (by
        refine .succ (fun n => by rw [go_ref30_Formed_L1]) (.f (by simp) (.pure (by simp)))) (fun k hk ih => by
        rw [← List.getElem_cons_drop (h := hk)]
        have hm := mem_le_sum' (f := GOver.size) (List.getElem_mem hk)
        refine .succ (fun n => by rw [go_ref30_Formed_L1]) (.t (by simpa using hk) (.opt (ix_lt hk) (.bind (ref_formed (o := l[k]) (by omega)) ?_)))
        refine .cond (fun h => .pure ?_) fun h => ?_
        · rw [List.all_cons, show overOk l[k] = false by simpa using h]; rfl
        · rw [List.all_cons, show overOk l[k] = true by simpa using h, Bool.true_and, wrk (by omega)]; exact ih) 0 (Nat.zero_le _)
    refine Ev.to hl ?_
    simp only [formedL, h60, if_false, List.drop_zero]

/-! ### the program's own -/
theorem own_index {s : List UInt8} (hb : s.length ≤ 1048576) : ∃ i, Ev (fun n => go_strings_IndexFunc__override_formed_1 n s) i ∧ (decide (i < 0) = s.all plainC) := by
  have odd : ∀ r : Nat, Ev (fun n => go_override_formed_1 n (r : Int)) (!(decide (32 ≤ r) && decide (r ≤ 126))) := fun r => by
    have j : ∀ b, Ev (fun n => go_override_formed_1_J1 n b) b := fun b => .same (fun n => by rw [go_override_formed_1_J1]) (.pure rfl)
    refine .same (fun n => by rw [go_override_formed_1]) ?_
    refine .cond (fun h => (j _).to ?_) fun h => (j _).to ?_
    · have : ¬ 32 ≤ r := by simp at h; omega
      simp [this]
    · have : 32 ≤ r := by simp at h; omega
      simp only [this, decide_true, Bool.true_and]
      rw [← decide_not]
      exact decide_eq_decide.2 (by omega)
  have hl := down (len := s.length) (Q := fun k => ∃ i, Ev (fun n => go_strings_indexFunc__override_formed_1_L1 n s true k) i ∧ (decide (i < 0) = (s.drop k).all plainC)) (by
      refine ⟨-1, .succ (fun n => by rw [go_strings_indexFunc__override_formed_1_L1]) (.f (by simp) (.pure rfl)), by simp⟩) (fun k hk ih => by
      obtain ⟨i, hi, hi2⟩ := ih
      rw [← List.getElem_cons_drop (h := hk)]
      by_cases hp : plainC s[k] = true
      · have hp' : 32 ≤ s[k].toNat ∧ s[k].toNat ≤ 126 := by simpa [plainC] using hp
        have e := decL_low hk (by omega)
        refine ⟨i, ?_, by rw [List.all_cons, hp, Bool.true_and]; exact hi2⟩
        refine .succ (fun n => by rw [go_strings_indexFunc__override_formed_1_L1]) ?_
        refine .t (by simpa using hk) (.bind (odd _) ?_)
        refine .f (by rw [e]; simp; omega) ?_
        rw [e]; exact hi
      · rw [Bool.not_eq_true] at hp
        refine ⟨(k : Int), ?_, by rw [List.all_cons, hp, Bool.false_and]; simp⟩
        refine .succ (fun n => by rw [go_strings_indexFunc__override_formed_1_L1]) ?_
        refine .t (by simpa using hk) (.bind (odd _) (.t ?_ (.pure rfl)))
        by_cases hlow : s[k].toNat < 128
        · rw [decL_low hk hlow]
          have : (decide (32 ≤ s[k].toNat) && decide (s[k].toNat ≤ 126)) = false := hp
          simp only [this]; rfl
        · have := (decL_high hk (by omega)).1
          rw [show decide ((decL s k).1 ≤ 126) = false by simp; omega]; simp) 0 (Nat.zero_le _)
  obtain ⟨i, h1, h2⟩ := hl
  refine ⟨i, .same (fun n => by rw [go_strings_IndexFunc__override_formed_1]) ?_, h2⟩
  refine .bind (y := i) ?_ (.pure rfl)
  exact .succ (fun n => by rw [go_strings_indexFunc__override_formed_1]) h1

theorem own_formed {l : List GOver} (hb : (l.map GOver.size).sum ≤ 1048576) : Ev (fun n => go_override_formed n l) (formedL l) := by
  have hlen := len_le_sum' (l := l) (f := GOver.size) fun x _ => x.size_pos
  refine .succ (fun n => by rw [go_override_formed]) ?_
  refine .cond (fun h => .pure ?_) fun h => ?_
  · have : 60 < l.length := by simp at h; omega
    simp [formedL, this]
  · have h60 : ¬ 60 < l.length := by simp at h; omega
    have hl := down (len := l.length) (Q := fun k => Ev (fun n => go_override_formed_L1 n l (k : Int)) (if (l.drop k).all overOk then 0 else 8)) (by
        refine .succ (fun n => by rw [go_override_formed_L1]) (.f (by simp) (.pure (by simp)))) (fun k hk ih => by
        rw [← List.getElem_cons_drop (h := hk)]
        have hm := mem_le_sum' (f := GOver.size) (List.getElem_mem hk)
        have hsz := (l[k]).size_eq
        have j2 : ∀ b, b = overOk l[k] → Ev (fun n => go_override_formed_J2 n l (k : Int) b) (if (l[k] :: l.drop (k + 1)).all overOk then 0 else 8) := fun b hb => by
          refine .succ (fun n => by rw [go_override_formed_J2]) ?_
          refine .cond (fun h => .pure ?_) fun h => ?_
          · rw [List.all_cons, ← hb, show b = false by simpa using h]; rfl
          · rw [List.all_cons, ← hb, show b = true by simpa using h, Bool.true_and, wrk (by omega)]; exact ih
        have j3 : ∀ b, b = overOk l[k] → Ev (fun n => go_override_formed_J3 n l (k : Int) b) (if (l[k] :: l.drop (k + 1)).all overOk then 0 else 8) := fun b hb => .succ (fun n => by rw [go_override_formed_J3]) (j2 b hb)
        have j4 : ∀ b, b = overOk l[k] → Ev (fun n => go_override_formed_J4 n l (k : Int) b) (if (l[k] :: l.drop (k + 1)).all overOk then 0 else 8) := fun b hb => .succ (fun n => by rw [go_override_formed_J4]) (j2 b hb)
        have j5 : ∀ b, b = overOk l[k] → Ev (fun n => go_override_formed_J5 n l (k : Int) b) (if (l[k] :: l.drop (k + 1)).all overOk then 0 else 8) := fun b hb => .succ (fun n => by rw [go_override_formed_J5]) (j4 b hb)
        have j6 : ∀ b, b = overOk l[k] → Ev (fun n => go_override_formed_J6 n l (k : Int) b) (if (l[k] :: l.drop (k + 1)).all overOk then 0 else 8) := fun b hb => .succ (fun n => by rw [go_override_formed_J6]) (j4 b hb)
        have j7 : ∀ b, b = overOk l[k] → Ev (fun n => go_override_formed_J7 n l (k : Int) b) (if (l[k] :: l.drop (k + 1)).all overOk then 0 else 8) := fun b hb => .succ (fun n => by rw [go_override_formed_J7]) (j6 b hb)
        have j1 : ∀ b, b = (labelCheck l[k].path == 0 && !(l[k].path == [])) → Ev (fun n => go_override_formed_J1 n l (k : Int) l[k] b) (if (l[k] :: l.drop (k + 1)).all overOk then 0 else 8) := fun b hb => by
          have ho : overOk l[k] = (b && (if l[k].kind == 1 then l[k].name == [] else if l[k].kind == 2 then nameOk l[k].name else if l[k].kind == 3 then decide (l[k].name.length ≤ 60) && l[k].name.all plainC else false)) := by rw [hb]; rfl
          refine .succ (fun n => by rw [go_override_formed_J1]) ?_
          refine .cond (fun h => ?_) fun h => ?_
          · rw [if_pos h] at ho
            refine .cond (fun h => j3 _ ?_) fun h => j3 _ ?_
            · rw [ho, h, Bool.true_and]
            · rw [ho, h, Bool.false_and]
          rw [if_neg (by rw [h]; decide)] at ho
          refine .cond (fun h => ?_) fun h => ?_
          · rw [if_pos h] at ho
            refine .cond (fun h => .bind (label_name (by omega)) (j5 _ ?_)) fun h => j5 _ ?_
            · rw [ho, h, Bool.true_and]
            · rw [ho, h, Bool.false_and]
          rw [if_neg (by rw [h]; decide)] at ho
          refine .cond (fun h => ?_) fun h => ?_
          · rw [if_pos h] at ho
            refine .cond (fun h => ?_) fun h => j7 _ ?_
            · rw [h, Bool.true_and] at ho
              refine .cond (fun h => ?_) fun h => j7 _ ?_
              · obtain ⟨i, h1, h2⟩ := own_index (s := l[k].name) (by omega)
                refine .bind h1 (j7 _ ?_)
                have : l[k].name.length ≤ 60 := by simp at h; omega
                rw [ho, h2]; simp [this]
              · have : ¬ l[k].name.length ≤ 60 := by simp at h; omega
                rw [ho]; simp [this]
            · rw [ho, h, Bool.false_and]
          rw [if_neg (by rw [h]; decide), Bool.and_false] at ho
          exact j6 _ ho.symm
        refine .succ (fun n => by rw [go_override_formed_L1]) (.t (by simpa using hk) (.opt (ix_lt hk) (.bind (y := labelCheck l[k].path) (.pure rfl) ?_)))
        refine .cond (fun h => j1 _ ?_) fun h => j1 _ ?_
        · rw [h, Bool.true_and]
        · rw [h, Bool.false_and]) 0 (Nat.zero_le _)
    refine Ev.to hl ?_
    simp only [formedL, h60, if_false, List.drop_zero]

/-! ### maps by strings -/
theorem mget_mput {T : Type} (k k' : List UInt8) (v : T) : ∀ m : List (List UInt8 × T), mget (mput m k v) k' = if k' == k then some v else mget m k'
  | [] => by
    simp only [mput, mget, List.findIdx?_nil, List.nil_append, List.find?_cons, List.find?_nil]
    cases h : k' == k <;> simp
  | p :: m => by
    have ih := mget_mput k k' v m
    simp only [mput, mget, List.findIdx?_cons] at ih ⊢
    cases hk : k == p.1
    · simp only [Bool.false_eq_true, if_false]
      cases hi : m.findIdx? (fun q => k == q.1) with
      | none =>
        rw [hi] at ih
        simp only [Option.map_none, List.cons_append, List.find?_cons]
        cases hp : k' == p.1
        · simpa using ih
        · have : (k' == k) = false := by
            have : k' = p.1 := by simpa using hp
            subst this
            cases hq : p.1 == k
            · rfl
            · have : p.1 = k := by simpa using hq
              rw [this] at hk; simp at hk
          simp [this]
      | some j =>
        rw [hi] at ih
        simp only [Option.map_some, List.set_cons_succ, List.find?_cons]
        cases hp : k' == p.1
        · simpa using ih
        · have : (k' == k) = false := by
            have : k' = p.1 := by simpa using hp
            subst this
            cases hq : p.1 == k
            · rfl
            · have : p.1 = k := by simpa using hq
              rw [this] at hk; simp at hk
          simp [this]
    · have : k = p.1 := by simpa using hk
      subst this
      simp only [if_true, List.set_cons_zero, List.find?_cons]
      cases h : k' == p.1 <;> simp

/-! ### what attaches -/
def attachL (t : List GNode) (l : List GOver) : List Bool × Int :=
  if !(formedL l == 0) then ([], formedL l) else (l.map fun o => t.any fun x => x.path == o.path, 0)

theorem ref_find {t : List GNode} {p : List UInt8} (hb : t.length ≤ 1048576) : ∃ i e, Ev (fun n => go_ref27_Find n t p) (i, e) ∧ (e == 0) = t.any fun x => x.path == p := by
  have hl := down (len := t.length) (Q := fun k => ∃ i e, Ev (fun n => go_ref27_Find_L1 n t p (k : Int)) (i, e) ∧ (e == 0) = (t.drop k).any fun x => x.path == p) (by
      exact ⟨0, 6, .succ (fun n => by rw [go_ref27_Find_L1]) (.f (by simp) (.pure rfl)), by simp⟩) (fun k hk ih => by
      obtain ⟨i, e, h1, h2⟩ := ih
      rw [← List.getElem_cons_drop (h := hk)]
      cases hp : t[k].path == p
      · refine ⟨i, e, .succ (fun n => by rw [go_ref27_Find_L1]) (.t (by simpa using hk) (.opt (ix_lt hk) (.f hp ?_))), by rw [List.any_cons, hp, Bool.false_or]; exact h2⟩
        rw [wrk (by omega)]; exact h1
      · exact ⟨k, 0, .succ (fun n => by rw [go_ref27_Find_L1]) (.t (by simpa using hk) (.opt (ix_lt hk) (.t hp (.pure rfl)))), by rw [List.any_cons, hp, Bool.true_or]; rfl⟩) 0 (Nat.zero_le _)
  obtain ⟨i, e, h1, h2⟩ := hl
  exact ⟨i, e, .succ (fun n => by rw [go_ref27_Find]; rfl) h1, h2⟩

theorem ref_attach {t : List GNode} {l : List GOver} (ht : t.length ≤ 1048576) (hb : (l.map GOver.size).sum ≤ 1048576) : Ev (fun n => go_ref30_Attach n t l) (attachL t l) := by
  have hlen := len_le_sum' (l := l) (f := GOver.size) fun x _ => x.size_pos
  refine .succ (fun n => by rw [go_ref30_Attach]) ?_
  refine .bind (ref_Formed hb) ?_
  refine .cond (fun h => .bind (ref_Formed hb) (.pure ?_)) fun h => ?_
  · simp only [attachL, h, if_true]
  · have hl := down (len := l.length) (Q := fun k => ∀ r : List Bool, r.length = k → Ev (fun n => go_ref30_Attach_L1 n t l r (k : Int)) (r ++ (l.drop k).map (fun o => t.any fun x => x.path == o.path), 0)) (fun r hr => by
        refine .succ (fun n => by rw [go_ref30_Attach_L1]) (.f (by simp) (.pure (by simp)))) (fun k hk ih r hr => by
        rw [← List.getElem_cons_drop (h := hk)]
        obtain ⟨i, e, h1, h2⟩ := ref_find (t := t) (p := l[k].path) ht
        refine .succ (fun n => by rw [go_ref30_Attach_L1]) (.t (by simpa using hk) (.opt (ix_lt hk) (.bind h1 ?_)))
        refine .opt (ext_ok (by simp only [List.length_cons, List.length_nil]; omega)) ?_
        rw [wrk (by omega)]
        refine (ih _ (by simp [hr])).to ?_
        rw [List.map_cons, h2, List.append_assoc]; rfl) 0 (Nat.zero_le _) [] rfl
    refine Ev.to hl ?_
    simp only [attachL, h, Bool.false_eq_true, if_false, List.drop_zero, List.nil_append]

theorem own_attach {t : List GNode} {l : List GOver} (ht : t.length ≤ 1048576) (hb : (l.map GOver.size).sum ≤ 1048576) : Ev (fun n => go_override_Attach n t l) (attachL t l) := by
  have hlen := len_le_sum' (l := l) (f := GOver.size) fun x _ => x.size_pos
  refine .succ (fun n => by rw [go_override_Attach]) ?_
  refine .bind (own_formed hb) ?_
  refine .cond (fun h => .pure ?_) fun h => ?_
  · simp only [attachL, h, if_true]
  · have h2 : ∀ m : List (List UInt8 × Bool), (∀ p, (mget m p).getD false = t.any fun x => x.path == p) → Ev (fun n => go_override_Attach_L2 n l m [] 0) (attachL t l) := fun m hm => by
      have hl := down (len := l.length) (Q := fun k => ∀ r : List Bool, r.length = k → Ev (fun n => go_override_Attach_L2 n l m r (k : Int)) (r ++ (l.drop k).map (fun o => t.any fun x => x.path == o.path), 0)) (fun r hr => by
          refine .succ (fun n => by rw [go_override_Attach_L2]) (.f (by simp) (.pure (by simp)))) (fun k hk ih r hr => by
          rw [← List.getElem_cons_drop (h := hk)]
          refine .succ (fun n => by rw [go_override_Attach_L2]) (.t (by simpa using hk) (.opt (ix_lt hk) ?_))
          refine .opt (ext_ok (by simp only [List.length_cons, List.length_nil]; omega)) ?_
          rw [wrk (by omega)]
          refine (ih _ (by simp [hr])).to ?_
          rw [List.map_cons, hm, List.append_assoc]; rfl) 0 (Nat.zero_le _) [] rfl
      refine Ev.to hl ?_
      simp only [attachL, h, Bool.false_eq_true, if_false, List.drop_zero, List.nil_append]
    have h1 := down (len := t.length) (Q := fun k => ∀ m : List (List UInt8 × Bool), (∀ p, (mget m p).getD false = (t.take k).any fun x => x.path == p) → Ev (fun n => go_override_Attach_L1 n t l m (k : Int)) (attachL t l)) (fun m hm => by
        rw [List.take_length] at hm
        refine .succ (fun n => by rw [go_override_Attach_L1]) (.f (by simp) (h2 m hm))) (fun k hk ih m hm => by
        refine .succ (fun n => by rw [go_override_Attach_L1]) (.t (by simpa using hk) (.opt (ix_lt hk) ?_))
        rw [wrk (by omega)]
        refine ih _ fun p => ?_
        rw [mget_mput, List.take_add_one, List.getElem?_eq_getElem hk, List.any_append, ← hm]
        cases hp : p == t[k].path
        · have : (t[k].path == p) = false := by rw [BEq.comm]; exact hp
          simp [this]
        · have : (t[k].path == p) = true := by rw [BEq.comm]; exact hp
          simp [this]) 0 (Nat.zero_le _) [] (fun p => by simp [mget])
    exact h1

theorem attach_plain (x0 : List GNode) (x1 : List GOver) (hb : (x0.map GNode.size).sum + (x1.map GOver.size).sum ≤ 1048576) : ∃ n, go_gambrellaw30_OverrideAttaches n x0 x1 = some true := by
  refine Ev.get (r := true) ?_
  have hl0 := len_le_sum' (l := x0) (f := GNode.size) fun x _ => x.size_pos
  have hl1 := len_le_sum' (l := x1) (f := GOver.size) fun x _ => x.size_pos
  obtain ⟨a, ha⟩ := great27_ev (t := x0) (by omega)
  obtain ⟨b, hb'⟩ := great30_ev (l := x1) (by omega)
  have hlen : (attachL x0 x1).1.length ≤ 1048576 := by
    unfold attachL; split
    · simp
    · simp; omega
  have j1 : ∀ c, Ev (fun n => go_gambrellaw30_OverrideAttaches_J1 n x0 x1 c) true := fun c => by
    refine .succ (fun n => by rw [go_gambrellaw30_OverrideAttaches_J1]) ?_
    refine .cond (fun _ => .pure rfl) fun _ => ?_
    refine .bind (own_attach (by omega) (by omega)) (.bind (ref_attach (by omega) (by omega)) ?_)
    generalize attachL x0 x1 = y at *
    refine .f (by simp) ?_
    rw [show (!(y.2 == y.2)) = false by simp]
    refine .succ (fun n => by rw [go_gambrellaw30_OverrideAttaches_J2]) (.f rfl ?_)
    exact down (len := y.1.length) (Q := fun k => Ev (fun n => go_gambrellaw30_OverrideAttaches_L1 n y y (k : Int)) true) (by
      refine .succ (fun n => by rw [go_gambrellaw30_OverrideAttaches_L1]) (.f (by simp) (.pure rfl))) (fun k hk ih => by
      refine .succ (fun n => by rw [go_gambrellaw30_OverrideAttaches_L1]) (.t (by simpa using hk) (.opt (ix_lt hk) (.opt (ix_lt hk) ?_)))
      refine .f (by simp) ?_
      rw [wrk (by omega)]; exact ih) 0 (Nat.zero_le _)
  refine .succ (fun n => by rw [go_gambrellaw30_OverrideAttaches]) ?_
  refine .bind ha ?_
  exact .cond (fun _ => j1 _) fun _ => .bind hb' (j1 _)
end Go.Ab
