/-
  REPORTS: THE PROGRAM AND THE REFERENCE COME TO THE SAME.
-/
import Derived.Test.YtoimblncdeimoaaFns
import Derived.Test.YtoimblncdeimoaaPlain0
import Derived.Test.YtoimblncdeimoaaAbRunes
namespace Go.Ab
open Go
set_option linter.unusedVariables false
set_option linter.unusedSimpArgs false

/-! ### names -/
def plainC (c : UInt8) : Bool := decide (32 ≤ c.toNat) && decide (c.toNat ≤ 126)
def nmOk (s : List UInt8) : Bool := decide (s.length ≤ 60) && s.all plainC
def strV (s : List UInt8) : GValue := GValue.mk 3 (GRatio.mk 0 0) false s []
theorem strV_str (s : List UInt8) : (strV s).str = s := rfl
theorem strV_list (s : List UInt8) : (strV s).list = [] := rfl

theorem own_named {s : List UInt8} (hb : s.length ≤ 1048576) : Ev (fun n => go_report_named n s) (nmOk s) := by
  have hfine : Ev (fun n => go_value_fine n (strV s)) (nmOk s) := by
    have tail : Ev (fun n => go_value_fine_J3 n (strV s) [] []) true := by
      refine .succ (fun n => by rw [go_value_fine_J3]) (.succ (fun n => by rw [go_value_fine_J2]) (.succ (fun n => by rw [go_value_fine_J1]) ?_))
      refine .t (by rfl) (.t (by rfl) (.t (by rfl) ?_))
      exact .succ (g := fun _ => some true) (fun n => by rw [go_value_fine_J5]; rfl) (.pure rfl)
    refine .succ (fun n => by rw [go_value_fine]) ?_
    refine .f (by rfl) (.f (by rfl) (.t (by rfl) ?_))
    refine .cond (fun h => .pure ?_) fun h => ?_
    · have : ¬ s.length ≤ 60 := by rw [strV_str] at h; have := of_decide_eq_true h; omega
      simp [nmOk, this]
    · have h60 : s.length ≤ 60 := by rw [strV_str] at h; have := of_decide_eq_false h; omega
      have hl := down (len := s.length) (Q := fun k => Ev (fun n => go_value_fine_L1 n (strV s) (k : Int)) ((s.drop k).all plainC)) (by
          refine .succ (fun n => by rw [go_value_fine_L1]) (.f (by rw [strV_str]; simp) ?_)
          simpa [strV_list] using tail) (fun k hk ih => by
          rw [← List.getElem_cons_drop (h := hk)]
          refine .succ (fun n => by rw [go_value_fine_L1]) ?_
          refine .t (by rw [strV_str]; simpa using hk) ?_
          refine .opt (y := s[k]) (by rw [strV_str]; exact ix_lt hk) ?_
          have j : ∀ b, b = !plainC s[k] → Ev (fun n => go_value_fine_J4 n (strV s) (k : Int) b) ((s[k] :: s.drop (k + 1)).all plainC) := fun b hb => by
            refine .succ (fun n => by rw [go_value_fine_J4]) ?_
            refine .cond (fun h => .pure ?_) fun h => ?_
            · rw [h] at hb; rw [List.all_cons, show plainC s[k] = false by simpa using hb.symm, Bool.false_and]
            · rw [h] at hb; rw [List.all_cons, show plainC s[k] = true by simpa using hb.symm, Bool.true_and, wrk (by omega)]; exact ih
          refine .cond (fun h => j _ ?_) fun h => j _ ?_
          · have : ¬ 32 ≤ s[k].toNat := by simp at h; omega
            simp [plainC, this]
          · have : 32 ≤ s[k].toNat := by simp at h; omega
            simp only [plainC, this, decide_true, Bool.true_and]
            rw [← decide_not]
            exact decide_eq_decide.2 (by omega)) 0 (Nat.zero_le _)
      refine Ev.to hl ?_
      simp [nmOk, h60]
  refine .same (fun n => by rw [go_report_named]) (.bind (y := strV s) (.same (g := fun _ => some (strV s)) (fun n => by rfl) (.pure rfl)) ?_)
  refine .bind (y := if nmOk s then 0 else 8) ?_ (.pure ?_)
  · refine .same (fun n => by rw [go_value_Check]) ?_
    refine .bind (y := (1, 1)) ?_ ?_
    rotate_left
    · refine .f (by decide) ?_
      refine .same (fun n => by rw [go_value_Check_J1]) ?_
      refine .f (by decide) ?_
      refine .bind hfine ?_
      cases nmOk s
      · exact .t rfl (.pure rfl)
      · exact .f rfl (.pure rfl)
    · refine .succ (fun n => by rw [go_value_measure]) (.f (by rfl) ?_)
      exact .succ (fun n => by rw [go_value_measure_J1]) (.pure rfl)
  · cases nmOk s <;> rfl

theorem ref_named {s : List UInt8} (hb : s.length ≤ 1048576) : Ev (fun n => go_ref45_Named n s) (nmOk s) := by
  have hfine : Ev (fun n => go_ref03_fine n (strV s)) (nmOk s) := by
    refine .succ (fun n => by rw [go_ref03_fine]) ?_
    refine .f (by rfl) (.f (by rfl) (.t (by rfl) ?_))
    refine .f (by rfl) (.f (by rfl) (.f (by rfl) ?_))
    refine .succ (fun n => by rw [go_ref03_fine_J3]) ?_
    refine .cond (fun h => .pure ?_) fun h => ?_
    · have : ¬ s.length ≤ 60 := by rw [strV_str] at h; have := of_decide_eq_true h; omega
      simp [nmOk, this]
    · have h60 : s.length ≤ 60 := by rw [strV_str] at h; have := of_decide_eq_false h; omega
      have hl := down (len := s.length) (Q := fun k => Ev (fun n => go_ref03_fine_L1 n (strV s) (k : Int)) ((s.drop k).all plainC)) (by
          refine .succ (fun n => by rw [go_ref03_fine_L1]) (.f (by rw [strV_str]; simp) (.pure (by simp)))) (fun k hk ih => by
          rw [← List.getElem_cons_drop (h := hk)]
          refine .succ (fun n => by rw [go_ref03_fine_L1]) ?_
          refine .t (by rw [strV_str]; simpa using hk) ?_
          refine .opt (y := s[k]) (by rw [strV_str]; exact ix_lt hk) ?_
          have j : ∀ b, b = !plainC s[k] → Ev (fun n => go_ref03_fine_J4 n (strV s) (k : Int) b) ((s[k] :: s.drop (k + 1)).all plainC) := fun b hb => by
            refine .succ (fun n => by rw [go_ref03_fine_J4]) ?_
            refine .cond (fun h => .pure ?_) fun h => ?_
            · rw [h] at hb; rw [List.all_cons, show plainC s[k] = false by simpa using hb.symm, Bool.false_and]
            · rw [h] at hb; rw [List.all_cons, show plainC s[k] = true by simpa using hb.symm, Bool.true_and, wrk (by omega)]; exact ih
          refine .cond (fun h => j _ ?_) fun h => j _ ?_
          · have : ¬ 32 ≤ s[k].toNat := by simp at h; omega
            simp [plainC, this]
          · have : 32 ≤ s[k].toNat := by simp at h; omega
            simp only [plainC, this, decide_true, Bool.true_and]
            rw [← decide_not]
            exact decide_eq_decide.2 (by omega)) 0 (Nat.zero_le _)
      refine Ev.to hl ?_
      simp [nmOk, h60]
  have hone : Ev (fun n => go_ref03_Parts n (strV s)) 1 := by
    refine .succ (fun n => by rw [go_ref03_Parts]) (.succ (fun n => by rw [go_ref03_Parts_L1]) (.f (by rfl) ?_))
    exact .succ (fun n => by rw [go_ref03_Parts_J1]) (.f rfl (.pure rfl))
  have hdeep : Ev (fun n => go_ref03_Deep n (strV s)) 1 := by
    refine .succ (fun n => by rw [go_ref03_Deep]) (.succ (fun n => by rw [go_ref03_Deep_L1]) (.f (by rfl) ?_))
    exact .succ (fun n => by rw [go_ref03_Deep_J1]) (.f rfl (.pure rfl))
  refine .same (fun n => by rw [go_ref45_Named]) (.bind (y := strV s) (.same (g := fun _ => some (strV s)) (fun n => by rfl) (.pure rfl)) ?_)
  refine .bind (y := if nmOk s then 0 else 8) ?_ (.pure ?_)
  · refine .same (fun n => by rw [go_ref03_Check]) ?_
    refine .bind hone ?_
    refine .f (by decide) ?_
    refine .bind hdeep ?_
    refine .same (fun n => by rw [go_ref03_Check_J1]) ?_
    refine .f (by decide) ?_
    refine .bind hfine ?_
    cases nmOk s
    · exact .t rfl (.pure rfl)
    · exact .f rfl (.pure rfl)
  · cases nmOk s <;> rfl

/-! ### checks -/
def tOk (x : GTally) : Bool := nmOk x.name && (decide (1 ≤ x.count) && (decide (x.count ≤ 1000000000) && (decide (0 ≤ x.volume) && decide (x.volume ≤ 1000000000000000000))))
def stepOk (l : List GTally) (k : Nat) : Prop := ∃ x, l[k]? = some x ∧ tOk x = true ∧ ∀ j y, k = j + 1 → l[j]? = some y → ltT y x = true
open Classical in
noncomputable def chkFrom (l : List GTally) (k : Nat) : Int := if ∀ j, k ≤ j → j < l.length → stepOk l j then 0 else 8
noncomputable def chk (l : List GTally) : Int := if 200 < l.length then 4 else chkFrom l 0
theorem chk_yes {l : List GTally} {k : Nat} (h : stepOk l k) : chkFrom l k = chkFrom l (k + 1) := by
  unfold chkFrom
  congr 1
  refine propext ⟨fun hh j h1 h2 => hh j (by omega) h2, fun hh j h1 h2 => ?_⟩
  by_cases e : j = k
  · subst e; exact h
  · exact hh j (by omega) h2
theorem chk_no {l : List GTally} {k : Nat} (hk : k < l.length) (h : ¬ stepOk l k) : chkFrom l k = 8 := by
  unfold chkFrom
  rw [if_neg fun hh => h (hh k (Nat.le_refl _) hk)]
theorem chk_end (l : List GTally) : chkFrom l l.length = 0 := by
  unfold chkFrom
  rw [if_pos fun j h1 h2 => by omega]

theorem own_chk {l : List GTally} (hb : (l.map GTally.size).sum ≤ 1048576) : Ev (fun n => go_report_Check n l) (chk l) := by
  have hlen := len_le_sum' (l := l) (f := GTally.size) fun x _ => by rw [GTally.size_eq]; omega
  refine .succ (fun n => by rw [go_report_Check]) ?_
  refine .cond (fun h => .pure ?_) fun h => ?_
  · have : 200 < l.length := by simp at h; omega
    simp [chk, this]
  · have h200 : ¬ 200 < l.length := by simp at h; omega
    have hl := down (len := l.length) (Q := fun k => Ev (fun n => go_report_Check_L1 n l (k : Int)) (chkFrom l k)) (by
        refine .succ (fun n => by rw [go_report_Check_L1]) (.f (by simp) (.pure ?_))
        rw [chk_end]) (fun k hk ih => by
        have hm := mem_le_sum' (f := GTally.size) (List.getElem_mem hk)
        have hsz := l[k].size_eq
        have jb : ¬ stepOk l k → Ev (fun n => go_report_Check_J1 n l (k : Int) true) (chkFrom l k) := fun hn => by
          refine .succ (fun n => by rw [go_report_Check_J1]) (.t rfl (.pure ?_))
          rw [chk_no hk hn]
        have jg : stepOk l k → Ev (fun n => go_report_Check_J1 n l (k : Int) false) (chkFrom l k) := fun hy => by
          refine .succ (fun n => by rw [go_report_Check_J1]) (.f rfl ?_)
          rw [wrk (by omega), chk_yes hy]; exact ih
        have hkx : l[k]? = some l[k] := List.getElem?_eq_getElem hk
        have rest : ∀ (hprev : ∀ j y, k = j + 1 → l[j]? = some y → ltT y l[k] = true) (hnm : nmOk l[k].name = true),
            Ev (fun n => if decide (l[k].count < 1) then go_report_Check_J1 n l (k : Int) true else if decide (1000000000 < l[k].count) then go_report_Check_J1 n l (k : Int) true else if decide (l[k].volume < 0) then go_report_Check_J1 n l (k : Int) true else go_report_Check_J1 n l (k : Int) (decide (1000000000000000000 < l[k].volume))) (chkFrom l k) := fun hprev hnm => by
          have no : tOk l[k] = false → ¬ stepOk l k := fun ht ⟨x, hx, h1, _⟩ => by rw [hkx] at hx; injection hx with hx; subst hx; rw [ht] at h1; cases h1
          refine .cond (fun h => jb (no ?_)) fun h1 => .cond (fun h => jb (no ?_)) fun h2 => .cond (fun h => jb (no ?_)) fun h3 => ?_
          · have : ¬ 1 ≤ l[k].count := by simp at h; omega
            simp [tOk, this]
          · have : ¬ l[k].count ≤ 1000000000 := by simp at h; omega
            simp [tOk, this]
          · have : ¬ 0 ≤ l[k].volume := by simp at h; omega
            simp [tOk, this]
          · have e1 : 1 ≤ l[k].count := by simp at h1; omega
            have e2 : l[k].count ≤ 1000000000 := by simp at h2; omega
            have e3 : 0 ≤ l[k].volume := by simp at h3; omega
            cases h4 : decide (1000000000000000000 < l[k].volume)
            · have e4 : l[k].volume ≤ 1000000000000000000 := by simp at h4; omega
              exact jg ⟨_, hkx, by simp [tOk, hnm, e1, e2, e3, e4], hprev⟩
            · have e4 : ¬ l[k].volume ≤ 1000000000000000000 := by simp at h4; omega
              exact jb (no (by simp [tOk, e4]))
        refine .succ (fun n => by rw [go_report_Check_L1]) ?_
        refine .t (by simpa using hk) ?_
        refine .opt (ix_lt hk) ?_
        refine .bind (own_named (s := l[k].name) (by omega)) ?_
        refine .cond (fun h => jb fun ⟨x, hx, h1, _⟩ => ?_) fun hnm => ?_
        · rw [hkx] at hx; injection hx with hx; subst hx
          have : nmOk l[k].name = false := by simpa using h
          simp [tOk, this] at h1
        have hnm : nmOk l[k].name = true := by simpa using hnm
        refine .cond (fun h0 => ?_) fun h0 => ?_
        · have hk0 : 0 < k := by simpa using h0
          have hkm : k - 1 < l.length := by omega
          refine .opt (y := l[k - 1]) (by rw [wrI (by omega) (by omega), show ((k : Int) - 1) = ((k - 1 : Nat) : Int) by omega]; exact ix_lt hkm) ?_
          refine .cond (fun hlt => jb fun ⟨x, hx, _, h2⟩ => ?_) fun hlt => ?_
          · rw [hkx] at hx; injection hx with hx; subst hx
            have := h2 (k - 1) l[k - 1] (by omega) (List.getElem?_eq_getElem hkm)
            have hlt' : ltT l[k - 1] l[k] = false := by simpa [ltT] using hlt
            rw [hlt'] at this; cases this
          · have hlt' : ltT l[k - 1] l[k] = true := by simpa [ltT] using hlt
            exact rest (fun j y e hy => by
              have : j = k - 1 := by omega
              subst this
              rw [List.getElem?_eq_getElem hkm] at hy; injection hy with hy; subst hy
              exact hlt') hnm
        · have hk0 : k = 0 := by simp at h0; omega
          exact rest (fun j y e _ => by omega) hnm) 0 (Nat.zero_le _)
    refine Ev.to hl ?_
    simp only [chk, h200, if_false]

theorem ref_chk {l : List GTally} (hb : (l.map GTally.size).sum ≤ 1048576) : Ev (fun n => go_ref45_Check n l) (chk l) := by
  have hlen := len_le_sum' (l := l) (f := GTally.size) fun x _ => by rw [GTally.size_eq]; omega
  refine .succ (fun n => by rw [go_ref45_Check]) ?_
  refine .cond (fun h => .pure ?_) fun h => ?_
  · have : 200 < l.length := by simp at h; omega
    simp [chk, this]
  · have h200 : ¬ 200 < l.length := by simp at h; omega
    have hl := down (len := l.length) (Q := fun k => Ev (fun n => go_ref45_Check_L1 n l (k : Int)) (chkFrom l k)) (by
        refine .succ (fun n => by rw [go_ref45_Check_L1]) (.f (by simp) (.pure ?_))
        rw [chk_end]) (fun k hk ih => by
        have hm := mem_le_sum' (f := GTally.size) (List.getElem_mem hk)
        have hsz := l[k].size_eq
        have jb : ¬ stepOk l k → Ev (fun n => go_ref45_Check_J1 n l (k : Int) true) (chkFrom l k) := fun hn => by
          refine .succ (fun n => by rw [go_ref45_Check_J1]) (.t rfl (.pure ?_))
          rw [chk_no hk hn]
        have jg : stepOk l k → Ev (fun n => go_ref45_Check_J1 n l (k : Int) false) (chkFrom l k) := fun hy => by
          refine .succ (fun n => by rw [go_ref45_Check_J1]) (.f rfl ?_)
          rw [wrk (by omega), chk_yes hy]; exact ih
        have hkx : l[k]? = some l[k] := List.getElem?_eq_getElem hk
        have rest : ∀ (hprev : ∀ j y, k = j + 1 → l[j]? = some y → ltT y l[k] = true) (hnm : nmOk l[k].name = true),
            Ev (fun n => if decide (l[k].count < 1) then go_ref45_Check_J1 n l (k : Int) true else if decide (1000000000 < l[k].count) then go_ref45_Check_J1 n l (k : Int) true else if decide (l[k].volume < 0) then go_ref45_Check_J1 n l (k : Int) true else go_ref45_Check_J1 n l (k : Int) (decide (1000000000000000000 < l[k].volume))) (chkFrom l k) := fun hprev hnm => by
          have no : tOk l[k] = false → ¬ stepOk l k := fun ht ⟨x, hx, h1, _⟩ => by rw [hkx] at hx; injection hx with hx; subst hx; rw [ht] at h1; cases h1
          refine .cond (fun h => jb (no ?_)) fun h1 => .cond (fun h => jb (no ?_)) fun h2 => .cond (fun h => jb (no ?_)) fun h3 => ?_
          · have : ¬ 1 ≤ l[k].count := by simp at h; omega
            simp [tOk, this]
          · have : ¬ l[k].count ≤ 1000000000 := by simp at h; omega
            simp [tOk, this]
          · have : ¬ 0 ≤ l[k].volume := by simp at h; omega
            simp [tOk, this]
          · have e1 : 1 ≤ l[k].count := by simp at h1; omega
            have e2 : l[k].count ≤ 1000000000 := by simp at h2; omega
            have e3 : 0 ≤ l[k].volume := by simp at h3; omega
            cases h4 : decide (1000000000000000000 < l[k].volume)
            · have e4 : l[k].volume ≤ 1000000000000000000 := by simp at h4; omega
              exact jg ⟨_, hkx, by simp [tOk, hnm, e1, e2, e3, e4], hprev⟩
            · have e4 : ¬ l[k].volume ≤ 1000000000000000000 := by simp at h4; omega
              exact jb (no (by simp [tOk, e4]))
        refine .succ (fun n => by rw [go_ref45_Check_L1]) ?_
        refine .t (by simpa using hk) ?_
        refine .opt (ix_lt hk) ?_
        refine .bind (ref_named (s := l[k].name) (by omega)) ?_
        refine .cond (fun h => jb fun ⟨x, hx, h1, _⟩ => ?_) fun hnm => ?_
        · rw [hkx] at hx; injection hx with hx; subst hx
          have : nmOk l[k].name = false := by simpa using h
          simp [tOk, this] at h1
        have hnm : nmOk l[k].name = true := by simpa using hnm
        refine .cond (fun h0 => ?_) fun h0 => ?_
        · have hk0 : 0 < k := by simpa using h0
          have hkm : k - 1 < l.length := by omega
          refine .opt (y := l[k - 1]) (by rw [wrI (by omega) (by omega), show ((k : Int) - 1) = ((k - 1 : Nat) : Int) by omega]; exact ix_lt hkm) ?_
          refine .cond (fun hlt => jb fun ⟨x, hx, _, h2⟩ => ?_) fun hlt => ?_
          · rw [hkx] at hx; injection hx with hx; subst hx
            have := h2 (k - 1) l[k - 1] (by omega) (List.getElem?_eq_getElem hkm)
            have hlt' : ltT l[k - 1] l[k] = false := by simpa [ltT] using hlt
            rw [hlt'] at this; cases this
          · have hlt' : ltT l[k - 1] l[k] = true := by simpa [ltT] using hlt
            exact rest (fun j y e hy => by
              have : j = k - 1 := by omega
              subst this
              rw [List.getElem?_eq_getElem hkm] at hy; injection hy with hy; subst hy
              exact hlt') hnm
        · have hk0 : k = 0 := by simp at h0; omega
          exact rest (fun j y e _ => by omega) hnm) 0 (Nat.zero_le _)
    refine Ev.to hl ?_
    simp only [chk, h200, if_false]
end Go.Ab
