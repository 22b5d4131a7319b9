/-
  WHAT THE FUNCTIONS OF PACKAGE label COME TO.
-/
import Derived.Test.YtoimblncdeimoaaDoorFns
import Derived.Test.YtoimblncdeimoaaDoorAbRunes
namespace Go.Ab
open Go
set_option linter.unusedVariables false
set_option linter.unusedSimpArgs false

theorem cut47 {s : List UInt8} (hb : s.length ≤ 1048576) : Ev (fun n => go_strings_Cut_s47 n s) (cutAt 47 s) := by
  refine .same (fun n => by rw [go_strings_Cut_s47]) ?_
  refine .bind (y := cutAt 47 s) ?_ (.pure rfl)
  refine .same (fun n => by rw [go_internal_stringslite_Cut_s47]) ?_
  have hi : Ev (fun n => go_internal_stringslite_Index_s47 n s) (Lib.indexByte s 47) := by
    refine .succ (fun n => by rw [go_internal_stringslite_Index_s47]) ?_
    refine .succ (fun n => by rw [go_internal_stringslite_Index_s47_J1]) ?_
    refine .cond (fun h => ?_) fun h => ?_
    · have : [47] = s := by simpa using h
      subst this
      exact .pure rfl
    · refine .same (fun n => by rw [go_internal_stringslite_IndexByte, go_internal_bytealg_IndexByteString]) ?_
      exact .pure rfl
  refine .bind hi ?_
  rw [index_at]
  cases h : s.any (· == 47)
  · rw [cut_no h]
    exact .f rfl (.pure rfl)
  · obtain ⟨h1, h2, h3⟩ := cut_idx h
    simp only [if_true]
    refine .t (by simp) ?_
    refine .opt (y := s.takeWhile (· != 47)) (by rw [sub_front (by omega), h2]) ?_
    rw [wrk (by omega)]
    refine .opt (y := (s.dropWhile (· != 47)).tail) (by rw [sub_nat (by omega) (Nat.le_refl _), List.take_length, h3]) ?_
    exact .pure (by simp only [cutAt, h])

theorem cut91 {s : List UInt8} (hb : s.length ≤ 1048576) : Ev (fun n => go_strings_Cut_s91 n s) (cutAt 91 s) := by
  refine .same (fun n => by rw [go_strings_Cut_s91]) ?_
  refine .bind (y := cutAt 91 s) ?_ (.pure rfl)
  refine .same (fun n => by rw [go_internal_stringslite_Cut_s91]) ?_
  have hi : Ev (fun n => go_internal_stringslite_Index_s91 n s) (Lib.indexByte s 91) := by
    refine .succ (fun n => by rw [go_internal_stringslite_Index_s91]) ?_
    refine .succ (fun n => by rw [go_internal_stringslite_Index_s91_J1]) ?_
    refine .cond (fun h => ?_) fun h => ?_
    · have : [91] = s := by simpa using h
      subst this
      exact .pure rfl
    · refine .same (fun n => by rw [go_internal_stringslite_IndexByte, go_internal_bytealg_IndexByteString]) ?_
      exact .pure rfl
  refine .bind hi ?_
  rw [index_at]
  cases h : s.any (· == 91)
  · rw [cut_no h]
    exact .f rfl (.pure rfl)
  · obtain ⟨h1, h2, h3⟩ := cut_idx h
    simp only [if_true]
    refine .t (by simp) ?_
    refine .opt (y := s.takeWhile (· != 91)) (by rw [sub_front (by omega), h2]) ?_
    rw [wrk (by omega)]
    refine .opt (y := (s.dropWhile (· != 91)).tail) (by rw [sub_nat (by omega) (Nat.le_refl _), List.take_length, h3]) ?_
    exact .pure (by simp only [cutAt, h])

theorem count47 {s : List UInt8} : Ev (fun n => go_strings_Count_s47 n s) (s.countP (· == 47) : Int) := by
  refine .succ (fun n => by rw [go_strings_Count_s47, go_internal_bytealg_CountString]) ?_
  exact .pure rfl

theorem suffix93 {s : List UInt8} (hb : s.length ≤ 1048576) : Ev (fun n => go_strings_CutSuffix_s93 n s) (if s.getLast? == some 93 then (s.dropLast, true) else (s, false)) := by
  refine .same (fun n => by rw [go_strings_CutSuffix_s93]) ?_
  refine .bind (y := if s.getLast? == some 93 then (s.dropLast, true) else (s, false)) ?_ (.pure rfl)
  refine .same (fun n => by rw [go_internal_stringslite_CutSuffix_s93]) ?_
  have hi : Ev (fun n => go_internal_stringslite_HasSuffix_s93 n s) (s.getLast? == some 93) := by
    refine .same (fun n => by rw [go_internal_stringslite_HasSuffix_s93]) ?_
    rcases List.eq_nil_or_concat s with rfl | ⟨t, c, rfl⟩
    · exact Ev.to (r' := false) (.f rfl (.same (fun n => by rw [go_internal_stringslite_HasSuffix_s93_J1]) (.pure rfl))) rfl
    · simp only [List.concat_eq_append, List.length_append, List.length_cons, List.length_nil, Nat.zero_add] at hb ⊢
      refine .t (by simp; omega) ?_
      have e : ((t.length + 1 : Nat) : Int) - 1 = (t.length : Int) := by omega
      rw [e, wrI (by omega) (by omega)]
      refine .opt (y := [c]) (by rw [sub_nat (by omega) (by simp), List.take_of_length_le (by simp), List.drop_left]) ?_
      refine .same (fun n => by rw [go_internal_stringslite_HasSuffix_s93_J1]) (.pure ?_)
      simp
  refine .bind hi ?_
  refine .cond (fun h => ?_) fun h => ?_
  · rw [Bool.not_eq_true'] at h
    rw [h]; exact .pure rfl
  · rw [Bool.not_eq_false'] at h
    rw [h]
    rcases List.eq_nil_or_concat s with rfl | ⟨t, c, rfl⟩
    · simp at h
    · simp only [List.concat_eq_append, List.length_append, List.length_cons, List.length_nil, Nat.zero_add] at hb ⊢
      have e : ((t.length + 1 : Nat) : Int) - 1 = (t.length : Int) := by omega
      rw [e, wrI (by omega) (by omega)]
      refine .opt (y := t) (by rw [sub_front (by simp), List.take_left]) ?_
      exact .pure (by simp)

/-! ### names -/
theorem name_step {s : List UInt8} (hb : s.length ≤ 1048576) {k : Nat} (hk : k < s.length) {r : Bool}
    (hf : (if k = 0 then isLet s[k] else isMid s[k]) = false → r = false) (ht : (if k = 0 then isLet s[k] else isMid s[k]) = true → Ev (fun n => go_label_Name_L1 n s (k + 1)) r) : Ev (fun n => go_label_Name_L1 n s k) r := by
  have j3t : (if k = 0 then isLet s[k] else isMid s[k]) = false → Ev (fun n => go_label_Name_J3 n s k true) r := fun h => by
    refine .succ (fun n => by rw [go_label_Name_J3]) (.t rfl (.pure ?_))
    rw [hf h]
  have j3f : (decL s k).2 = 1 → (if k = 0 then isLet s[k] else isMid s[k]) = true → Ev (fun n => go_label_Name_J3 n s k false) r := fun h1 h => by
    refine .succ (fun n => by rw [go_label_Name_J3]) (.f rfl ?_)
    rw [h1]
    exact ht h
  refine .succ (fun n => by rw [go_label_Name_L1]) ?_
  refine .t (by simpa using hk) ?_
  have hj2 : ∀ b : Bool, b = (decide (97 ≤ (decL s k).1) && decide ((decL s k).1 ≤ 122)) → Ev (fun n => go_label_Name_J2 n s k b) r := fun b hb' => by
    refine .succ (fun n => by rw [go_label_Name_J2]) ?_
    by_cases hlow : s[k].toNat < 128
    · have e := decL_low hk hlow
      rw [e] at hb' ⊢
      have e1 : (decL s k).2 = 1 := by rw [e]
      have hb2 : b = isLet s[k] := hb'
      refine .cond (fun h => ?_) fun h => ?_
      · rw [Bool.not_eq_true'] at h
        rw [h] at hb2
        refine .cond (fun h0 => ?_) fun h0 => ?_
        · have : k = 0 := by simpa using h0
          subst this
          exact j3t (by simp [← hb2])
        · have hk0 : k ≠ 0 := by intro hh; subst hh; simp at h0
          rw [if_neg hk0] at j3t j3f
          refine .cond (fun h4 => ?_) fun h4 => ?_
          · have h4' : (s[k] == 45) = false := by
              cases hq : s[k] == 45 with
              | false => rfl
              | true =>
                have : s[k] = 45 := by simpa using hq
                rw [this] at h4; simp at h4
            refine .cond (fun h5 => ?_) fun h5 => ?_
            · refine j3t ?_
              have : ¬ 48 ≤ s[k].toNat := by simp at h5; omega
              simp [isMid, ← hb2, h4', isDig, this]
            · have h48 : 48 ≤ s[k].toNat := by simp at h5; omega
              cases h6 : decide (57 < (s[k].toNat : Int))
              · refine j3f e1 ?_
                have : s[k].toNat ≤ 57 := by simp at h6; omega
                simp [isMid, isDig, h48, this]
              · refine j3t ?_
                have : ¬ s[k].toNat ≤ 57 := by simp at h6; omega
                simp [isMid, ← hb2, h4', isDig, this]
          · refine j3f e1 ?_
            have : (s[k].toNat : Int) = 45 := by simpa using h4
            have : s[k] = 45 := UInt8.toNat_inj.1 (by simpa using (by omega : s[k].toNat = 45))
            simp [isMid, this]
      · rw [Bool.not_eq_false'] at h
        rw [h] at hb2
        exact j3f e1 (by split <;> simp [isMid, ← hb2])
    · have hh := decL_high hk (by omega)
      have hlet : isLet s[k] = false := by simp [isLet]; omega
      have hmid : isMid s[k] = false := by
        have : (s[k] == 45) = false := by
          cases hq : s[k] == 45 with
          | false => rfl
          | true =>
            have : s[k] = 45 := by simpa using hq
            rw [this] at hlow; simp at hlow
        simp [isMid, hlet, this, isDig]; omega
      have hbf : b = false := by rw [hb']; simp; omega
      subst hbf
      have hall : (if k = 0 then isLet s[k] else isMid s[k]) = false := by split <;> assumption
      refine .t rfl ?_
      refine .cond (fun h0 => j3t hall) fun h0 => ?_
      refine .t (by simp; omega) ?_
      refine .f (by simp; omega) ?_
      rw [show decide (57 < ((decL s k).1 : Int)) = true by simp; omega]
      exact j3t hall
  refine .cond (fun h => hj2 _ ?_) fun h => hj2 _ ?_
  · rw [show decide (97 ≤ (decL s k).1) = true by simp at h ⊢; omega]; simp; omega
  · rw [show decide (97 ≤ (decL s k).1) = false by simp at h ⊢; omega]; rfl

theorem name_rest {s : List UInt8} (hb : s.length ≤ 1048576) (k : Nat) (hk : k ≤ s.length) : 1 ≤ k → Ev (fun n => go_label_Name_L1 n s k) ((s.drop k).all isMid) :=
  down (Q := fun k => 1 ≤ k → Ev (fun n => go_label_Name_L1 n s k) ((s.drop k).all isMid)) (fun _ => by
    refine .succ (fun n => by rw [go_label_Name_L1]) (.f (by simp) ?_)
    simpa using Ev.pure rfl) (fun k hk ih h1 => by
    rw [← List.getElem_cons_drop (h := hk)]
    refine name_step hb hk (fun h => ?_) fun h => ?_
    · rw [if_neg (by omega)] at h; simp only [List.all_cons, h, Bool.false_and]
    · rw [if_neg (by omega)] at h; simpa only [List.all_cons, h, Bool.true_and] using ih (by omega)) k hk

theorem label_name {s : List UInt8} (hb : s.length ≤ 1048576) : Ev (fun n => go_label_Name n s) (nameOk s) := by
  refine .succ (fun n => by rw [go_label_Name]) ?_
  cases s with
  | nil => exact Ev.to (r' := false) (.t rfl (.succ (fun n => by rw [go_label_Name_J1]) (.t rfl (.pure rfl)))) rfl
  | cons c t =>
    refine .f (by simp; omega) ?_
    refine .succ (fun n => by rw [go_label_Name_J1]) ?_
    refine .cond (fun h => .pure ?_) fun h => ?_
    · have : ¬ (c :: t).length ≤ 40 := by simp at h; simp; omega
      simp only [nameOk, this]; simp
    · have h40 : (c :: t).length ≤ 40 := by simp at h; simp; omega
      have hz : (0 : Nat) < (c :: t).length := by simp
      refine name_step hb (k := 0) hz (fun h => ?_) fun h => ?_
      · simp at h; simp [nameOk, h]
      · have := name_rest hb 1 (by simp) (Nat.le_refl _)
        simp at h
        refine this.to ?_
        simp only [List.drop_one, List.tail_cons, nameOk, h, h40]; simp

/-! ### steps -/
theorem read_digits {y3 : List UInt8 × List UInt8 × Bool} {y16 : List UInt8 × Bool} {x33 : GStepT} (hb : y16.1.length ≤ 1048576) : ∀ k, k ≤ y16.1.length → ∀ x34, ∃ t, Ev (fun n => go_label_read_L1 n y3 y16 k x33 x34) (t, (y16.1.drop k).all isDig) :=
  down (fun x34 => by
    refine ⟨GStepT.mk y3.1 x34, .succ (fun n => by rw [go_label_read_L1]) (.f (by simp) ?_)⟩
    simpa using Ev.pure rfl) fun k hk ih x34 => by
    rw [← List.getElem_cons_drop (h := hk)]
    have bad : isDig y16.1[k] = false → ∀ x34, Ev (fun n => go_label_read_J4 n y3 y16 k x33 x34 true) (GStepT.mk [] 0, (y16.1[k] :: y16.1.drop (k + 1)).all isDig) := fun h x34 => by
      refine .succ (fun n => by rw [go_label_read_J4]) (.t rfl (.pure ?_))
      simp only [List.all_cons, h, Bool.false_and]
    by_cases hd : isDig y16.1[k] = true
    · have h48 : 48 ≤ y16.1[k].toNat ∧ y16.1[k].toNat ≤ 57 := by simpa [isDig] using hd
      have e := decL_low hk (by omega)
      obtain ⟨t, ht⟩ := ih (IntKind.i64.wrap ((IntKind.i64.wrap (10 * x34)) + (IntKind.i64.wrap (IntKind.i32.wrap (((decL y16.1 k).1 : Int) - 48)))))
      refine ⟨t, .succ (fun n => by rw [go_label_read_L1]) (.t (by simpa using hk) ?_)⟩
      refine .f (by rw [e]; simp; omega) ?_
      rw [show decide (57 < ((decL y16.1 k).1 : Int)) = false by rw [e]; simp; omega]
      refine .succ (fun n => by rw [go_label_read_J4]) (.f rfl ?_)
      rw [show (decL y16.1 k).2 = 1 by rw [e]]
      exact ht.to (by simp only [List.all_cons, hd, Bool.true_and])
    · rw [Bool.not_eq_true] at hd
      refine ⟨GStepT.mk [] 0, .succ (fun n => by rw [go_label_read_L1]) (.t (by simpa using hk) ?_)⟩
      have hcase : (decL y16.1 k).1 < 48 ∨ 57 < (decL y16.1 k).1 := by
        by_cases hlow : y16.1[k].toNat < 128
        · rw [decL_low hk hlow]
          simp only [isDig, Bool.and_eq_false_iff, decide_eq_false_iff_not] at hd
          show y16.1[k].toNat < 48 ∨ 57 < y16.1[k].toNat
          omega
        · have := decL_high hk (by omega)
          omega
      refine .cond (fun h => bad hd _) fun h => ?_
      rw [show decide (57 < ((decL y16.1 k).1 : Int)) = true by simp at h ⊢; omega]
      exact bad hd _

theorem label_read {s : List UInt8} (hb : s.length ≤ 1048576) : ∃ t, Ev (fun n => go_label_read n s) (t, readOk s) := by
  have h1 := cutAt_one 91 s
  have h2 := cutAt_rest 91 s
  have key : ∀ x5 : Bool, x5 = (!nameOk (cutAt 91 s).1 || !(cutAt 91 s).2.2) → ∃ t, Ev (fun n => go_label_read_J1 n (cutAt 91 s) x5) (t, readOk s) := fun x5 hx => by
    have hro : readOk s = (nameOk (cutAt 91 s).1 && (!(cutAt 91 s).2.2 || ((cutAt 91 s).2.1.getLast? == some 93 && digsOk (cutAt 91 s).2.1.dropLast))) := rfl
    generalize cutAt 91 s = y3 at *
    have hn : nameOk y3.1 = true → x5 = !y3.2.2 := fun h => by rw [hx, h]; rfl
    cases hc : x5
    · -- a step with an index
      rw [hx, Bool.or_eq_false_iff, Bool.not_eq_false', Bool.not_eq_false'] at hc
      have hs := suffix93 (s := y3.2.1) (by omega)
      have hr : readOk s = (y3.2.1.getLast? == some 93 && digsOk y3.2.1.dropLast) := by rw [hro, hc.1, hc.2]; rfl
      rw [hr]
      have j3t : ∀ y16 : List UInt8 × Bool, Ev (fun n => go_label_read_J3 n y3 y16 true) (GStepT.mk [] 0, false) := fun y16 => .succ (fun n => by rw [go_label_read_J3]) (.t rfl (.pure rfl))
      have j3f : ∀ y16 : List UInt8 × Bool, y16.1.length ≤ 1048576 → ∃ t, Ev (fun n => go_label_read_J3 n y3 y16 false) (t, y16.1.all isDig) := fun y16 hb16 => by
        obtain ⟨t, ht⟩ := read_digits (y3 := y3) (y16 := y16) (x33 := GStepT.mk [] 0) hb16 0 (Nat.zero_le _) 0
        exact ⟨t, .succ (fun n => by rw [go_label_read_J3]) (.f rfl (by simpa using ht))⟩
      cases hl : y3.2.1.getLast? == some 93
      · rw [hl] at hs
        exact ⟨_, .succ (fun n => by rw [go_label_read_J1]) (.f rfl (.bind hs (.t rfl (j3t _))))⟩
      · rw [hl] at hs
        simp only [if_true] at hs
        have hdl : y3.2.1.dropLast.length ≤ 1048576 := by simp; omega
        generalize y3.2.1.dropLast = d at *
        obtain ⟨t, ht⟩ := j3f (d, true) hdl
        cases d with
        | nil => exact ⟨_, .succ (fun n => by rw [go_label_read_J1]) (.f rfl (.bind hs (.f rfl (.t rfl (j3t _)))))⟩
        | cons c d =>
          by_cases h4 : (c :: d).length ≤ 4
          · by_cases hz : c = 48 ∧ 1 < (c :: d).length
            · refine ⟨GStepT.mk [] 0, .succ (fun n => by rw [go_label_read_J1]) (.f rfl (.bind hs ?_))⟩
              refine .f rfl ?_
              refine .f (by simp; omega) ?_
              refine .f (by simp at h4 ⊢; omega) ?_
              refine .opt (y := c) rfl ?_
              refine .t (by simp [hz.1]) ?_
              rw [show decide (1 < ((c :: d).length : Int)) = true by have := hz.2; simp only [decide_eq_true_eq]; omega]
              refine (j3t _).to ?_
              have h1 : decide (1 < (c :: d).length) = true := by simpa only [decide_eq_true_eq] using hz.2
              have h2 : ((c :: d).head? == some 48) = true := by simp [hz.1]
              simp only [digsOk, h1, h2, Bool.and_self, Bool.not_true, Bool.and_false, Bool.false_and]
            · refine ⟨t, .succ (fun n => by rw [go_label_read_J1]) (.f rfl (.bind hs ?_))⟩
              refine .f rfl ?_
              refine .f (by simp; omega) ?_
              refine .f (by simp at h4 ⊢; omega) ?_
              refine .opt (y := c) rfl ?_
              have e : (t, (c :: d).all isDig) = (t, true && digsOk (c :: d)) := by
                have : (decide (1 ≤ (c :: d).length)) = true := by simp
                have hz' : ((c :: d).head? == some 48 && decide (1 < (c :: d).length)) = false := by
                  rw [Bool.and_eq_false_iff]
                  by_cases h8 : c = 48
                  · exact .inr (by simpa using fun h => hz ⟨h8, h⟩)
                  · exact .inl (by simpa using h8)
                simp only [digsOk, this, h4, decide_true, hz', Bool.not_false, Bool.true_and]
              rw [← e]
              refine .cond (fun h => ?_) fun h => ht
              have h8 : c = 48 := UInt8.toNat_inj.1 (by simp at h; show c.toNat = 48; omega)
              rw [show decide (1 < ((c :: d).length : Int)) = false by simp only [decide_eq_false_iff_not]; exact fun hh => hz ⟨h8, by omega⟩]
              exact ht
          · refine ⟨GStepT.mk [] 0, .succ (fun n => by rw [go_label_read_J1]) (.f rfl (.bind hs ?_))⟩
            refine .f rfl ?_
            refine .f (by simp; omega) ?_
            refine .t (by simp at h4 ⊢; omega) ?_
            refine (j3t _).to ?_
            simp only [digsOk, h4, decide_false, Bool.and_false, Bool.false_and]
    · -- a step with no index
      have j2 : ∀ b : Bool, Ev (fun n => go_label_read_J2 n (GStepT.mk y3.1 (-1)) b) (GStepT.mk y3.1 (-1), b) := fun b => .succ (fun n => by rw [go_label_read_J2]) (.pure rfl)
      refine ⟨GStepT.mk y3.1 (-1), .succ (fun n => by rw [go_label_read_J1]) (.t rfl (.cond (fun h => ?_) fun h => ?_))⟩
      · rw [Bool.not_eq_true'] at h
        refine .bind (label_name (by omega)) ((j2 _).to ?_)
        rw [hro, h]; simp
      · rw [Bool.not_eq_false'] at h
        refine (j2 _).to ?_
        rw [hx, h] at hc
        rw [hro]
        simp at hc
        simp [hc]
  obtain ⟨t, ht⟩ := key _ rfl
  refine ⟨t, .succ (fun n => by rw [go_label_read]) ?_⟩
  refine .bind (cut91 hb) ?_
  refine .bind (label_name (by omega)) ?_
  refine .cond (fun h => ?_) fun h => ?_
  · rw [h, Bool.true_or] at ht; exact ht
  · rw [h, Bool.false_or] at ht; exact ht
end Go.Ab
