/-
  VALUES: WHAT IS VALID, THE SAME, COPIES.
-/
import Derived.Test.YtagebdhlgnlcnaaGreatDoorOwn1
import Derived.Test.YtagebdhlgnlcnaaGreatDoorLib5
import Derived.Lib.ItoaLen
import Derived.Lib.ParseIntB
namespace Go.Proofs.YtagebdhlgnlcnaaGreatDoor
open Go Go.Ab
set_option linter.unusedVariables false
set_option linter.unusedSimpArgs false
def v0 : GValue := ⟨0, ⟨0, 0⟩, false, [], []⟩
def chOk (c : UInt8) : Bool := decide (32 ≤ c.toNat) && decide (c.toNat ≤ 126)
def nul (v : GRatio) : Bool := v.num == 0 && v.den == 0
mutual
def vfine : GValue → Bool
 | ⟨k, q, t, s, l⟩ =>
   if k = 1 then rok q && (!t && (s.isEmpty && l.isEmpty))
   else if k = 2 then nul q && (s.isEmpty && l.isEmpty)
   else if k = 3 then nul q && (!t && (l.isEmpty && (decide (s.length ≤ 60) && s.all chOk)))
   else if k = 4 then nul q && (!t && (s.isEmpty && vfineL l))
   else false
def vfineL : List GValue → Bool
 | [] => true
 | x :: l => vfine x && vfineL l
end
theorem vfine_eq (v : GValue) : vfine v =
  if v.kind = 1 then rok v.num && (!v.truth && (v.str.isEmpty && v.list.isEmpty))
  else if v.kind = 2 then nul v.num && (v.str.isEmpty && v.list.isEmpty)
  else if v.kind = 3 then nul v.num && (!v.truth && (v.list.isEmpty && (decide (v.str.length ≤ 60) && v.str.all chOk)))
  else if v.kind = 4 then nul v.num && (!v.truth && (v.str.isEmpty && vfineL v.list))
  else false := by cases v; rw [vfine]
theorem vfineL_all (l : List GValue) : vfineL l = l.all vfine := by
 induction l with
 | nil => rfl
 | cons x l ih => simp [vfineL, ih]
def vcheck (v : GValue) : Int := if 100 < vparts v ∨ 6 < vdeep v then 4 else if vfine v then 0 else 8
theorem wf_num {v : GValue} (h : v.wf) : wfR v.num := by
 rw [GValue.wf_eq] at h
 have := h.2.1
 rw [GRatio.wf_eq] at this
 simpa [wfR, I64, IntKind.min, IntKind.max, IntKind.signed, IntKind.bits] using this
theorem wf_list {v : GValue} (h : v.wf) : ∀ x ∈ v.list, x.wf := by
 rw [GValue.wf_eq] at h; exact h.2.2.2.2
theorem value_fine_L3 {v : GValue} : Ev (fun n => go_value_fine_L3 n v) (nul v.num && (!v.truth && (v.str.isEmpty && v.list.isEmpty))) := by
 rw [ev_value_fine_L3]
 obtain ⟨k, ⟨p, q⟩, t, s, l⟩ := v
 simp only [Ev.pif, Ev.some_iff, nul, Bool.and_true]
 cases p == 0 <;> cases q == 0 <;> cases t <;> cases s <;> cases l <;> simp <;> omega
theorem value_fine : ∀ v : GValue, v.wf → v.size ≤ 8388608 → Ev (fun n => go_value_fine n v) (vfine v) := vind fun v ih hw hs => by
 have hsl := size_list v
 have hlen := len_size v.list
 rw [ev_value_fine, vfine_eq]
 by_cases h1 : v.kind = 1
 ·rw [if_pos h1, Ev.pif_t (by simpa using h1), Ev.bind_iff (ratio_Check (wf_num hw).1)]
  cases hr : rok v.num
  ·rw [Ev.pif_t (by rfl), Ev.some_iff]; rfl
  ·rw [Ev.pif_f (by rfl)]
   exact value_fine_L3
 rw [if_neg h1, Ev.pif_f (by simpa using h1)]
 by_cases h2 : v.kind = 2
 ·rw [if_pos h2, Ev.pif_t (by simpa using h2)]
  exact value_fine_L3
 rw [if_neg h2, Ev.pif_f (by simpa using h2)]
 by_cases h3 : v.kind = 3
 ·rw [if_pos h3, Ev.pif_t (by simpa using h3)]
  by_cases hl : v.str.length ≤ 60
  ·rw [Ev.pif_f (by simp; omega), GValue.re_eq]
   have loop : ∀ w : GValue, ∀ k, k ≤ v.str.length → Ev (fun n => go_value_fine_L0 n (k : Int) v w) ((v.str.drop k).all chOk && (nul w.num && (!w.truth && (w.str.isEmpty && w.list.isEmpty)))) := fun w =>
    down (by
     rw [ev_value_fine_L0, Ev.pif_f (by simp), GValue.re_eq]
     simpa using value_fine_L3) fun k hk ihk => by
     have bad : Ev (fun n => go_value_fine_L1 n (k : Int) true v w) false := by rw [ev_value_fine_L1, Ev.pif_t (by rfl), Ev.some_iff]
     rw [← List.getElem_cons_drop (h := hk), List.all_cons]
     rw [ev_value_fine_L0, Ev.pif_t (by simpa using hk), Ev.opt_iff (ix_lt hk), GValue.re_eq, GValue.re_eq]
     by_cases c1 : v.str[k].toNat < 32
     ·rw [Ev.pif_t (by simp; omega)]
      refine bad.to ?_
      have : chOk v.str[k] = false := by simp [chOk]; omega
      rw [this]; rfl
     ·rw [Ev.pif_f (by simp; omega), Ev.opt_iff (ix_lt hk)]
      by_cases c2 : v.str[k].toNat > 126
      ·rw [show decide ((v.str[k].toNat : Int) > 126) = true by simp; omega]
       refine bad.to ?_
       have : chOk v.str[k] = false := by simp [chOk]; omega
       rw [this]; rfl
      ·rw [show decide ((v.str[k].toNat : Int) > 126) = false by simp; omega, ev_value_fine_L1, Ev.pif_f (by rfl), wrk (by omega), GValue.re_eq, GValue.re_eq]
       have : chOk v.str[k] = true := by simp [chOk]; omega
       rw [this, Bool.true_and]
       exact ihk
   refine (loop ⟨v.kind, v.num, v.truth, [], v.list⟩ 0 (Nat.zero_le _)).to ?_
   simp only [List.drop_zero, hl, decide_true, Bool.true_and, List.isEmpty_nil]
   cases nul v.num <;> cases v.truth <;> cases v.list.isEmpty <;> cases v.str.all chOk <;> rfl
  ·rw [Ev.pif_t (by simp; omega), Ev.some_iff]
   simp [hl]
 rw [if_neg h3, Ev.pif_f (by simpa using h3)]
 by_cases h4 : v.kind = 4
 ·rw [if_pos h4, Ev.pif_t (by simpa using h4)]
  have loop : ∀ w : GValue, ∀ k, k ≤ v.list.length → Ev (fun n => go_value_fine_L2 n (k : Int) v.list (v.list.length : Int) w) (vfineL (v.list.drop k) && (nul w.num && (!w.truth && (w.str.isEmpty && w.list.isEmpty)))) := fun w =>
   down (by
    rw [ev_value_fine_L2, Ev.pif_f (by simp), GValue.re_eq]
    simpa [vfineL] using value_fine_L3) fun k hk ihk => by
    have hx := List.getElem_mem hk
    have hsx := size_in hx
    rw [← List.getElem_cons_drop (h := hk), vfineL]
    rw [ev_value_fine_L2, Ev.pif_t (by simpa using hk), Ev.opt_iff (ix_lt hk), GValue.re_eq, Ev.bind_iff (ih _ hx (wf_list hw _ hx) (by omega))]
    cases hf : vfine v.list[k]
    ·rw [Ev.pif_t (by rfl), Ev.some_iff]; rfl
    ·rw [Ev.pif_f (by rfl), wrk (by omega), GValue.re_eq, Bool.true_and]
     exact ihk
  refine (loop ⟨v.kind, v.num, v.truth, v.str, []⟩ 0 (Nat.zero_le _)).to ?_
  simp only [List.drop_zero, List.isEmpty_nil, Bool.and_true]
  cases nul v.num <;> cases v.truth <;> cases v.str.isEmpty <;> cases vfineL v.list <;> rfl
 ·rw [if_neg h4, Ev.pif_f (by simpa using h4), Ev.some_iff]
theorem value_Check {v : GValue} (hw : v.wf) (hs : v.size ≤ 8388608) : Ev (fun n => go_value_Check n v) (vcheck v) := by
 have l0 : ∀ b, Ev (fun n => go_value_Check_L0 n b v) (if b then 4 else if vfine v then 0 else 8) := fun b => by
  rw [ev_value_Check_L0]
  cases b
  ·rw [Ev.pif_f (by rfl), GValue.re_eq, Ev.bind_iff (value_fine v hw hs)]
   cases vfine v
   ·rw [Ev.pif_t (by rfl), Ev.some_iff]; rfl
   ·rw [Ev.pif_f (by rfl), Ev.some_iff]; rfl
  ·rw [Ev.pif_t (by rfl), Ev.some_iff]; rfl
 rw [ev_value_Check, GValue.re_eq, Ev.bind_iff (value_measure v hs)]
 unfold vcheck
 simp only [Ev.pif]
 by_cases h1 : 100 < vparts v
 ·rw [if_pos (by simp; omega), if_pos (.inl h1)]; exact l0 true
 ·rw [if_neg (by simp; omega)]
  by_cases h2 : 6 < vdeep v
  ·rw [if_pos (.inr h2), show decide ((vdeep v : Int) > 6) = true by simp; omega]; exact l0 true
  ·rw [if_neg (by omega), show decide ((vdeep v : Int) > 6) = false by simp; omega]; exact l0 false
theorem ref03_fine : ∀ v : GValue, v.size ≤ 8388608 → Ev (fun n => go_ref03_fine n v) (vfine v) := vind fun v ih hs => by
 have hsl := size_list v
 have hlen := len_size v.list
 rw [ev_ref03_fine, vfine_eq]
 have hnul : ((v.num.num == 0) && ((v.num.den == 0) && true)) = nul v.num := by simp [nul]
 have hstr : ((v.str.length : Int) == 0) = v.str.isEmpty := by cases v.str <;> simp; omega
 have hlst : ((v.list.length : Int) == 0) = v.list.isEmpty := by cases v.list <;> simp; omega
 have hgt : decide ((v.list.length : Int) > 0) = !v.list.isEmpty := by cases v.list <;> simp
 have hgs : decide ((v.str.length : Int) > 0) = !v.str.isEmpty := by cases v.str <;> simp
 simp only [hnul, hstr, hlst, hgt, hgs]
 by_cases h1 : v.kind = 1
 ·rw [if_pos h1, Ev.pif_t (by simpa using h1), Ev.bind_iff ref01_Check]
  cases hr : rok v.num <;> cases ht : v.truth <;> cases hss : v.str.isEmpty <;> simp [Ev.pif, Ev.some_iff]
 rw [if_neg h1, Ev.pif_f (by simpa using h1)]
 by_cases h2 : v.kind = 2
 ·rw [if_pos h2, Ev.pif_t (by simpa using h2)]
  cases hr : nul v.num <;> cases hss : v.str.isEmpty <;> simp [Ev.pif, Ev.some_iff]
 rw [if_neg h2, Ev.pif_f (by simpa using h2)]
 by_cases h3 : v.kind = 3
 ·rw [if_pos h3, Ev.pif_t (by simpa using h3)]
  have bad : Ev (fun n => go_ref03_fine_L0 n true v) false := by rw [ev_ref03_fine_L0, Ev.pif_t (by rfl), Ev.some_iff]
  have loop : ∀ k, k ≤ v.str.length → Ev (fun n => go_ref03_fine_L1 n (k : Int) v) ((v.str.drop k).all chOk) :=
   down (by
    rw [ev_ref03_fine_L1, Ev.pif_f (by simp), Ev.some_iff]
    simp) fun k hk ihk => by
    have bad : Ev (fun n => go_ref03_fine_L2 n (k : Int) true v) false := by rw [ev_ref03_fine_L2, Ev.pif_t (by rfl), Ev.some_iff]
    rw [← List.getElem_cons_drop (h := hk), List.all_cons]
    rw [ev_ref03_fine_L1, Ev.pif_t (by simpa using hk), Ev.opt_iff (ix_lt hk), GValue.re_eq]
    by_cases c1 : v.str[k].toNat < 32
    ·rw [Ev.pif_t (by simp; omega)]
     refine bad.to ?_
     have : chOk v.str[k] = false := by simp [chOk]; omega
     rw [this]; rfl
    ·rw [Ev.pif_f (by simp; omega), Ev.opt_iff (ix_lt hk)]
     by_cases c2 : v.str[k].toNat > 126
     ·rw [show decide ((v.str[k].toNat : Int) > 126) = true by simp; omega]
      refine bad.to ?_
      have : chOk v.str[k] = false := by simp [chOk]; omega
      rw [this]; rfl
     ·rw [show decide ((v.str[k].toNat : Int) > 126) = false by simp; omega, ev_ref03_fine_L2, Ev.pif_f (by rfl), wrk (by omega), GValue.re_eq]
      have : chOk v.str[k] = true := by simp [chOk]; omega
      rw [this, Bool.true_and]
      exact ihk
  have good : Ev (fun n => go_ref03_fine_L0 n false v) (v.str.all chOk) := by
   rw [ev_ref03_fine_L0, Ev.pif_f (by rfl), GValue.re_eq]; simpa using loop 0 (Nat.zero_le _)
  rw [GValue.re_eq]
  cases hr : nul v.num
  ·rw [Ev.pif_t (by rfl)]; exact bad
  rw [Ev.pif_f (by rfl)]
  cases ht : v.truth
  ·rw [Ev.pif_f (by rfl)]
   cases hl : v.list.isEmpty
   ·rw [Ev.pif_t (by rfl)]; exact bad
   ·rw [Ev.pif_f (by rfl)]
    by_cases h60 : v.str.length ≤ 60
    ·rw [show decide ((v.str.length : Int) > 60) = false by simp; omega]
     simpa [h60] using good
    ·rw [show decide ((v.str.length : Int) > 60) = true by simp; omega]
     simpa [h60] using bad
  ·rw [Ev.pif_t (by rfl)]; exact bad
 rw [if_neg h3, Ev.pif_f (by simpa using h3)]
 by_cases h4 : v.kind = 4
 ·rw [if_pos h4, Ev.pif_t (by simpa using h4)]
  have bad : Ev (fun n => go_ref03_fine_L3 n true v) false := by rw [ev_ref03_fine_L3, Ev.pif_t (by rfl), Ev.some_iff]
  have loop : ∀ k, k ≤ v.list.length → Ev (fun n => go_ref03_fine_L4 n (k : Int) v) (vfineL (v.list.drop k)) :=
   down (by
    rw [ev_ref03_fine_L4, Ev.pif_f (by simp), Ev.some_iff]
    simp [vfineL]) fun k hk ihk => by
    have hx := List.getElem_mem hk
    have hsx := size_in hx
    rw [← List.getElem_cons_drop (h := hk), vfineL]
    rw [ev_ref03_fine_L4, Ev.pif_t (by simpa using hk), Ev.opt_iff (ix_lt hk), GValue.re_eq, Ev.bind_iff (ih _ hx (by omega))]
    cases hf : vfine v.list[k]
    ·rw [Ev.pif_t (by rfl), Ev.some_iff]; rfl
    ·rw [Ev.pif_f (by rfl), wrk (by omega), GValue.re_eq, Bool.true_and]
     exact ihk
  have good : Ev (fun n => go_ref03_fine_L3 n false v) (vfineL v.list) := by
   rw [ev_ref03_fine_L3, Ev.pif_f (by rfl), GValue.re_eq]; simpa using loop 0 (Nat.zero_le _)
  rw [GValue.re_eq]
  cases hr : nul v.num
  ·rw [Ev.pif_t (by rfl)]; exact bad
  rw [Ev.pif_f (by rfl)]
  cases ht : v.truth
  ·rw [Ev.pif_f (by rfl)]
   cases hl : v.str.isEmpty
   ·exact bad
   ·simpa using good
  ·rw [Ev.pif_t (by rfl)]; exact bad
 ·rw [if_neg h4, Ev.pif_f (by simpa using h4), Ev.some_iff]
theorem ref03_Check {v : GValue} (hs : v.size ≤ 8388608) : Ev (fun n => go_ref03_Check n v) (vcheck v) := by
 have l0 : ∀ b, Ev (fun n => go_ref03_Check_L0 n b v) (if b then 4 else if vfine v then 0 else 8) := fun b => by
  rw [ev_ref03_Check_L0]
  cases b
  ·rw [Ev.pif_f (by rfl), GValue.re_eq, Ev.bind_iff (ref03_fine v hs)]
   cases vfine v
   ·rw [Ev.pif_t (by rfl), Ev.some_iff]; rfl
   ·rw [Ev.pif_f (by rfl), Ev.some_iff]; rfl
  ·rw [Ev.pif_t (by rfl), Ev.some_iff]; rfl
 rw [ev_ref03_Check, GValue.re_eq, Ev.bind_iff (ref03_Parts v hs)]
 unfold vcheck
 by_cases h1 : 100 < vparts v
 ·rw [Ev.pif_t (by simp; omega), if_pos (.inl h1)]; exact l0 true
 ·rw [Ev.pif_f (by simp; omega), Ev.bind_iff (ref03_Deep v hs)]
  by_cases h2 : 6 < vdeep v
  ·rw [if_pos (.inr h2), show decide ((vdeep v : Int) > 6) = true by simp; omega]; exact l0 true
  ·rw [if_neg (by omega), show decide ((vdeep v : Int) > 6) = false by simp; omega]; exact l0 false
end Go.Proofs.YtagebdhlgnlcnaaGreatDoor


namespace Go.Proofs.YtagebdhlgnlcnaaGreatDoor
open Go Go.Ab
set_option linter.unusedVariables false
set_option linter.unusedSimpArgs false
end Go.Proofs.YtagebdhlgnlcnaaGreatDoor


namespace Go.Proofs.YtagebdhlgnlcnaaGreatDoor
open Go Go.Ab
set_option linter.unusedVariables false
set_option linter.unusedSimpArgs false
theorem vfine_num {v : GValue} (h : vfine v = true) (hk : v.kind = 1) : rok v.num = true := by
 rw [vfine_eq, if_pos hk] at h; simp only [Bool.and_eq_true] at h; exact h.1
theorem vfine_list {v : GValue} (h : vfine v = true) : ∀ x ∈ v.list, vfine x = true := by
 rw [vfine_eq] at h
 split at h
 ·simp only [Bool.and_eq_true, List.isEmpty_iff] at h; rw [h.2.2.2]; intro x hx; cases hx
 split at h
 ·simp only [Bool.and_eq_true, List.isEmpty_iff] at h; rw [h.2.2]; intro x hx; cases hx
 split at h
 ·simp only [Bool.and_eq_true, List.isEmpty_iff] at h; rw [h.2.2.1]; intro x hx; cases hx
 split at h
 ·simp only [Bool.and_eq_true, vfineL_all, List.all_eq_true] at h; exact h.2.2.2
 ·cases h
theorem vcheck_fine {v : GValue} (h : vcheck v = 0) : vfine v = true ∧ vparts v ≤ 100 ∧ vdeep v ≤ 6 := by
 unfold vcheck at h
 split at h
 ·cases h
 ·split at h
  ·exact ⟨‹_›, by omega, by omega⟩
  ·cases h
theorem vfine_kind {v : GValue} (h : vfine v = true) : v.kind = 1 ∨ v.kind = 2 ∨ v.kind = 3 ∨ v.kind = 4 := by
 rw [vfine_eq] at h
 by_cases h1 : v.kind = 1; · exact .inl h1
 by_cases h2 : v.kind = 2; · exact .inr (.inl h2)
 by_cases h3 : v.kind = 3; · exact .inr (.inr (.inl h3))
 by_cases h4 : v.kind = 4; · exact .inr (.inr (.inr h4))
 rw [if_neg h1, if_neg h2, if_neg h3, if_neg h4] at h; cases h
theorem vfine4 {v : GValue} (h : vfine v = true) (hk : v.kind = 4) : v.num.num = 0 ∧ v.num.den = 0 ∧ v.truth = false ∧ v.str = [] := by
 rw [vfine_eq, if_neg (by omega), if_neg (by omega), if_neg (by omega), if_pos hk] at h
 simp only [Bool.and_eq_true, nul, beq_iff_eq, Bool.not_eq_true', List.isEmpty_iff] at h
 exact ⟨h.1.1, h.1.2, h.2.1, h.2.2.1⟩
theorem ref03_Str {s : List UInt8} : Ev (fun n => go_ref03_Str n s) ⟨3, ⟨0, 0⟩, false, s, []⟩ := by rw [ev_ref03_Str, Ev.some_iff]
end Go.Proofs.YtagebdhlgnlcnaaGreatDoor


namespace Go.Proofs.YtagebdhlgnlcnaaGreatDoor
open Go Go.Ab
set_option linter.unusedVariables false
set_option linter.unusedSimpArgs false
theorem bytesI_append (a b : List UInt8) : bytesI (a ++ b) = bytesI a ++ bytesI b := by simp [bytesI]
theorem bytesI_len (a : List UInt8) : (bytesI a).length = a.length := by simp [bytesI]
theorem strI_bytesI : ∀ s : List UInt8, strI (bytesI s) = some s
 | [] => rfl
 | c :: s => by
   have h : Nat.ble c.toNat 255 = true := Nat.ble_eq_true_of_le (by have := c.toNat_lt; omega)
   show (match Int.ofNat c.toNat, strI (bytesI s) with
     | .ofNat m, some s => match Nat.ble m 255 with
       | true => some (m.toUInt8 :: s)
       | false => none
     | _, _ => none) = _
   rw [strI_bytesI s]
   simp only [h]
   simp [Nat.toUInt8]
theorem copyC (s : List Int) : Ev (fun n => go_strings_Builder_copyCheck n s) s := ⟨0, fun _ _ => rfl⟩
theorem ws {s t : List UInt8} (h : s.length + t.length ≤ 268435456) : Ev (fun n => go_strings_Builder_WriteString n t (bytesI s)) ((t.length : Int), bytesI (s ++ t)) := by
 rw [ev_strings_Builder_WriteString, Ev.bind_iff (copyC _), Ev.opt_iff (ext_okw (by rw [bytesI_len, bytesI_len]; exact h)), Ev.some_iff, bytesI_append]
theorem wb {s : List UInt8} {c : UInt8} {k : Int} (hk : k = (c.toNat : Int)) (h : s.length + 1 ≤ 268435456) : Ev (fun n => go_strings_Builder_WriteByte n k (bytesI s)) (bytesI (s ++ [c])) := by
 subst hk
 rw [ev_strings_Builder_WriteByte, Ev.bind_iff (copyC _), Ev.opt_iff (ext_okw (by rw [bytesI_len]; exact h)), Ev.some_iff, bytesI_append]
 rfl
theorem w8 {k : Int} (h : 0 ≤ k ∧ k ≤ 255) : IntKind.u8.wrap k = k := by
 unfold IntKind.wrap
 simp only [IntKind.bits, IntKind.signed, Bool.false_and, Bool.false_eq_true, if_false]
 omega
theorem w32 {k : Int} (h : 0 ≤ k ∧ k ≤ 255) : IntKind.u32.wrap k = k := by
 unfold IntKind.wrap
 simp only [IntKind.bits, IntKind.signed, Bool.false_and, Bool.false_eq_true, if_false]
 omega
theorem wr {s : List UInt8} {c : UInt8} {k : Int} (hk : k = (c.toNat : Int)) (hc : c.toNat < 128) (h : s.length + 1 ≤ 268435456) : ∃ q, Ev (fun n => go_strings_Builder_WriteRune n k (bytesI s)) (q, bytesI (s ++ [c])) := by
 subst hk
 have ha : Ev (fun n => go_unicode_utf8_AppendRune n (c.toNat : Int) (bytesI s)) (bytesI (s ++ [c])) := by
  rw [ev_unicode_utf8_AppendRune, w32 (by omega), Ev.pif_t (by simp; omega), w8 (by omega), Ev.opt_iff (ext_okw (by rw [bytesI_len]; exact h)), Ev.some_iff, bytesI_append]
  rfl
 refine ⟨IntKind.i64.wrap (((bytesI (s ++ [c])).length : Int) - ((bytesI s).length : Int)), ?_⟩
 rw [ev_strings_Builder_WriteRune, Ev.bind_iff (copyC _), Ev.bind_iff ha, Ev.some_iff]
theorem blen {s : List UInt8} : Ev (fun n => go_strings_Builder_Len n (bytesI s)) ((s.length : Int), bytesI s) := by rw [ev_strings_Builder_Len, Ev.some_iff, bytesI_len]
theorem bstr {s : List UInt8} : Ev (fun n => go_strings_Builder_String n (bytesI s)) s := ⟨0, fun _ _ => strI_bytesI s⟩
theorem dig_digit {k : Nat} (h : k < 10) : (UInt8.ofNat (48 + k)).toNat = 48 + k := by
 rw [UInt8.toNat_ofNat']; omega
theorem strI_one {k : Nat} (h : k < 10) : strI [IntKind.u8.wrap (IntKind.i64.wrap (48 + (k : Int)))] = some [UInt8.ofNat (48 + k)] := by
 rw [wI (by omega), w8 (by omega)]
 have := strI_bytesI [UInt8.ofNat (48 + k)]
 simp only [bytesI, List.map_cons, List.map_nil, dig_digit h] at this
 rw [← this]
 congr 2
theorem dec_small {u : Nat} (h : u < 10) : Lib.decDigits u = [UInt8.ofNat (48 + u)] := by rw [Lib.decDigits, dif_pos h]
theorem dec_big {u : Nat} (h : ¬ u < 10) : Lib.decDigits u = Lib.decDigits (u / 10) ++ [UInt8.ofNat (48 + u % 10)] := by rw [Lib.decDigits, dif_neg h]
theorem dec_len {u : Nat} (h : u < 18446744073709551616) : (Lib.decDigits u).length ≤ 20 := by rw [Lib.decDigits_length]; exact Lib.nDigits_le20 u h
theorem rem_ten {u : Nat} (h : u ≤ 9223372036854775807) : rem .i64 (u : Int) 10 = some ((u % 10 : Nat) : Int) := by
 unfold rem
 rw [if_neg (by decide)]
 congr 1
theorem quo_ten {u : Nat} (h : u ≤ 9223372036854775807) : quo .i64 (u : Int) 10 = some ((u / 10 : Nat) : Int) := by
 have := quo_nat (k := .i64) (a := u) (b := 10) (fun c hc => wI (by omega)) (by decide)
 exact this
theorem dec_loop : ∀ (u : Nat) (acc : List UInt8), u ≤ 9223372036854775807 → acc.length + Lib.nDigits u ≤ 1000 → Ev (fun n => go_ref01_Decimal_L0 n (u : Int) acc) (Lib.decDigits u ++ acc) := by
 intro u
 induction u using Nat.strongRecOn with
 | _ u ih =>
   intro acc hu ha
   have hp := Lib.nDigits_pos u
   rw [ev_ref01_Decimal_L0, Ev.opt_iff (rem_ten hu), Ev.opt_iff (strI_one (Nat.mod_lt _ (by decide))), Ev.opt_iff (cat_ok (by simp; omega)), Ev.opt_iff (quo_ten hu)]
   by_cases h : u < 10
   · have h0 : ((u / 10 : Nat) : Int) = 0 := by omega
     rw [Ev.pif_t (beq_iff_eq.2 h0), Ev.some_iff, dec_small h, Nat.mod_eq_of_lt h]
   · have h0 : ((u / 10 : Nat) : Int) ≠ 0 := by omega
     rw [Ev.pif_f (beq_eq_false_iff_ne.2 h0), dec_big h, List.append_assoc]
     rw [Lib.nDigits_big h] at ha
     exact ih (u / 10) (by omega) _ (by omega) (by simp; omega)
theorem ref01_Decimal_nat {u : Nat} (h : u ≤ 9223372036854775807) : Ev (fun n => go_ref01_Decimal n (u : Int)) (Lib.decDigits u) := by
 rw [ev_ref01_Decimal, Ev.pif_f (by simp)]
 refine (dec_loop u [] h ?_).to (List.append_nil _)
 have := Lib.nDigits_le20 u (by omega)
 simp; omega
theorem ref01_Decimal {x : Int} (h : -9223372036854775807 ≤ x ∧ x ≤ 9223372036854775807) : Ev (fun n => go_ref01_Decimal n x) (Lib.itoa x) := by
 unfold Lib.itoa
 by_cases hx : x < 0
 ·rw [if_pos hx, ev_ref01_Decimal, Ev.pif_t (by simpa using hx), wI (by omega)]
  have := ref01_Decimal_nat (u := x.natAbs) (by omega)
  rw [show ((x.natAbs : Nat) : Int) = 0 - x by omega] at this
  rw [Ev.bind_iff this, Ev.opt_iff (cat_ok (by have := dec_len (u := x.natAbs) (by omega); simp; omega)), Ev.some_iff]
  rfl
 ·rw [if_neg hx]
  have := ref01_Decimal_nat (u := x.toNat) (by omega)
  rwa [show ((x.toNat : Nat) : Int) = x by omega] at this
theorem format_int {x : Int} (h : -9223372036854775807 ≤ x ∧ x ≤ 9223372036854775807) : Ev (fun n => go_strconv_FormatInt n x 10) (Lib.itoa x) := ⟨0, fun _ _ => by
 unfold go_strconv_FormatInt; rw [if_pos ⟨rfl, by omega, h.2⟩]⟩
theorem itoa_len {x : Int} (h : -9223372036854775807 ≤ x ∧ x ≤ 9223372036854775807) : (Lib.itoa x).length ≤ 21 := Lib.itoa_length_le x (by omega) h.2
def rtext (r : GRatio) : List UInt8 := if r.den = 1 then Lib.itoa r.num else Lib.itoa r.num ++ 47 :: Lib.itoa r.den
theorem rtext_len {r : GRatio} (h : rok r = true) : (rtext r).length ≤ 43 := by
 obtain ⟨h1, h2, h3⟩ := rok_b h
 unfold rtext
 have a := itoa_len (x := r.num) (by omega)
 have b := itoa_len (x := r.den) (by omega)
 split
 ·omega
 ·simp; omega
theorem ratio_Text {r : GRatio} (h : rok r = true) : Ev (fun n => go_ratio_Text n r) (rtext r, 0) := by
 obtain ⟨h1, h2, h3⟩ := rok_b h
 have a := itoa_len (x := r.num) (by omega)
 have b := itoa_len (x := r.den) (by omega)
 have hc := ratio_Check (r := r) (by unfold I64; omega)
 rw [if_pos h] at hc
 rw [ev_ratio_Text, Ev.bind_iff hc, Ev.pif_f (by rfl), Ev.bind_iff (format_int (by omega))]
 unfold rtext
 by_cases hd : r.den = 1
 ·rw [Ev.pif_f (by simpa using hd), ev_ratio_Text_L0, Ev.some_iff, if_pos hd]
 ·rw [Ev.pif_t (by simpa using hd), Ev.bind_iff (format_int (by omega)), Ev.opt_iff (cat_ok (by simp; omega)), Ev.opt_iff (cat_ok (by simp; omega)), ev_ratio_Text_L0, Ev.some_iff, if_neg hd]
  rfl
theorem ref01_Text {r : GRatio} (h : rok r = true) : Ev (fun n => go_ref01_Text n r) (rtext r, 0) := by
 obtain ⟨h1, h2, h3⟩ := rok_b h
 have a := itoa_len (x := r.num) (by omega)
 have b := itoa_len (x := r.den) (by omega)
 have hc := ref01_Check (r := r)
 rw [if_pos h] at hc
 rw [ev_ref01_Text, Ev.bind_iff hc, Ev.pif_f (by rfl)]
 unfold rtext
 by_cases hd : r.den = 1
 ·rw [Ev.pif_t (by simpa using hd), Ev.bind_iff (ref01_Decimal (by omega)), Ev.some_iff, if_pos hd]
 ·rw [Ev.pif_f (by simpa using hd), Ev.bind_iff (ref01_Decimal (by omega)), Ev.opt_iff (cat_ok (by simp; omega)), Ev.bind_iff (ref01_Decimal (by omega)), Ev.opt_iff (cat_ok (by simp; omega)), Ev.some_iff, if_neg hd]
  simp
end Go.Proofs.YtagebdhlgnlcnaaGreatDoor


namespace Go.Proofs.YtagebdhlgnlcnaaGreatDoor
open Go Go.Ab
set_option linter.unusedVariables false
set_option linter.unusedSimpArgs false
theorem bytesI_nil : bytesI [] = [] := rfl
theorem byteEq (c d : UInt8) : (((c.toNat : Nat) : Int) == ((d.toNat : Nat) : Int)) = (c == d) := by
 rw [Bool.eq_iff_iff, beq_iff_eq, beq_iff_eq]
 exact ⟨fun h => UInt8.toNat_inj.1 (by omega), fun h => by rw [h]⟩
theorem b34 (c : UInt8) : (((c.toNat : Nat) : Int) == 34) = (c == 34) := byteEq c 34
theorem b92 (c : UInt8) : (((c.toNat : Nat) : Int) == 92) = (c == 92) := byteEq c 92
theorem b91 (c : UInt8) : (((c.toNat : Nat) : Int) == 91) = (c == 91) := byteEq c 91
theorem b45 (c : UInt8) : (((c.toNat : Nat) : Int) == 45) = (c == 45) := byteEq c 45
theorem b47 (c : UInt8) : (((c.toNat : Nat) : Int) == 47) = (c == 47) := byteEq c 47
theorem b48 (c : UInt8) : (((c.toNat : Nat) : Int) == 48) = (c == 48) := byteEq c 48
def esc : List UInt8 → List UInt8
 | [] => []
 | c :: s => if c = 34 ∨ c = 92 then 92 :: c :: esc s else c :: esc s
def vtext (v : GValue) : List UInt8 := if v.kind = 1 then rtext v.num else if v.kind = 2 then (if v.truth then [116, 114, 117, 101] else [102, 97, 108, 115, 101]) else 34 :: (esc v.str ++ [34])
theorem esc_len : ∀ s : List UInt8, (esc s).length ≤ 2 * s.length
 | [] => Nat.le_refl _
 | c :: s => by have := esc_len s; unfold esc; split <;> simp <;> omega
theorem drop_cons {s : List UInt8} {k : Nat} (h : k < s.length) : s.drop k = s[k] :: s.drop (k + 1) := (List.getElem_cons_drop (h := h)).symm
theorem value_write3 {s : List UInt8} (hs : s.length ≤ 60) (ha : s.all chOk = true) : ∀ k, k ≤ s.length → ∀ acc : List UInt8, acc.length ≤ 1000 - 2 * (s.length - k) → Ev (fun n => go_value_write_L0 n (bytesI acc) s k) (bytesI (acc ++ (esc (s.drop k) ++ [34]))) :=
 down (fun acc hl => by
  rw [ev_value_write_L0, Ev.pif_f (by simp), Ev.bind_iff (wb (k := 34) (c := 34) rfl (by omega)), Ev.some_iff]
  simp [esc]) fun k hk ih acc hl => by
  have hc := List.all_eq_true.1 ha _ (List.getElem_mem hk)
  have hlow : s[k].toNat < 128 := by
   unfold chOk at hc; simp at hc; omega
  rw [ev_value_write_L0, Ev.pif_t (by simpa using hk), decL_low hk hlow]
  have l2 : ∀ acc' : List UInt8, acc'.length + 1 ≤ 1000 - 2 * (s.length - (k + 1)) → Ev (fun n => go_value_write_L2 n (s[k].toNat : Int) (bytesI acc') s (k + 1)) (bytesI (acc' ++ (s[k] :: (esc (s.drop (k + 1)) ++ [34])))) := fun acc' h' => by
   obtain ⟨q, hq⟩ := wr (s := acc') (c := s[k]) rfl hlow (by omega)
   rw [ev_value_write_L2, Ev.bind_iff hq]
   refine (ih (acc' ++ [s[k]]) (by simp; omega)).to ?_
   simp
  have l1 : (s[k] = 34 ∨ s[k] = 92) → Ev (fun n => go_value_write_L1 n (s[k].toNat : Int) (bytesI acc) s (k + 1)) (bytesI (acc ++ (esc (s.drop k) ++ [34]))) := fun h => by
   rw [ev_value_write_L1, Ev.bind_iff (wb (k := 92) (c := 92) rfl (by omega))]
   refine (l2 (acc ++ [92]) (by simp; omega)).to ?_
   rw [drop_cons hk]
   simp [esc, h]
  simp only [b34, b92]
  by_cases h34 : s[k] = 34
  ·rw [Ev.pif_t (by simpa using h34)]; exact l1 (.inl h34)
  ·rw [Ev.pif_f (by simpa using h34)]
   by_cases h92 : s[k] = 92
   ·rw [Ev.pif_t (by simpa using h92)]; exact l1 (.inr h92)
   ·rw [Ev.pif_f (by simpa using h92)]
    refine (l2 acc (by omega)).to ?_
    rw [drop_cons hk]
    simp [esc, h34, h92]
theorem vfine3 {v : GValue} (h : vfine v = true) (hk : v.kind = 3) : v.str.length ≤ 60 ∧ v.str.all chOk = true := by
 rw [vfine_eq, if_neg (by omega), if_neg (by omega), if_pos hk] at h
 simp only [Bool.and_eq_true, decide_eq_true_eq] at h
 exact h.2.2.2
theorem vtext_len {v : GValue} (h : vcheck v = 0) : (vtext v).length ≤ 130 := by
 obtain ⟨hf, _, _⟩ := vcheck_fine h
 unfold vtext
 split
 ·rename_i hk; have := rtext_len (vfine_num hf hk); omega
 split
 ·split <;> decide
 ·have := esc_len v.str
  rcases vfine_kind hf with hk | hk | hk | hk
  ·contradiction
  ·contradiction
  ·obtain ⟨a, b⟩ := vfine3 hf hk
   simp; omega
  ·obtain ⟨_, _, _, a⟩ := vfine4 hf hk
   rw [a]; decide
theorem vfine_str {v : GValue} (hf : vfine v = true) (hk : v.kind = 3) : v.str.length ≤ 60 ∧ v.str.all chOk = true := vfine3 hf hk
theorem value_Text {v : GValue} (hw : v.wf) (hs : v.size ≤ 8388608) (h : vcheck v = 0) (hk : v.kind ≠ 4) : Ev (fun n => go_value_Text n v) (vtext v, 0) := by
 obtain ⟨hf, _, _⟩ := vcheck_fine h
 have hl := vtext_len h
 have hwr : Ev (fun n => go_value_write n v []) (bytesI (vtext v)) := by
  rw [ev_value_write]
  unfold vtext
  by_cases h1 : v.kind = 1
  ·have hr := vfine_num hf h1
   have := ws (s := []) (t := rtext v.num) (by have := rtext_len hr; simp; omega)
   rw [bytesI_nil, List.nil_append] at this
   rw [Ev.pif_t (by simpa using h1), Ev.bind_iff (ratio_Text hr), Ev.bind_iff this, Ev.some_iff, if_pos h1]
  rw [Ev.pif_f (by simpa using h1), if_neg h1]
  by_cases h2 : v.kind = 2
  ·rw [Ev.pif_t (by simpa using h2), if_pos h2]
   cases ht : v.truth
   ·have := ws (s := []) (t := [102, 97, 108, 115, 101]) (by decide)
    rw [bytesI_nil, List.nil_append] at this
    rw [Ev.pif_f (by rfl), Ev.bind_iff this, Ev.some_iff]; rfl
   ·have := ws (s := []) (t := [116, 114, 117, 101]) (by decide)
    rw [bytesI_nil, List.nil_append] at this
    rw [Ev.pif_t (by rfl), Ev.bind_iff this, Ev.some_iff]; rfl
  rw [Ev.pif_f (by simpa using h2), if_neg h2]
  have h3 : v.kind = 3 := by rcases vfine_kind hf with a | a | a | a <;> first | contradiction | exact a
  obtain ⟨q1, q2⟩ := vfine_str hf h3
  have := wb (s := []) (k := 34) (c := 34) rfl (by decide)
  rw [bytesI_nil, List.nil_append] at this
  rw [Ev.pif_t (by simpa using h3), Ev.bind_iff this]
  exact value_write3 q1 q2 0 (Nat.zero_le _) [34] (by simp; omega)
 have hc := value_Check hw hs
 rw [h] at hc
 rw [ev_value_Text, GValue.re_eq, Ev.bind_iff hc, Ev.pif_f (by rfl), Ev.bind_iff hwr, Ev.bind_iff blen, Ev.pif_f (by simp; omega), Ev.bind_iff bstr, Ev.some_iff]
theorem sub_at {s : List UInt8} {k : Nat} (h : k < s.length) (hb : s.length ≤ 4611686018427387904) : sub s (k : Int) (IntKind.i64.wrap ((k : Int) + 1)) = some [s[k]] := by
 rw [wrk (by omega), sub_nat (by omega) (by omega)]
 congr 1
 rw [List.drop_take, show k + 1 - k = 1 by omega, drop_cons h]
 rfl
theorem ref03_Written {v : GValue} (h : vcheck v = 0) (hk : v.kind ≠ 4) : Ev (fun n => go_ref03_Written n v) (vtext v) := by
 obtain ⟨hf, _, _⟩ := vcheck_fine h
 rw [ev_ref03_Written]
 unfold vtext
 by_cases h1 : v.kind = 1
 ·rw [Ev.pif_t (by simpa using h1), Ev.bind_iff (ref01_Text (vfine_num hf h1)), Ev.some_iff, if_pos h1]
 rw [Ev.pif_f (by simpa using h1), if_neg h1]
 by_cases h2 : v.kind = 2
 ·rw [Ev.pif_t (by simpa using h2), if_pos h2]
  cases ht : v.truth
  ·rw [Ev.pif_f (by rfl), Ev.some_iff]; rfl
  ·rw [Ev.pif_t (by rfl), Ev.some_iff]; rfl
 rw [Ev.pif_f (by simpa using h2), if_neg h2]
 have h3 : v.kind = 3 := by rcases vfine_kind hf with a | a | a | a <;> first | contradiction | exact a
 obtain ⟨q1, q2⟩ := vfine_str hf h3
 rw [Ev.pif_t (by simpa using h3), GValue.re_eq]
 have loop : ∀ k, k ≤ v.str.length → ∀ acc : List UInt8, acc.length ≤ 1000 - 2 * (v.str.length - k) → Ev (fun n => go_ref03_Written_L0 n (k : Int) acc v) (acc ++ (esc (v.str.drop k) ++ [34])) :=
  down (fun acc hl => by
   rw [ev_ref03_Written_L0, Ev.pif_f (by simp), Ev.opt_iff (cat_ok (by simp; omega)), Ev.some_iff]
   simp [esc]) fun k hk ih acc hl => by
   have l2 : ∀ acc' : List UInt8, acc'.length + 1 ≤ 1000 - 2 * (v.str.length - (k + 1)) → Ev (fun n => go_ref03_Written_L2 n (k : Int) acc' v) (acc' ++ (v.str[k] :: (esc (v.str.drop (k + 1)) ++ [34]))) := fun acc' h' => by
    rw [ev_ref03_Written_L2, Ev.opt_iff (sub_at hk (by omega)), Ev.opt_iff (cat_ok (by simp; omega)), wrk (by omega), GValue.re_eq]
    refine (ih (acc' ++ [v.str[k]]) (by simp; omega)).to ?_
    simp
   have l1 : ∀ b : Bool, (b = true ↔ (v.str[k] = 34 ∨ v.str[k] = 92)) → Ev (fun n => go_ref03_Written_L1 n (k : Int) acc b v) (acc ++ (esc (v.str.drop k) ++ [34])) := fun b hb => by
    rw [ev_ref03_Written_L1, drop_cons hk]
    cases b
    ·have hn : ¬ (v.str[k] = 34 ∨ v.str[k] = 92) := fun h => by have := hb.2 h; cases this
     rw [Ev.pif_f (by rfl), GValue.re_eq]
     refine (l2 acc (by omega)).to ?_
     simp [esc, hn]
    ·have hn := hb.1 rfl
     rw [Ev.pif_t (by rfl), Ev.opt_iff (cat_ok (by simp; omega)), GValue.re_eq]
     refine (l2 (acc ++ [92]) (by simp; omega)).to ?_
     simp [esc, hn]
   rw [ev_ref03_Written_L0, Ev.pif_t (by simpa using hk), Ev.opt_iff (ix_lt hk)]
   simp only [b34, b92]
   by_cases h34 : v.str[k] = 34
   ·rw [Ev.pif_t (by simpa using h34), GValue.re_eq]; exact l1 true (by simp [h34])
   ·rw [Ev.pif_f (by simpa using h34), Ev.opt_iff (ix_lt hk), GValue.re_eq]
    exact l1 _ (by simp [h34])
 exact loop 0 (Nat.zero_le _) [34] (by simp; omega)
end Go.Proofs.YtagebdhlgnlcnaaGreatDoor


namespace Go.Proofs.YtagebdhlgnlcnaaGreatDoor
open Go Go.Ab
set_option linter.unusedVariables false
set_option linter.unusedSimpArgs false
theorem pre_take {p s : List UInt8} : p.isPrefixOf s = (s.take p.length == p) := by
 rw [Bool.eq_iff_iff, List.isPrefixOf_iff_prefix, List.prefix_iff_eq_take, beq_iff_eq]
 exact eq_comm
theorem hasPrefix {s p : List UInt8} : Ev (fun n => go_internal_stringslite_HasPrefix n s p) (p.isPrefixOf s) := by
 rw [ev_internal_stringslite_HasPrefix, pre_take]
 by_cases h : p.length ≤ s.length
 ·rw [Ev.pif_t (by simp; omega), Ev.opt_iff (sub_front h), Ev.some_iff]
 ·rw [Ev.pif_f (by simp; omega), Ev.some_iff, eq_comm, beq_eq_false_iff_ne]
  intro e
  have := congrArg List.length e
  simp at this; omega
theorem hasPrefix' {s p : List UInt8} : Ev (fun n => go_strings_HasPrefix n s p) (p.isPrefixOf s) := by rw [ev_strings_HasPrefix, Ev.bind_iff hasPrefix, Ev.some_iff]
theorem pre_len {p s : List UInt8} (h : p.isPrefixOf s = true) : p.length ≤ s.length := by
 rw [List.isPrefixOf_iff_prefix] at h; exact h.length_le
theorem cutPrefix {s p : List UInt8} : Ev (fun n => go_strings_CutPrefix n s p) (if p.isPrefixOf s then s.drop p.length else s, p.isPrefixOf s) := by
 have h : Ev (fun n => go_internal_stringslite_CutPrefix n s p) (if p.isPrefixOf s then s.drop p.length else s, p.isPrefixOf s) := by
  rw [ev_internal_stringslite_CutPrefix, Ev.bind_iff hasPrefix]
  cases hp : p.isPrefixOf s
  ·rw [Ev.pif_t (by rfl), Ev.some_iff]; rfl
  ·rw [Ev.pif_f (by rfl), Ev.opt_iff (sub_nat (pre_len hp) (Nat.le_refl _)), Ev.some_iff]
   simp
 rw [ev_strings_CutPrefix, Ev.bind_iff h, Ev.some_iff]
theorem cut47 {s : List UInt8} (hl : s.length ≤ 1000000) : Ev (fun n => go_strings_Cut n s [47]) (cutAt 47 s) := by
 have hi : Ev (fun n => go_internal_stringslite_Index n s [47]) (Lib.indexByte s 47) := ⟨0, fun _ _ => rfl⟩
 have h : Ev (fun n => go_internal_stringslite_Cut n s [47]) (cutAt 47 s) := by
  rw [ev_internal_stringslite_Cut, Ev.bind_iff hi, index_at]
  cases ha : s.any (· == 47)
  ·rw [cut_no ha, Ev.pif_f (by rfl), Ev.some_iff]
  ·obtain ⟨c1, c2, c3⟩ := cut_idx ha
   rw [if_pos rfl, Ev.pif_t (by simp), Ev.opt_iff (sub_front (by omega))]
   simp only [List.length_cons, List.length_nil]
   rw [show (((0 + 1 : Nat) : Nat) : Int) = 1 by rfl, wrk (by omega), Ev.opt_iff (sub_nat (by omega) (Nat.le_refl _)), Ev.some_iff, c2]
   unfold cutAt
   rw [ha]
   simp [c3]
 rw [ev_strings_Cut, Ev.bind_iff h, Ev.some_iff]
def dstep (a : Nat) (c : UInt8) : Nat := 10 * a + (c.toNat - 48)
def val (a : Nat) (s : List UInt8) : Nat := s.foldl dstep a
theorem val_nil (a : Nat) : val a [] = a := by unfold val; rw [List.foldl_nil]
theorem val_cons (a : Nat) (c : UInt8) (s : List UInt8) : val a (c :: s) = val (10 * a + (c.toNat - 48)) s := by unfold val; rw [List.foldl_cons, dstep]
theorem val_append (a : Nat) (s : List UInt8) (c : UInt8) : val a (s ++ [c]) = 10 * val a s + (c.toNat - 48) := by unfold val; rw [List.foldl_append, List.foldl_cons, List.foldl_nil, dstep]
theorem isDig_iff {c : UInt8} : isDig c = true ↔ 48 ≤ c.toNat ∧ c.toNat ≤ 57 := by unfold isDig; simp
theorem val_lt : ∀ (s : List UInt8) (a k : Nat), s.all isDig = true → a < 10 ^ k → val a s < 10 ^ (k + s.length)
 | [], a, k, _, h => by rw [val_nil, List.length_nil, Nat.add_zero]; exact h
 | c :: s, a, k, hs, h => by
   simp only [List.all_cons, Bool.and_eq_true] at hs
   have hc := isDig_iff.1 hs.1
   have := val_lt s (10 * a + (c.toNat - 48)) (k + 1) hs.2 (by rw [Nat.pow_succ]; omega)
   rw [val_cons, List.length_cons, show k + (s.length + 1) = k + 1 + s.length by omega]
   exact this
theorem w32i {k : Int} (h : -1000 ≤ k ∧ k ≤ 1000) : IntKind.i32.wrap k = k := IntWalk.i32_in _ (by omega)
def dres (s : List UInt8) : Int × Bool := if s.length = 0 ∨ 10 < s.length ∨ (s.head? = some 48 ∧ 1 < s.length) then (0, false) else if s.all isDig then ((val 0 s : Nat), true) else (0, false)
theorem pow10_le {k : Nat} (h : k ≤ 10) : 10 ^ k ≤ 10000000000 := Nat.pow_le_pow_right (by decide) h
theorem digits_loop {s : List UInt8} (hs : s.length ≤ 10) : ∀ k, k ≤ s.length → ∀ a : Nat, a < 10 ^ k → Ev (fun n => go_ratio_digits_L1 n (a : Int) s k) (if (s.drop k).all isDig then ((val a (s.drop k) : Nat), true) else (0, false)) :=
 down (fun a ha => by
  rw [ev_ratio_digits_L1, Ev.pif_f (by simp), Ev.some_iff, List.drop_length, val_nil]
  rfl) fun k hk ih a ha => by
  have hp := pow10_le (k := k) (by omega)
  have hd : s.drop k = s[k] :: s.drop (k + 1) := (List.getElem_cons_drop (h := hk)).symm
  have bad : ∀ (c : Int) (j : Nat), isDig s[k] = false → Ev (fun n => go_ratio_digits_L2 n c (a : Int) true s j) (if (s.drop k).all isDig then (((val a (s.drop k) : Nat) : Int), true) else (0, false)) := fun c j hb => by
   rw [ev_ratio_digits_L2, Ev.pif_t (by rfl), Ev.some_iff, hd]
   simp only [List.all_cons, hb, Bool.false_and]
   rfl
  rw [ev_ratio_digits_L1, Ev.pif_t (by simpa using hk)]
  by_cases hlow : s[k].toNat < 128
  ·rw [decL_low hk hlow]
   by_cases h48 : s[k].toNat < 48
   ·rw [Ev.pif_t (by simp; omega)]
    exact bad _ _ (by cases h : isDig s[k]; rfl; have := isDig_iff.1 h; omega)
   ·rw [Ev.pif_f (by simp; omega)]
    by_cases h57 : 57 < s[k].toNat
    ·rw [show decide (((s[k].toNat : Nat) : Int) > 57) = true by simp; omega]
     exact bad _ _ (by cases h : isDig s[k]; rfl; have := isDig_iff.1 h; omega)
    ·rw [show decide (((s[k].toNat : Nat) : Int) > 57) = false by simp; omega, ev_ratio_digits_L2, Ev.pif_f (by rfl), w32i (by omega), wI (x := (s[k].toNat : Int) - 48) (by omega), wI (x := 10 * (a : Int)) (by omega), wI (by omega)]
     have hdig : isDig s[k] = true := isDig_iff.2 (by omega)
     have := ih (10 * a + (s[k].toNat - 48)) (by rw [Nat.pow_succ]; omega)
     rw [show ((10 * a + (s[k].toNat - 48) : Nat) : Int) = 10 * (a : Int) + ((s[k].toNat : Int) - 48) by omega] at this
     refine this.to ?_
     rw [hd]
     simp only [List.all_cons, hdig, Bool.true_and, val_cons]
  ·obtain ⟨g1, g2⟩ := decL_high hk (by omega)
   rw [Ev.pif_f (by simp; omega), show decide ((((decL s k).1 : Nat) : Int) > 57) = true by simp; omega]
   exact bad _ _ (by cases h : isDig s[k]; rfl; have := isDig_iff.1 h; omega)
theorem ratio_digits {s : List UInt8} : Ev (fun n => go_ratio_digits n s) (dres s) := by
 have l0 : ∀ b, (b = true ↔ (s.length = 0 ∨ 10 < s.length ∨ (s.head? = some 48 ∧ 1 < s.length))) → Ev (fun n => go_ratio_digits_L0 n s b) (dres s) := fun b hb => by
  rw [ev_ratio_digits_L0]
  unfold dres
  cases b
  ·have hn : ¬ (s.length = 0 ∨ 10 < s.length ∨ (s.head? = some 48 ∧ 1 < s.length)) := fun h => by have := hb.2 h; cases this
   rw [Ev.pif_f (by rfl), if_neg hn]
   exact (digits_loop (by omega) 0 (Nat.zero_le _) 0 (by decide)).to (by simp)
  ·rw [Ev.pif_t (by rfl), Ev.some_iff, if_pos (hb.1 rfl)]
 rw [ev_ratio_digits]
 by_cases h0 : s.length = 0
 ·rw [Ev.pif_t (by simpa using h0)]; exact l0 true (by simp [h0])
 rw [Ev.pif_f (by simpa using h0)]
 by_cases h10 : 10 < s.length
 ·rw [Ev.pif_t (by simp; omega)]; exact l0 true (by simp [h10])
 have hlt : 0 < s.length := by omega
 rw [Ev.pif_f (by simp; omega), Ev.opt_iff (show ix s 0 = some s[0] from ix_lt (k := 0) hlt), b48]
 have hh : s.head? = some s[0] := by
  cases s with
  | nil => simp at hlt
  | cons c t => rfl
 by_cases h48 : s[0] = 48
 ·rw [Ev.pif_t (by simpa using h48)]
  refine l0 _ ⟨fun h => .inr (.inr ⟨by rw [hh, h48], by have := of_decide_eq_true h; omega⟩), fun h => ?_⟩
  rcases h with h | h | h
  ·omega
  ·omega
  ·exact decide_eq_true (by omega)
 ·rw [Ev.pif_f (by simpa using h48)]
  refine l0 _ ⟨fun h => (by cases h), fun h => ?_⟩
  rcases h with h | h | h
  ·omega
  ·omega
  ·rw [hh] at h; exact (h48 (Option.some.inj h.1)).elim
theorem nd_le : ∀ (k u : Nat), u < 10 ^ (k + 1) → Lib.nDigits u ≤ k + 1
 | 0, u, h => by rw [Lib.nDigits_small (by simpa using h)]; exact Nat.le_refl _
 | k + 1, u, h => by
   by_cases hu : u < 10
   · rw [Lib.nDigits_small hu]; omega
   · rw [Lib.nDigits_big hu]
     have := nd_le k (u / 10) (by rw [Nat.pow_succ] at h; omega)
     omega
theorem dec_all : ∀ u : Nat, (Lib.decDigits u).all isDig = true := by
 intro u
 induction u using Nat.strongRecOn with
 | _ u ih =>
   have hd : ∀ k, k < 10 → isDig (UInt8.ofNat (48 + k)) = true := fun k hk => isDig_iff.2 (by rw [dig_digit hk]; omega)
   by_cases h : u < 10
   · rw [dec_small h]; simp only [List.all_cons, List.all_nil, Bool.and_true]; exact hd u h
   · rw [dec_big h]
     simp only [List.all_append, List.all_cons, List.all_nil, Bool.and_true, Bool.and_eq_true]
     exact ⟨ih _ (by omega), hd _ (Nat.mod_lt _ (by decide))⟩
theorem dec_val : ∀ u : Nat, val 0 (Lib.decDigits u) = u := by
 intro u
 induction u using Nat.strongRecOn with
 | _ u ih =>
   by_cases h : u < 10
   · rw [dec_small h]; rw [val_cons, val_nil, dig_digit h]; omega
   · rw [dec_big h, val_append, ih _ (by omega), dig_digit (Nat.mod_lt _ (by decide))]; omega
theorem dec_ne (u : Nat) : Lib.decDigits u ≠ [] := fun h => by
 have := Lib.decDigits_length u
 rw [h] at this
 have := Lib.nDigits_pos u
 simp at *; omega
theorem dec_head : ∀ u : Nat, 1 ≤ u → (Lib.decDigits u).head? ≠ some 48 := by
 intro u
 induction u using Nat.strongRecOn with
 | _ u ih =>
   intro h1
   by_cases h : u < 10
   · rw [dec_small h]
     simp only [List.head?_cons, ne_eq, Option.some.injEq]
     intro e
     have := congrArg UInt8.toNat e
     rw [dig_digit h] at this
     simp at this; omega
   · rw [dec_big h, List.head?_append]
     have := ih (u / 10) (by omega) (by omega)
     cases hq : (Lib.decDigits (u / 10)).head? with
     | none => rw [List.head?_eq_none_iff] at hq; exact (dec_ne _ hq).elim
     | some c => rw [hq] at this; simpa using this
theorem dres_dec {u : Nat} (h : u < 10000000000) : dres (Lib.decDigits u) = (((u : Nat) : Int), true) := by
 have hl := Lib.decDigits_length u
 have h1 := Lib.nDigits_pos u
 have h2 := nd_le 9 u (by simpa using h)
 unfold dres
 rw [if_neg, if_pos (dec_all u), dec_val]
 rintro (h' | h' | ⟨h', h''⟩)
 ·omega
 ·omega
 ·by_cases hu : 1 ≤ u
  ·exact dec_head u hu h'
  ·have : u = 0 := by omega
   subst this
   rw [dec_small (by decide)] at h''
   simp at h''
end Go.Proofs.YtagebdhlgnlcnaaGreatDoor


namespace Go.Proofs.YtagebdhlgnlcnaaGreatDoor
open Go Go.Ab
set_option linter.unusedVariables false
set_option linter.unusedSimpArgs false
theorem dres_b (s : List UInt8) : 0 ≤ (dres s).1 ∧ (dres s).1 < 10000000000 := by
 unfold dres
 split
 ·exact ⟨by decide, by decide⟩
 ·rename_i h
  split
  ·rename_i ha
   have := val_lt s 0 0 ha (by decide)
   have hp := pow10_le (k := 0 + s.length) (by omega)
   have : val 0 s < 10000000000 := by omega
   exact ⟨Int.natCast_nonneg _, by show ((val 0 s : Nat) : Int) < _; omega⟩
  ·exact ⟨by decide, by decide⟩
theorem rp_L2 {w : List UInt8} {b : Bool} {q r : GRatio} (h : b = false → rok r = true) : ∃ c r', Ev (fun n => go_ratio_Parse_L2 n w b q r) (c, r') ∧ (c = 12 ∨ c = 0 ∧ rok r' = true ∧ rtext r' = w) := by
 cases b
 ·have hr := h rfl
  by_cases ht : rtext r = w
  ·refine ⟨0, r, ?_, .inr ⟨rfl, hr, ht⟩⟩
   rw [ev_ratio_Parse_L2, Ev.pif_f (by rfl), Ev.bind_iff (ratio_Text hr), Ev.pif_f (by simpa using ht), Ev.some_iff]
  ·refine ⟨12, ⟨0, 0⟩, ?_, .inl rfl⟩
   rw [ev_ratio_Parse_L2, Ev.pif_f (by rfl), Ev.bind_iff (ratio_Text hr), Ev.pif_t (by simpa using ht), Ev.some_iff]
 ·exact ⟨12, ⟨0, 0⟩, by rw [ev_ratio_Parse_L2, Ev.pif_t (by rfl), Ev.some_iff], .inl rfl⟩
theorem rp_L1 {w : List UInt8} {b1 b2 : Bool} {y x : Int} {q : GRatio} (hx : I64 x) : ∃ c r', Ev (fun n => go_ratio_Parse_L1 n w b1 b2 y x q) (c, r') ∧ (c = 12 ∨ c = 0 ∧ rok r' = true ∧ rtext r' = w) := by
 cases b2
 ·obtain ⟨c, r', h1, h2⟩ := rp_L2 (w := w) (b := true) (q := q) (r := ⟨x, y⟩) (fun h => by cases h)
  exact ⟨c, r', by rw [ev_ratio_Parse_L1, Ev.pif_t (by rfl)]; exact h1, h2⟩
 cases b1
 ·obtain ⟨c, r', h1, h2⟩ := rp_L2 (w := w) (b := true) (q := q) (r := ⟨x, y⟩) (fun h => by cases h)
  exact ⟨c, r', by rw [ev_ratio_Parse_L1, Ev.pif_f (by rfl), Ev.pif_t (by rfl)]; exact h1, h2⟩
 have hc := ratio_Check (r := ⟨x, y⟩) hx
 obtain ⟨c, r', h1, h2⟩ := rp_L2 (w := w) (b := ((if rok ⟨x, y⟩ then 0 else 8 : Int) != 0)) (q := q) (r := ⟨x, y⟩) (fun h => by
  by_cases hr : rok ⟨x, y⟩ = true
  ·exact hr
  ·rw [if_neg hr] at h; cases h)
 exact ⟨c, r', by rw [ev_ratio_Parse_L1, Ev.pif_f (by rfl), Ev.pif_f (by rfl), Ev.bind_iff hc]; exact h1, h2⟩
theorem cutPrefix_len {s p : List UInt8} : (if p.isPrefixOf s then s.drop p.length else s).length ≤ s.length := by split <;> simp
theorem ratio_Parse_any {w : List UInt8} (hl : w.length ≤ 1000000) : ∃ c r, Ev (fun n => go_ratio_Parse n w) (c, r) ∧ (c = 12 ∨ c = 0 ∧ rok r = true ∧ rtext r = w) := by
 have hcl := cutPrefix_len (s := w) (p := [45])
 have hb := dres_b
 have l0 : ∀ (b : Bool) (d m : List UInt8) (q : GRatio), ∃ c r, Ev (fun n => go_ratio_Parse_L0 n w b d m q) (c, r) ∧ (c = 12 ∨ c = 0 ∧ rok r = true ∧ rtext r = w) := fun b d m q => by
  have hm := hb m
  cases b
  ·obtain ⟨c, r', h1, h2⟩ := rp_L1 (w := w) (b1 := (dres d).2) (b2 := (dres m).2) (y := (dres d).1) (x := (dres m).1) (q := q) (by unfold I64; omega)
   exact ⟨c, r', by rw [ev_ratio_Parse_L0, Ev.bind_iff ratio_digits, Ev.bind_iff ratio_digits, Ev.pif_f (by rfl)]; exact h1, h2⟩
  ·obtain ⟨c, r', h1, h2⟩ := rp_L1 (w := w) (b1 := (dres d).2) (b2 := (dres m).2) (y := (dres d).1) (x := IntKind.i64.wrap (0 - (dres m).1)) (q := q) (by rw [wI (by omega)]; unfold I64; omega)
   exact ⟨c, r', by rw [ev_ratio_Parse_L0, Ev.bind_iff ratio_digits, Ev.bind_iff ratio_digits, Ev.pif_t (by rfl)]; exact h1, h2⟩
 cases hh : (cutAt 47 (if ([45] : List UInt8).isPrefixOf w then w.drop ([45] : List UInt8).length else w)).2.2
 ·obtain ⟨c, r', h1, h2⟩ := l0 (([45] : List UInt8).isPrefixOf w) [49] (cutAt 47 (if ([45] : List UInt8).isPrefixOf w then w.drop ([45] : List UInt8).length else w)).1 ⟨0, 0⟩
  exact ⟨c, r', by rw [ev_ratio_Parse, Ev.bind_iff cutPrefix, Ev.bind_iff (cut47 (Nat.le_trans hcl hl)), Ev.pif_t (by rw [hh]; rfl)]; exact h1, h2⟩
 ·obtain ⟨c, r', h1, h2⟩ := l0 (([45] : List UInt8).isPrefixOf w) (cutAt 47 (if ([45] : List UInt8).isPrefixOf w then w.drop ([45] : List UInt8).length else w)).2.1 (cutAt 47 (if ([45] : List UInt8).isPrefixOf w then w.drop ([45] : List UInt8).length else w)).1 ⟨0, 0⟩
  exact ⟨c, r', by rw [ev_ratio_Parse, Ev.bind_iff cutPrefix, Ev.bind_iff (cut47 (Nat.le_trans hcl hl)), Ev.pif_f (by rw [hh]; rfl)]; exact h1, h2⟩
theorem dig_ne {c : UInt8} (h : isDig c = true) : c ≠ 47 ∧ c ≠ 45 := by
 have := isDig_iff.1 h
 constructor <;> (intro e; subst e; simp at this)
theorem tw_dig {d t : List UInt8} (h : d.all isDig = true) : (d ++ 47 :: t).takeWhile (· != 47) = d ∧ (d ++ 47 :: t).dropWhile (· != 47) = 47 :: t := by
 induction d with
 | nil => simp
 | cons c d ih =>
   simp only [List.all_cons, Bool.and_eq_true] at h
   have hc := (dig_ne h.1).1
   obtain ⟨i1, i2⟩ := ih h.2
   simp only [List.cons_append, List.takeWhile_cons, List.dropWhile_cons]
   have : (c != 47) = true := by simpa using hc
   rw [this]
   exact ⟨by simp only [if_true]; rw [i1], by simp only [if_true]; exact i2⟩
theorem cut_dig {d t : List UInt8} (h : d.all isDig = true) : cutAt 47 (d ++ 47 :: t) = (d, t, true) := by
 obtain ⟨h1, h2⟩ := tw_dig (t := t) h
 unfold cutAt
 rw [h1, h2]
 simp
theorem cut_dig0 {d : List UInt8} (h : d.all isDig = true) : cutAt 47 d = (d, [], false) := by
 refine cut_no ?_
 rw [List.any_eq_false]
 intro c hc
 have := (dig_ne (List.all_eq_true.1 h c hc)).1
 simpa using this
def rbody (r : GRatio) : List UInt8 := if r.den = 1 then Lib.decDigits r.num.natAbs else Lib.decDigits r.num.natAbs ++ 47 :: Lib.decDigits r.den.natAbs
theorem itoa_pos {x : Int} (h : 0 ≤ x) : Lib.itoa x = Lib.decDigits x.natAbs := by
 unfold Lib.itoa; rw [if_neg (by omega)]; congr 1; omega
theorem rtext_body {r : GRatio} (h : rok r = true) : rtext r = if r.num < 0 then 45 :: rbody r else rbody r := by
 obtain ⟨h1, h2, h3⟩ := rok_b h
 unfold rtext rbody
 rw [itoa_pos (x := r.den) (by omega)]
 by_cases hn : r.num < 0
 ·rw [if_pos hn, show Lib.itoa r.num = 45 :: Lib.decDigits r.num.natAbs by unfold Lib.itoa; rw [if_pos hn]]
  split <;> simp
 ·rw [if_neg hn, itoa_pos (by omega)]
theorem rbody_head (r : GRatio) : ∃ c t, rbody r = c :: t ∧ isDig c = true := by
 have ha := dec_all r.num.natAbs
 have hn := dec_ne r.num.natAbs
 unfold rbody
 cases hd : Lib.decDigits r.num.natAbs with
 | nil => exact (hn hd).elim
 | cons c t =>
   rw [hd] at ha
   simp only [List.all_cons, Bool.and_eq_true] at ha
   split
   · exact ⟨c, t, rfl, ha.1⟩
   · exact ⟨c, _, rfl, ha.1⟩
theorem ratio_Parse_text {r : GRatio} (h : rok r = true) : Ev (fun n => go_ratio_Parse n (rtext r)) (0, r) := by
 obtain ⟨h1, h2, h3⟩ := rok_b h
 obtain ⟨c, t, hb, hc⟩ := rbody_head r
 have hlen := rtext_len h
 have hbl : (rbody r).length ≤ 1000000 := by
  have := congrArg List.length (rtext_body h)
  split at this
  ·rw [List.length_cons] at this; omega
  ·omega
 have hck := ratio_Check (r := r) (by unfold I64; omega)
 rw [if_pos h] at hck
 have l1 : Ev (fun n => go_ratio_Parse_L1 n (rtext r) true true r.den r.num ⟨0, 0⟩) (0, r) := by
  rw [ev_ratio_Parse_L1, Ev.pif_f (by rfl), Ev.pif_f (by rfl)]
  rw [Ev.bind_iff (show Ev (fun n => go_ratio_Check n (GRatio.mk r.num r.den)) 0 from hck), ev_ratio_Parse_L2, Ev.pif_f (by rfl), Ev.bind_iff (show Ev (fun n => go_ratio_Text n (GRatio.mk r.num r.den)) (rtext r, 0) from ratio_Text h), Ev.pif_f (by simp), Ev.some_iff]
 have hdn := dres_dec (u := r.num.natAbs) (by omega)
 have l0 : ∀ d, dres d = (r.den, true) → Ev (fun n => go_ratio_Parse_L0 n (rtext r) (decide (r.num < 0)) d (Lib.decDigits r.num.natAbs) ⟨0, 0⟩) (0, r) := fun d hd => by
  rw [ev_ratio_Parse_L0, Ev.bind_iff ratio_digits, Ev.bind_iff ratio_digits, hd, hdn]
  by_cases hn : r.num < 0
  ·rw [Ev.pif_t (by simpa using hn), wI (by omega), show (0 : Int) - ((r.num.natAbs : Nat) : Int) = r.num by omega]
   exact l1
  ·rw [Ev.pif_f (by simpa using hn), show ((r.num.natAbs : Nat) : Int) = r.num by omega]
   exact l1
 have hpre : (if ([45] : List UInt8).isPrefixOf (rtext r) then (rtext r).drop ([45] : List UInt8).length else rtext r, ([45] : List UInt8).isPrefixOf (rtext r)) = (rbody r, decide (r.num < 0)) := by
  rw [rtext_body h]
  by_cases hn : r.num < 0
  ·rw [if_pos hn]
   simp [List.isPrefixOf, hn]
  ·rw [if_neg hn, hb]
   have : (45 == c) = false := by
    have := (dig_ne hc).2
    rw [beq_eq_false_iff_ne]; exact fun e => this e.symm
   simp [List.isPrefixOf, this, hn]
 have hcp : Ev (fun n => go_strings_CutPrefix n (rtext r) [45]) (rbody r, decide (r.num < 0)) := by rw [← hpre]; exact cutPrefix
 rw [ev_ratio_Parse, Ev.bind_iff hcp, Ev.bind_iff (cut47 hbl)]
 unfold rbody
 by_cases hd : r.den = 1
 ·rw [if_pos hd, cut_dig0 (dec_all _), Ev.pif_t (by rfl)]
  exact l0 [49] (by rw [hd]; decide)
 ·rw [if_neg hd, cut_dig (dec_all _), Ev.pif_f (by rfl)]
  exact l0 _ (by rw [dres_dec (by omega)]; congr 1; omega)
theorem ratio_Parse {w : List UInt8} (hl : w.length ≤ 1000000) : ∃ c r, Ev (fun n => go_ratio_Parse n w) (c, r) ∧ ((c = 0 ∧ rok r = true ∧ rtext r = w) ∨ (c = 12 ∧ ∀ r', rok r' = true → rtext r' ≠ w)) := by
 obtain ⟨c, r, h1, h2⟩ := ratio_Parse_any hl
 refine ⟨c, r, h1, ?_⟩
 rcases h2 with rfl | h2
 ·refine .inr ⟨rfl, fun r' hr' hw => ?_⟩
  have := ratio_Parse_text hr'
  rw [hw] at this
  have := congrArg Prod.fst (Ev.det h1 this)
  simp at this
 ·exact .inl h2
end Go.Proofs.YtagebdhlgnlcnaaGreatDoor


namespace Go.Proofs.YtagebdhlgnlcnaaGreatDoor
open Go Go.Ab
set_option linter.unusedVariables false
set_option linter.unusedSimpArgs false
def nfin (s : List UInt8) (f : Nat) (x : Nat) : Int × Bool := ((if f = 1 then -(x : Int) else (x : Int)), decide (f < s.length) && (Lib.itoa (if f = 1 then -(x : Int) else (x : Int)) == s))
theorem number_end {s : List UInt8} {f x : Nat} (hf : f ≤ 1) (hx : x < 10000000000) : Ev (fun n => if decide (((f : Nat) : Int) = 1) then go_ref01_Number_L4 n s (IntKind.i64.wrap (0 - (x : Int))) (f : Int) else go_ref01_Number_L4 n s (x : Int) (f : Int)) (nfin s f x) := by
 have l4 : ∀ v : Int, -10000000000 < v ∧ v < 10000000000 → Ev (fun n => go_ref01_Number_L4 n s v (f : Int)) (v, decide (f < s.length) && (Lib.itoa v == s)) := fun v hv => by
  rw [ev_ref01_Number_L4]
  by_cases h : f < s.length
  ·rw [Ev.pif_t (by simp; omega), Ev.bind_iff (ref01_Decimal (by omega)), Ev.some_iff]; simp [h]
  ·rw [Ev.pif_f (by simp; omega), Ev.some_iff]; simp [h]
 unfold nfin
 by_cases h : f = 1
 ·subst h
  simp only [if_pos rfl]
  rw [show IntKind.i64.wrap (0 - (x : Int)) = -(x : Int) by rw [wI (by omega)]; omega]
  exact l4 _ (by omega)
 ·have : f = 0 := by omega
  subst this
  exact l4 _ (by omega)
theorem number_loop {s : List UInt8} {f : Nat} (hf : f ≤ 1) (hs : s.length ≤ 1000000) : ∀ i, i ≤ s.length → f ≤ i → i ≤ f + 10 → ∀ a : Nat, a < 10 ^ (i - f) →
  Ev (fun n => go_ref01_Number_L2 n (i : Int) s (a : Int) (f : Int)) (if (s.drop i).all isDig = true ∧ s.length ≤ f + 10 then nfin s f (val a (s.drop i)) else (0, false)) :=
 down (fun h1 h2 a ha => by
  have hp := pow10_le (k := s.length - f) (by omega)
  rw [ev_ref01_Number_L2, Ev.pif_f (by simp), List.drop_length, val_nil, if_pos ⟨rfl, by omega⟩]
  have := number_end (s := s) hf (x := a) (by omega)
  by_cases h : f = 1
  ·subst h
   rw [Ev.pif_t (by rfl)]
   exact this
  ·have : f = 0 := by omega
   subst this
   rw [Ev.pif_f (by rfl)]
   exact number_end (s := s) hf (x := a) (by omega)) fun i hi ih h1 h2 a ha => by
  have hp := pow10_le (k := i - f) (by omega)
  have hd : s.drop i = s[i] :: s.drop (i + 1) := (List.getElem_cons_drop (h := hi)).symm
  have bad : (isDig s[i] = false ∨ f + 10 < s.length) → Ev (fun n => go_ref01_Number_L3 n s (f : Int) (i : Int) (a : Int) true) (if (s.drop i).all isDig = true ∧ s.length ≤ f + 10 then nfin s f (val a (s.drop i)) else (0, false)) := fun hb => by
   rw [ev_ref01_Number_L3, Ev.pif_t (by rfl), Ev.some_iff, if_neg]
   rintro ⟨q1, q2⟩
   rw [hd] at q1
   simp only [List.all_cons, Bool.and_eq_true] at q1
   rcases hb with hb | hb
   ·rw [q1.1] at hb; cases hb
   ·omega
  rw [ev_ref01_Number_L2, Ev.pif_t (by simpa using hi), Ev.opt_iff (ix_lt hi)]
  by_cases h48 : s[i].toNat < 48
  ·rw [Ev.pif_t (by simp; omega)]
   exact bad (.inl (by cases h : isDig s[i]; rfl; have := isDig_iff.1 h; omega))
  rw [Ev.pif_f (by simp; omega), Ev.opt_iff (ix_lt hi)]
  by_cases h57 : 57 < s[i].toNat
  ·rw [Ev.pif_t (by simp; omega)]
   exact bad (.inl (by cases h : isDig s[i]; rfl; have := isDig_iff.1 h; omega))
  rw [Ev.pif_f (by simp; omega), wI (x := (f : Int) + 9) (by omega)]
  by_cases hten : f + 10 ≤ i
  ·rw [show decide ((i : Int) > (f : Int) + 9) = true by simp; omega]
   exact bad (.inr (by omega))
  ·have hdig : isDig s[i] = true := isDig_iff.2 (by omega)
   rw [show decide ((i : Int) > (f : Int) + 9) = false by simp; omega, ev_ref01_Number_L3, Ev.pif_f (by rfl), Ev.opt_iff (ix_lt hi), w8 (by omega), wI (x := (s[i].toNat : Int) - 48) (by omega), wI (x := 10 * (a : Int)) (by omega), wrk (k := i) (by omega), wI (by omega)]
   have := ih (by omega) (by omega) (10 * a + (s[i].toNat - 48)) (by rw [show i + 1 - f = (i - f) + 1 by omega, Nat.pow_succ]; omega)
   rw [show ((10 * a + (s[i].toNat - 48) : Nat) : Int) = 10 * (a : Int) + ((s[i].toNat : Int) - 48) by omega] at this
   refine this.to ?_
   rw [hd]
   simp only [List.all_cons, hdig, Bool.true_and, val_cons]
def nsign (s : List UInt8) : Nat := if s.head? = some 45 then 1 else 0
def nnum (s : List UInt8) : Int × Bool := if (s.drop (nsign s)).all isDig = true ∧ s.length ≤ nsign s + 10 then nfin s (nsign s) (val 0 (s.drop (nsign s))) else (0, false)
theorem ref01_Number {s : List UInt8} (hs : s.length ≤ 1000000) : Ev (fun n => go_ref01_Number n s) (nnum s) := by
 have hle : nsign s ≤ 1 := by unfold nsign; split <;> decide
 have hls : nsign s ≤ s.length := by
  unfold nsign
  cases s with
  | nil => simp
  | cons c t => split <;> simp
 have l2 := number_loop (s := s) hle hs (nsign s) hls (Nat.le_refl _) (by omega) 0 (by rw [Nat.sub_self]; decide)
 have l0 : ∀ b, (b = true ↔ s.head? = some 45) → Ev (fun n => go_ref01_Number_L0 n s 0 0 b) (nnum s) := fun b hb => by
  unfold nnum
  rw [ev_ref01_Number_L0]
  cases b
  ·have : nsign s = 0 := by unfold nsign; rw [if_neg fun h => by have := hb.2 h; cases this]
   rw [this] at l2 ⊢
   rw [Ev.pif_f (by rfl), ev_ref01_Number_L1]
   exact l2
  ·have : nsign s = 1 := by unfold nsign; rw [if_pos (hb.1 rfl)]
   rw [this] at l2 ⊢
   rw [Ev.pif_t (by rfl), ev_ref01_Number_L1]
   exact l2
 rw [ev_ref01_Number]
 cases s with
 | nil => rw [Ev.pif_f (by rfl)]; exact l0 false (by simp)
 | cons c t =>
   rw [Ev.pif_t (by simp), Ev.opt_iff (show ix (c :: t) 0 = some c by rfl), b45]
   exact l0 _ (by simp)
theorem ref_L3 {r q : GRatio} : Ev (fun n => go_ref01_Parse_L3 n q r) (if rok r then (0, r) else (12, ⟨0, 0⟩)) := by
 rw [ev_ref01_Parse_L3, Ev.bind_iff ref01_Check]
 cases hr : rok r
 ·rw [Ev.pif_t (by rfl), Ev.some_iff]; rfl
 ·rw [Ev.pif_f (by rfl), Ev.some_iff]; rfl
def rread (w : List UInt8) : Int × GRatio :=
 let p := (w.takeWhile (· != 47)).length
 let a := nnum (w.take p)
 let b := nnum (w.drop (p + 1))
 if a.2 = false then (12, ⟨0, 0⟩) else if p < w.length then (if b.2 = false ∨ b.1 = 1 then (12, ⟨0, 0⟩) else if rok ⟨a.1, b.1⟩ then (0, ⟨a.1, b.1⟩) else (12, ⟨0, 0⟩)) else if rok ⟨a.1, 1⟩ then (0, ⟨a.1, 1⟩) else (12, ⟨0, 0⟩)
theorem tw_get : ∀ (w : List UInt8) (k : Nat) (h : k < w.length), k < (w.takeWhile (· != 47)).length → w[k] ≠ 47
 | [], k, h, _ => by simp at h
 | c :: w, k, h, hk => by
   rw [List.takeWhile_cons] at hk
   split at hk
   · rename_i hc
     cases k with
     | zero => simpa using hc
     | succ k => exact tw_get w k (by simpa using h) (by simpa using hk)
   · simp at hk
theorem tw_at : ∀ (w : List UInt8) (h : (w.takeWhile (· != 47)).length < w.length), w[(w.takeWhile (· != 47)).length] = 47
 | [], h => by simp at h
 | c :: w, h => by
   by_cases hc : c = 47
   · subst hc; rfl
   · have e : (c :: w).takeWhile (· != 47) = c :: w.takeWhile (· != 47) := by rw [List.takeWhile_cons, if_pos (by simpa using hc)]
     simp only [e, List.length_cons, List.getElem_cons_succ]
     exact tw_at w (by rw [e] at h; simpa using h)
theorem tw_le (w : List UInt8) : (w.takeWhile (· != 47)).length ≤ w.length := (List.takeWhile_prefix _).length_le
theorem ref01_Parse' {w : List UInt8} (hl : w.length ≤ 1000000) : Ev (fun n => go_ref01_Parse n w) (rread w) := by
 have hp := tw_le w
 have l1 : Ev (fun n => go_ref01_Parse_L1 n w ((w.takeWhile (· != 47)).length : Int) false ⟨0, 0⟩) (rread w) := by
  unfold rread
  generalize hq : (w.takeWhile (· != 47)).length = p at hp
  rw [ev_ref01_Parse_L1, Ev.pif_f (by rfl), Ev.opt_iff (sub_front hp), Ev.bind_iff (ref01_Number (by simp; omega))]
  cases ha : (nnum (w.take p)).2
  ·rw [Ev.pif_t (by rfl), Ev.some_iff]; simp [ha]
  ·rw [Ev.pif_f (by rfl)]
   simp only [ha, Bool.true_eq_false, if_false]
   by_cases hlt : p < w.length
   ·rw [Ev.pif_t (by simpa using hlt), wrk (by omega), Ev.opt_iff (sub_nat (by omega) (Nat.le_refl _)), List.take_length, Ev.bind_iff (ref01_Number (by simp; omega)), if_pos hlt]
    have l2 : ∀ b, (b = true ↔ ((nnum (w.drop (p + 1))).2 = false ∨ (nnum (w.drop (p + 1))).1 = 1)) → Ev (fun n => go_ref01_Parse_L2 n b ⟨0, 0⟩ ⟨(nnum (w.take p)).1, (nnum (w.drop (p + 1))).1⟩) (if (nnum (w.drop (p + 1))).2 = false ∨ (nnum (w.drop (p + 1))).1 = 1 then (12, ⟨0, 0⟩) else if rok ⟨(nnum (w.take p)).1, (nnum (w.drop (p + 1))).1⟩ then (0, ⟨(nnum (w.take p)).1, (nnum (w.drop (p + 1))).1⟩) else (12, ⟨0, 0⟩)) := fun b hb => by
     rw [ev_ref01_Parse_L2]
     cases b
     ·rw [Ev.pif_f (by rfl), if_neg fun h => by have := hb.2 h; cases this]; exact ref_L3
     ·rw [Ev.pif_t (by rfl), Ev.some_iff, if_pos (hb.1 rfl)]
    cases hb2 : (nnum (w.drop (p + 1))).2
    ·rw [Ev.pif_t (by rfl)]
     have := l2 true (by simp [hb2])
     rw [hb2] at this
     exact this
    ·rw [Ev.pif_f (by rfl)]
     have := l2 _ (show (((nnum (w.drop (p + 1))).1 == 1) = true ↔ _) by simp [hb2])
     rw [hb2] at this
     exact this
   ·rw [Ev.pif_f (by simpa using hlt), if_neg hlt]
    exact ref_L3
 have loop : ∀ k, k ≤ (w.takeWhile (· != 47)).length → Ev (fun n => go_ref01_Parse_L0 n (k : Int) w ⟨0, 0⟩) (rread w) :=
  down (by
   rw [ev_ref01_Parse_L0]
   by_cases hlt : (w.takeWhile (· != 47)).length < w.length
   ·rw [Ev.pif_t (by simpa using hlt), Ev.opt_iff (ix_lt hlt), tw_at w hlt]
    exact l1
   ·rw [Ev.pif_f (by simpa using hlt)]
    exact l1) fun k hk ih => by
   have hlt : k < w.length := by omega
   have h47 := tw_get w k hlt hk
   rw [ev_ref01_Parse_L0, Ev.pif_t (by simpa using hlt), Ev.opt_iff (ix_lt hlt)]
   have hb : (((w[k].toNat : Nat) : Int) != 47) = true := by
    have := b47 w[k]
    simp only [bne, this]
    simpa using h47
   rw [hb, ev_ref01_Parse_L1, Ev.pif_t (by rfl), wrk (by omega)]
   exact ih
 rw [ev_ref01_Parse]
 exact loop 0 (Nat.zero_le _)
end Go.Proofs.YtagebdhlgnlcnaaGreatDoor


namespace Go.Proofs.YtagebdhlgnlcnaaGreatDoor
open Go Go.Ab
set_option linter.unusedVariables false
set_option linter.unusedSimpArgs false
def scan : List UInt8 → Option (List UInt8 × Nat)
 | [] => none
 | [c] => if c = 34 then some ([], 1) else none
 | c :: d :: t => if c = 34 then some ([], 1) else if c = 92 then (if d = 34 ∨ d = 92 then (scan t).map (fun p => (d :: p.1, p.2 + 2)) else none) else (scan (d :: t)).map fun p => (c :: p.1, p.2 + 1)
def rs : List UInt8 → Nat
 | [] => 0
 | [c] => if c = 34 then 0 else if c = 92 then 2 else 1
 | c :: d :: t => if c = 34 then 0 else if c = 92 then 2 + rs t else 1 + rs (d :: t)
theorem scan_nil : scan [] = none := by rw [scan]
theorem rs_nil : rs [] = 0 := by rw [rs]
theorem scan_34 (t : List UInt8) : scan (34 :: t) = some ([], 1) := by cases t <;> rw [scan] <;> simp
theorem scan_92 (d : UInt8) (t : List UInt8) : scan (92 :: d :: t) = if d = 34 ∨ d = 92 then (scan t).map (fun p => (d :: p.1, p.2 + 2)) else none := by rw [scan]; simp
theorem scan_92n : scan [92] = none := by rw [scan]; simp
theorem scan_c {c : UInt8} (t : List UInt8) (h1 : c ≠ 34) (h2 : c ≠ 92) : scan (c :: t) = (scan t).map fun p => (c :: p.1, p.2 + 1) := by
 cases t with
 | nil => rw [scan_nil, scan, if_neg h1]; rfl
 | cons d t => rw [scan, if_neg h1, if_neg h2]
theorem rs_34 (t : List UInt8) : rs (34 :: t) = 0 := by cases t <;> rw [rs] <;> simp
theorem rs_92 (d : UInt8) (t : List UInt8) : rs (92 :: d :: t) = 2 + rs t := by rw [rs]; simp
theorem rs_c {c : UInt8} (t : List UInt8) (h1 : c ≠ 34) (h2 : c ≠ 92) : rs (c :: t) = 1 + rs t := by
 cases t with
 | nil => rw [rs_nil, rs, if_neg h1, if_neg h2]
 | cons d t => rw [rs, if_neg h1, if_neg h2]
theorem sind {P : List UInt8 → Prop} (h0 : P []) (h1 : ∀ t, P (34 :: t)) (h2 : P [92]) (h3 : ∀ d t, P t → P (92 :: d :: t)) (h4 : ∀ c t, c ≠ 34 → c ≠ 92 → P t → P (c :: t)) : ∀ u, P u
 | [] => h0
 | [c] => by
   by_cases a : c = 34
   · rw [a]; exact h1 _
   · by_cases b : c = 92
     · rw [b]; exact h2
     · exact h4 c [] a b h0
 | c :: d :: t => by
   by_cases a : c = 34
   · rw [a]; exact h1 _
   · by_cases b : c = 92
     · rw [b]; exact h3 d t (sind h0 h1 h2 h3 h4 t)
     · exact h4 c (d :: t) a b (sind h0 h1 h2 h3 h4 (d :: t))
theorem scan_some : ∀ u x m, scan u = some (x, m) → m = rs u + 1 ∧ m ≤ u.length ∧ x.length + 1 ≤ m := by
 refine sind ?_ ?_ ?_ ?_ ?_
 ·intro x m h; rw [scan] at h; cases h
 ·intro t x m h
  rw [scan_34] at h
  injection h with h
  injection h with h1 h2
  subst h1 h2
  rw [rs_34]; simp
 ·intro x m h; rw [scan_92n] at h; cases h
 ·intro d t ih x m h
  rw [scan_92] at h
  split at h
  ·cases hs : scan t with
   | none => rw [hs] at h; cases h
   | some p =>
     obtain ⟨y, k⟩ := p
     rw [hs] at h
     injection h with h
     injection h with h1 h2
     subst h1 h2
     obtain ⟨a, b, c⟩ := ih y k hs
     rw [rs_92]
     simp only [List.length_cons]
     omega
  ·cases h
 ·intro c t h34 h92 ih x m h
  rw [scan_c t h34 h92] at h
  cases hs : scan t with
  | none => rw [hs] at h; cases h
  | some p =>
    obtain ⟨y, k⟩ := p
    rw [hs] at h
    injection h with h
    injection h with h1 h2
    subst h1 h2
    obtain ⟨a, b, e⟩ := ih y k hs
    rw [rs_c t h34 h92]
    simp only [List.length_cons]
    omega
theorem vquoted {s : List UInt8} (hs : s.length ≤ 100000) : ∀ N k : Nat, k ≤ s.length → s.length - k ≤ N → ∀ acc : List UInt8, acc.length + (s.length - k) ≤ 100000 →
  (∀ x m, scan (s.drop k) = some (x, m) → Ev (fun n => go_value_reader_quoted_L0 n ⟨s, (k : Int), true⟩ (bytesI acc)) (acc ++ x, ⟨s, ((k + m : Nat) : Int), true⟩)) ∧
  (scan (s.drop k) = none → ∃ a : Nat, k ≤ a ∧ a ≤ s.length ∧ Ev (fun n => go_value_reader_quoted_L0 n ⟨s, (k : Int), true⟩ (bytesI acc)) ([], ⟨s, (a : Int), false⟩)) := by
 intro N
 induction N with
 | zero =>
   intro k hk hN acc hl
   have : k = s.length := by omega
   subst this
   rw [List.drop_length]
   refine ⟨fun x m h => (by rw [scan] at h; cases h), fun _ => ⟨s.length, by omega, Nat.le_refl _, ?_⟩⟩
   rw [ev_value_reader_quoted_L0, Ev.pif_f (by simp), ev_value_reader_quoted_L3, Ev.some_iff]
 | succ N ih =>
   intro k hk hN acc hl
   by_cases hlt : k < s.length
   · have l2 : ∀ (c : UInt8) (j : Nat), (∀ r, Ev (fun n => go_value_reader_quoted_L0 n ⟨s, (j : Int), true⟩ (bytesI (acc ++ [c]))) r → Ev (fun n => go_value_reader_quoted_L2 n (c.toNat : Int) ⟨s, (j : Int), true⟩ (bytesI acc)) r) := fun c j r h => by
       rw [ev_value_reader_quoted_L2, Ev.bind_iff (wb rfl (by omega))]
       exact h
     rw [drop_cons hlt]
     by_cases h34 : s[k] = 34
     · rw [h34, scan_34]
       refine ⟨fun x m h => ?_, fun h => by cases h⟩
       injection h with h
       injection h with h1 h2
       subst h1 h2
       rw [ev_value_reader_quoted_L0, Ev.pif_t (by simpa using hlt), Ev.opt_iff (ix_lt hlt), b34, Ev.pif_t (by simpa using h34), Ev.bind_iff bstr, Ev.some_iff, wrk (by omega), List.append_nil]
     by_cases h92 : s[k] = 92
     · rw [h92]
       by_cases hk1 : k + 1 < s.length
       · rw [drop_cons hk1, scan_92]
         by_cases hd : s[k + 1] = 34 ∨ s[k + 1] = 92
         · rw [if_pos hd]
           have go : ∀ r, Ev (fun n => go_value_reader_quoted_L0 n ⟨s, ((k + 2 : Nat) : Int), true⟩ (bytesI (acc ++ [s[k + 1]]))) r → Ev (fun n => go_value_reader_quoted_L0 n ⟨s, (k : Int), true⟩ (bytesI acc)) r := fun r h => by
             have l1 : Ev (fun n => go_value_reader_quoted_L1 n false ⟨s, ((k + 1 : Nat) : Int), true⟩ (bytesI acc)) r := by
               rw [ev_value_reader_quoted_L1, Ev.pif_f (by rfl), Ev.opt_iff (ix_lt hk1), wrk (by omega)]
               exact l2 _ _ _ h
             rw [ev_value_reader_quoted_L0, Ev.pif_t (by simpa using hlt), Ev.opt_iff (ix_lt hlt), b34, b92, Ev.pif_f (by simpa using h34), Ev.pif_t (by simpa using h92), wrk (by omega), Ev.pif_f (by simp; omega), Ev.opt_iff (ix_lt hk1)]
             simp only [bne, b34, b92]
             by_cases hd34 : s[k + 1] = 34
             · rw [Ev.pif_f (by simpa using hd34)]; exact l1
             · rw [Ev.pif_t (by simpa using hd34), Ev.opt_iff (ix_lt hk1), show (!(s[k + 1] == 92)) = false by simpa using hd.resolve_left hd34]; exact l1
           obtain ⟨i1, i2⟩ := ih (k + 2) (by omega) (by omega) (acc ++ [s[k + 1]]) (by simp; omega)
           refine ⟨fun x m h => ?_, fun h => ?_⟩
           · cases hsc : scan (s.drop (k + 2)) with
             | none => rw [show k + 1 + 1 = k + 2 by omega, hsc] at h; cases h
             | some p =>
               obtain ⟨y, j⟩ := p
               rw [show k + 1 + 1 = k + 2 by omega, hsc] at h
               injection h with h
               injection h with e1 e2
               subst e1 e2
               refine (go _ (i1 y j hsc)).to ?_
               rw [List.append_assoc, show k + 2 + j = k + (j + 2) by omega]; rfl
           · cases hsc : scan (s.drop (k + 2)) with
             | none => obtain ⟨a, a1, a2, ha⟩ := i2 hsc; exact ⟨a, by omega, a2, go _ ha⟩
             | some p => rw [show k + 1 + 1 = k + 2 by omega, hsc] at h; cases h
         · rw [if_neg hd]
           refine ⟨fun x m h => (by cases h), fun _ => ⟨k + 1, by omega, by omega, ?_⟩⟩
           rw [ev_value_reader_quoted_L0, Ev.pif_t (by simpa using hlt), Ev.opt_iff (ix_lt hlt), b34, b92, Ev.pif_f (by simpa using h34), Ev.pif_t (by simpa using h92), wrk (by omega), Ev.pif_f (by simp; omega), Ev.opt_iff (ix_lt hk1)]
           simp only [bne, b34, b92]
           rw [Ev.pif_t (by simpa using fun e => hd (.inl e)), Ev.opt_iff (ix_lt hk1), show (!(s[k + 1] == 92)) = true by simpa using fun e => hd (.inr e), ev_value_reader_quoted_L1, Ev.pif_t (by rfl), ev_value_reader_quoted_L3, Ev.some_iff]
       · have hke : k + 1 = s.length := by omega
         rw [List.drop_of_length_le (by omega), scan_92n]
         refine ⟨fun x m h => (by cases h), fun _ => ⟨k + 1, by omega, by omega, ?_⟩⟩
         rw [ev_value_reader_quoted_L0, Ev.pif_t (by simpa using hlt), Ev.opt_iff (ix_lt hlt), b34, b92, Ev.pif_f (by simpa using h34), Ev.pif_t (by simpa using h92), wrk (by omega), Ev.pif_t (by simp; omega), ev_value_reader_quoted_L1, Ev.pif_t (by rfl), ev_value_reader_quoted_L3, Ev.some_iff]
     rw [scan_c _ h34 h92]
     have go : ∀ r, Ev (fun n => go_value_reader_quoted_L0 n ⟨s, ((k + 1 : Nat) : Int), true⟩ (bytesI (acc ++ [s[k]]))) r → Ev (fun n => go_value_reader_quoted_L0 n ⟨s, (k : Int), true⟩ (bytesI acc)) r := fun r h => by
       rw [ev_value_reader_quoted_L0, Ev.pif_t (by simpa using hlt), Ev.opt_iff (ix_lt hlt), b34, b92, Ev.pif_f (by simpa using h34), Ev.pif_f (by simpa using h92), wrk (by omega)]
       exact l2 _ _ _ h
     obtain ⟨i1, i2⟩ := ih (k + 1) (by omega) (by omega) (acc ++ [s[k]]) (by simp; omega)
     refine ⟨fun x m h => ?_, fun h => ?_⟩
     · cases hsc : scan (s.drop (k + 1)) with
       | none => rw [hsc] at h; cases h
       | some p =>
         obtain ⟨y, j⟩ := p
         rw [hsc] at h
         injection h with h
         injection h with e1 e2
         subst e1 e2
         refine (go _ (i1 y j hsc)).to ?_
         rw [List.append_assoc, show k + 1 + j = k + (j + 1) by omega]; rfl
     · cases hsc : scan (s.drop (k + 1)) with
       | none => obtain ⟨a, a1, a2, ha⟩ := i2 hsc; exact ⟨a, by omega, a2, go _ ha⟩
       | some p => rw [hsc] at h; cases h
   · have : k = s.length := by omega
     subst this
     rw [List.drop_length]
     refine ⟨fun x m h => (by rw [scan] at h; cases h), fun _ => ⟨s.length, by omega, Nat.le_refl _, ?_⟩⟩
     rw [ev_value_reader_quoted_L0, Ev.pif_f (by simp), ev_value_reader_quoted_L3, Ev.some_iff]
theorem value_quoted {s : List UInt8} {k : Nat} (hs : s.length ≤ 100000) (hk : k ≤ s.length) :
  (∀ x m, scan (s.drop k) = some (x, m) → Ev (fun n => go_value_reader_quoted n ⟨s, (k : Int), true⟩) (x, ⟨s, ((k + m : Nat) : Int), true⟩)) ∧
  (scan (s.drop k) = none → ∃ a : Nat, k ≤ a ∧ a ≤ s.length ∧ Ev (fun n => go_value_reader_quoted n ⟨s, (k : Int), true⟩) ([], ⟨s, (a : Int), false⟩)) := by
 obtain ⟨h1, h2⟩ := vquoted hs s.length k hk (by omega) [] (by simp; omega)
 refine ⟨fun x m h => ?_, fun h => ?_⟩
 ·rw [ev_value_reader_quoted]; exact h1 x m h
 ·obtain ⟨a, a1, a2, ha⟩ := h2 h
  exact ⟨a, a1, a2, by rw [ev_value_reader_quoted]; exact ha⟩
end Go.Proofs.YtagebdhlgnlcnaaGreatDoor


namespace Go.Proofs.YtagebdhlgnlcnaaGreatDoor
open Go Go.Ab
set_option linter.unusedVariables false
set_option linter.unusedSimpArgs false
theorem nul_wf {r : GRatio} (h : nul r = true) : r.wf := by
 simp only [nul, Bool.and_eq_true, beq_iff_eq] at h
 rw [GRatio.wf_eq, h.1, h.2]; decide
theorem rok_wf {r : GRatio} (h : rok r = true) : r.wf := by
 rw [rok_iff] at h
 rw [GRatio.wf_eq, show IntKind.i64.min = -9223372036854775808 from by decide, show IntKind.i64.max = 9223372036854775807 from by decide]
 omega
def vnum (r : GRatio) : GValue := ⟨1, r, false, [], []⟩
def vtruth (b : Bool) : GValue := ⟨2, ⟨0, 0⟩, b, [], []⟩
def NUMS : List UInt8 := [48, 49, 50, 51, 52, 53, 54, 55, 56, 57, 47, 45]
def isNum (c : UInt8) : Bool := NUMS.any (· == c)
theorem beq_nat (c d : UInt8) : (c == d) = decide (c.toNat = d.toNat) := by
 rw [Bool.eq_iff_iff, beq_iff_eq, decide_eq_true_eq, UInt8.toNat_inj]
theorem index_num (c : UInt8) : ∃ k : Int, Ev (fun n => go_strings_IndexByte n [48, 49, 50, 51, 52, 53, 54, 55, 56, 57, 47, 45] (c.toNat : Int)) k ∧ decide (k ≥ 0) = isNum c := by
 have hi : Ev (fun n => go_internal_stringslite_IndexByte n NUMS (c.toNat : Int)) (Lib.indexByte NUMS c) := ⟨0, fun _ _ => by
  show some _ = some _
  rw [show ((c.toNat : Int)).toNat.toUInt8 = c by simp]⟩
 refine ⟨_, by rw [ev_strings_IndexByte]; exact (Ev.bind_iff hi).2 (Ev.some_iff.2 rfl), ?_⟩
 rw [index_at]
 unfold isNum
 cases NUMS.any (· == c)
 ·rfl
 ·simp
def str3 (x : List UInt8) : GValue := ⟨3, ⟨0, 0⟩, false, x, []⟩
theorem vskip {t s : List UInt8} {k : Nat} {b : Bool} (hs : s.length ≤ 100000) (hk : k ≤ s.length) : Ev (fun n => go_value_reader_skip n t ⟨s, (k : Int), b⟩) (if t.isPrefixOf (s.drop k) then (true, ⟨s, ((k + t.length : Nat) : Int), b⟩) else (false, ⟨s, (k : Int), b⟩)) := by
 rw [ev_value_reader_skip, Ev.opt_iff (sub_nat hk (Nat.le_refl _)), List.take_length, Ev.bind_iff hasPrefix']
 cases hp : t.isPrefixOf (s.drop k)
 ·rw [Ev.pif_t (by rfl), Ev.some_iff]; rfl
 ·have := pre_len hp
  rw [List.length_drop] at this
  rw [Ev.pif_f (by rfl), Ev.some_iff, if_pos rfl]
  dsimp only
  rw [wI (by omega), Int.natCast_add]
theorem vskip_f {t s : List UInt8} {k : Nat} {b : Bool} (hs : s.length ≤ 100000) (hk : k ≤ s.length) (h : t.isPrefixOf (s.drop k) = false) : Ev (fun n => go_value_reader_skip n t ⟨s, (k : Int), b⟩) (false, ⟨s, (k : Int), b⟩) := (vskip hs hk).to (by rw [h]; rfl)
theorem vskip_t {t s : List UInt8} {k : Nat} {b : Bool} (hs : s.length ≤ 100000) (hk : k ≤ s.length) (h : t.isPrefixOf (s.drop k) = true) : Ev (fun n => go_value_reader_skip n t ⟨s, (k : Int), b⟩) (true, ⟨s, ((k + t.length : Nat) : Int), b⟩) := (vskip hs hk).to (by rw [h]; rfl)
theorem str3_wf (x : List UInt8) : (str3 x).wf := by
 rw [GValue.wf_eq]
 refine ⟨⟨by show IntKind.u8.min ≤ 3; decide, by show 3 ≤ IntKind.u8.max; decide⟩, ?_, trivial, trivial, fun y hy => by cases hy⟩
 exact nul_wf (r := ⟨0, 0⟩) rfl
theorem str3_size (x : List UInt8) : (str3 x).size ≤ x.length + 20 := by
 rw [GValue.size_eq]
 show 1 + GRatio.size ⟨0, 0⟩ + 1 + (x.length + 1) + ((List.map GValue.size []).sum + 1) + 1 ≤ _
 rw [GRatio.size_eq]
 simp only [List.map_nil, List.sum_nil]
 omega
theorem vnum_size (r : GRatio) : (vnum r).size ≤ 20 := by
 rw [GValue.size_eq]
 show 1 + GRatio.size r + 1 + (0 + 1) + ((List.map GValue.size []).sum + 1) + 1 ≤ _
 rw [GRatio.size_eq]
 simp only [List.map_nil, List.sum_nil]
 omega
theorem value_Parse_str {u : List UInt8} (hu : u.length + 1 ≤ 4000) : Ev (fun n => go_value_Parse n (34 :: u)) (match scan u with
  | some (x, m) => if m = u.length ∧ vcheck (str3 x) = 0 then (0, str3 x) else (12, v0)
  | none => (12, v0)) := by
 have hl : (34 :: u).length ≤ 100000 := by simp; omega
 have hq := value_quoted (s := 34 :: u) (k := 1) hl (by simp)
 rw [List.drop_succ_cons, List.drop_zero] at hq
 have l0 : ∀ v : GValue, Ev (fun n => go_value_Parse_L0 n true ⟨0, ⟨0, 0⟩, false, [], []⟩ v) (12, v0) := fun v => by
  rw [ev_value_Parse_L0, Ev.pif_t (by rfl), Ev.some_iff]; rfl
 have hv : ∀ x q, Ev (fun n => go_value_reader_quoted n ⟨34 :: u, ((1 : Nat) : Int), true⟩) (x, q) → Ev (fun n => go_value_reader_value n 6 ⟨34 :: u, ((0 : Nat) : Int), true⟩) (q, str3 x) := fun x q h => by
  rw [ev_value_reader_value, Ev.pif_f (by rfl), Ev.bind_iff (vskip_f hl (Nat.zero_le _) (by rfl)), Ev.pif_f (by rfl), Ev.bind_iff (vskip_f hl (Nat.zero_le _) (by rfl)), Ev.pif_f (by rfl), Ev.bind_iff (vskip_t hl (Nat.zero_le _) (by simp [List.isPrefixOf])), Ev.pif_t (by rfl)]
  refine (Ev.bind_iff h).2 ?_
  rw [Ev.some_iff]; rfl
 rw [ev_value_Parse, Ev.pif_f (by simp; omega)]
 cases hs : scan u with
 | none =>
   obtain ⟨a, _, _, ha⟩ := hq.2 hs
   refine (Ev.bind_iff (hv _ _ ha)).2 ?_
   rw [Ev.pif_t (by rfl)]
   exact l0 _
 | some p =>
   obtain ⟨x, m⟩ := p
   have hx := hq.1 x m hs
   obtain ⟨e1, e2, e3⟩ := scan_some u x m hs
   refine (Ev.bind_iff (hv _ _ hx)).2 ?_
   dsimp only
   rw [Ev.pif_f (by rfl)]
   by_cases hm : m = u.length
   · have hc := value_Check (str3_wf x) (by have := str3_size x; omega)
     rw [Ev.pif_f (by simp; omega), GValue.re_eq, Ev.bind_iff hc]
     by_cases hk : vcheck (str3 x) = 0
     · rw [if_pos ⟨hm, hk⟩, hk, ev_value_Parse_L0, Ev.pif_f (by rfl), Ev.some_iff, GValue.re_eq]
     · rw [if_neg fun h => hk h.2, show (vcheck (str3 x) != 0) = true by simpa using hk]
       exact l0 _
   · rw [if_neg fun h => hm h.1, Ev.pif_t (by simp; omega)]
     exact l0 _
theorem tw_step {p : UInt8 → Bool} {u : List UInt8} {k : Nat} (hk : k < u.length) (h : p u[k] = true) : ((u.drop k).takeWhile p).length = ((u.drop (k + 1)).takeWhile p).length + 1 := by
 rw [drop_cons hk, List.takeWhile_cons, if_pos h, List.length_cons]
theorem tw_stop {p : UInt8 → Bool} {u : List UInt8} {k : Nat} (hk : k < u.length) (h : p u[k] = false) : ((u.drop k).takeWhile p).length = 0 := by
 rw [drop_cons hk, List.takeWhile_cons, if_neg (by simp [h]), List.length_nil]
theorem take_tw (p : UInt8 → Bool) (u : List UInt8) : u.take (u.takeWhile p).length = u.takeWhile p := by
 induction u with
 | nil => rfl
 | cons c u ih =>
   rw [List.takeWhile_cons]
   split
   · rw [List.length_cons, List.take_succ_cons, ih]
   · rfl
end Go.Proofs.YtagebdhlgnlcnaaGreatDoor


namespace Go.Proofs.YtagebdhlgnlcnaaGreatDoor
open Go Go.Ab
set_option linter.unusedVariables false
set_option linter.unusedSimpArgs false
theorem starts {s t : List UInt8} {k : Nat} (hs : s.length ≤ 100000) (ht : t.length ≤ 100) (hk : k ≤ s.length) : Ev (fun n => go_ref03_Starts n s (k : Int) t) (t.isPrefixOf (s.drop k)) := by
 rw [ev_ref03_Starts, wI (x := (k : Int) + (t.length : Int)) (by omega), ← Int.natCast_add]
 by_cases h : k + t.length ≤ s.length
 ·rw [Ev.pif_t (by simp; omega), Ev.opt_iff (sub_nat (by omega) h), Ev.some_iff, pre_take, List.drop_take, Nat.add_sub_cancel_left]
 ·rw [Ev.pif_f (by simp; omega), Ev.some_iff]
  cases hp : t.isPrefixOf (s.drop k)
  ·rfl
  ·have := pre_len hp
   rw [List.length_drop] at this
   omega
theorem ref03_Str' {x : List UInt8} : Ev (fun n => go_ref03_Str n x) (str3 x) := by rw [ev_ref03_Str, Ev.some_iff]; rfl
theorem ref03_Of' {r : GRatio} : Ev (fun n => go_ref03_Of n r) (vnum r) := by rw [ev_ref03_Of, Ev.some_iff]; rfl
theorem ref03_Is' {b : Bool} : Ev (fun n => go_ref03_Is n b) (vtruth b) := by rw [ev_ref03_Is, Ev.some_iff]; rfl
theorem rquoted {s : List UInt8} (hs : s.length ≤ 100000) {v : GValue} : ∀ N k : Nat, k ≤ s.length → s.length - k ≤ N → ∀ acc : List UInt8, acc.length + (s.length - k) ≤ 100000 →
  (∀ x m, scan (s.drop k) = some (x, m) → Ev (fun n => go_ref03_quoted_L0 n (k : Int) acc s v) (((k + m : Nat) : Int), true, str3 (acc ++ x))) ∧
  (scan (s.drop k) = none → Ev (fun n => go_ref03_quoted_L0 n (k : Int) acc s v) (0, false, v0)) := by
 have fin : ∀ acc : List UInt8, Ev (fun n => go_ref03_quoted_L0 n (s.length : Int) acc s v) (0, false, v0) := fun acc => by
  rw [ev_ref03_quoted_L0, Ev.pif_f (by simp), Ev.some_iff]; rfl
 have l2 : ∀ (j : Nat) (acc : List UInt8) (hj : j < s.length), acc.length ≤ 100000 → ∀ r, Ev (fun n => go_ref03_quoted_L0 n ((j + 1 : Nat) : Int) (acc ++ [s[j]]) s v) r → Ev (fun n => go_ref03_quoted_L2 n s (j : Int) acc v) r := fun j acc hj hl r h => by
  rw [ev_ref03_quoted_L2, Ev.opt_iff (sub_at hj (by omega)), Ev.opt_iff (cat_ok (by simp; omega)), wrk (by omega), GValue.re_eq]
  exact h
 intro N
 induction N with
 | zero =>
   intro k hk hN acc hl
   have : k = s.length := by omega
   subst this
   rw [List.drop_length]
   exact ⟨fun x m h => (by rw [scan] at h; cases h), fun _ => fin acc⟩
 | succ N ih =>
   intro k hk hN acc hl
   by_cases hlt : k < s.length
   · have first : ∀ r, s[k] ≠ 34 → s[k] ≠ 92 → Ev (fun n => go_ref03_quoted_L0 n ((k + 1 : Nat) : Int) (acc ++ [s[k]]) s v) r → Ev (fun n => go_ref03_quoted_L0 n (k : Int) acc s v) r := fun r h34 h92 h => by
       rw [ev_ref03_quoted_L0, Ev.pif_t (by simpa using hlt), Ev.opt_iff (ix_lt hlt), b34, Ev.pif_f (by simpa using h34), Ev.opt_iff (ix_lt hlt), b92, Ev.pif_f (by simpa using h92), ev_ref03_quoted_L1, Ev.pif_f (by rfl), Ev.opt_iff (ix_lt hlt), b92, Ev.pif_f (by simpa using h92)]
       simp only [GValue.re_eq]
       exact l2 k acc hlt (by omega) r h
     have esc : ∀ r, s[k] = 92 → ∀ h1 : k + 1 < s.length, (s[k + 1] = 34 ∨ s[k + 1] = 92) → Ev (fun n => go_ref03_quoted_L0 n ((k + 2 : Nat) : Int) (acc ++ [s[k + 1]]) s v) r → Ev (fun n => go_ref03_quoted_L0 n (k : Int) acc s v) r := fun r h92 h1 hd h => by
       have l1 : Ev (fun n => go_ref03_quoted_L1 n s acc (k : Int) true v) r := by
         rw [ev_ref03_quoted_L1, Ev.pif_t (by rfl), wrk (by omega), GValue.re_eq]
         exact l2 (k + 1) acc h1 (by omega) r h
       rw [ev_ref03_quoted_L0, Ev.pif_t (by simpa using hlt), Ev.opt_iff (ix_lt hlt), b34, Ev.pif_f (by rw [h92]; rfl), Ev.opt_iff (ix_lt hlt), b92, Ev.pif_t (by rw [h92]; rfl), wrk (by omega), Ev.pif_t (by simp; omega), Ev.opt_iff (ix_lt h1), b34]
       simp only [GValue.re_eq]
       by_cases hd34 : s[k + 1] = 34
       · rw [Ev.pif_t (by simpa using hd34)]; exact l1
       · rw [Ev.pif_f (by simpa using hd34), Ev.opt_iff (ix_lt h1), b92, show (s[k + 1] == 92) = true by simpa using hd.resolve_left hd34]; exact l1
     have bad : s[k] = 92 → (∀ h1 : k + 1 < s.length, s[k + 1] ≠ 34 ∧ s[k + 1] ≠ 92) → Ev (fun n => go_ref03_quoted_L0 n (k : Int) acc s v) (0, false, v0) := fun h92 hd => by
       have l1 : Ev (fun n => go_ref03_quoted_L1 n s acc (k : Int) false v) (0, false, v0) := by
         rw [ev_ref03_quoted_L1, Ev.pif_f (by rfl), Ev.opt_iff (ix_lt hlt), b92, Ev.pif_t (by rw [h92]; rfl), Ev.some_iff]; rfl
       rw [ev_ref03_quoted_L0, Ev.pif_t (by simpa using hlt), Ev.opt_iff (ix_lt hlt), b34, Ev.pif_f (by rw [h92]; rfl), Ev.opt_iff (ix_lt hlt), b92, Ev.pif_t (by rw [h92]; rfl), wrk (by omega)]
       simp only [GValue.re_eq]
       by_cases h1 : k + 1 < s.length
       · obtain ⟨d1, d2⟩ := hd h1
         rw [Ev.pif_t (by simp; omega), Ev.opt_iff (ix_lt h1), b34, Ev.pif_f (by simpa using d1), Ev.opt_iff (ix_lt h1), b92, show (s[k + 1] == 92) = false by simpa using d2]
         exact l1
       · rw [Ev.pif_f (by simp; omega)]
         exact l1
     rw [drop_cons hlt]
     by_cases h34 : s[k] = 34
     · rw [h34, scan_34]
       refine ⟨fun x m h => ?_, fun h => by cases h⟩
       injection h with h
       injection h with h1 h2
       subst h1 h2
       rw [ev_ref03_quoted_L0, Ev.pif_t (by simpa using hlt), Ev.opt_iff (ix_lt hlt), b34, Ev.pif_t (by simpa using h34), Ev.bind_iff ref03_Str', Ev.some_iff, wrk (by omega), List.append_nil, GValue.re_eq]
     by_cases h92 : s[k] = 92
     · rw [h92]
       by_cases hk1 : k + 1 < s.length
       · rw [drop_cons hk1, scan_92, show k + 1 + 1 = k + 2 by omega]
         by_cases hd : s[k + 1] = 34 ∨ s[k + 1] = 92
         · rw [if_pos hd]
           obtain ⟨i1, i2⟩ := ih (k + 2) (by omega) (by omega) (acc ++ [s[k + 1]]) (by simp; omega)
           refine ⟨fun x m h => ?_, fun h => ?_⟩
           · cases hsc : scan (s.drop (k + 2)) with
             | none => rw [hsc] at h; cases h
             | some p =>
               obtain ⟨y, j⟩ := p
               rw [hsc] at h
               injection h with h
               injection h with e1 e2
               subst e1 e2
               refine (esc _ h92 hk1 hd (i1 y j hsc)).to ?_
               rw [List.append_assoc, show k + 2 + j = k + (j + 2) by omega]; rfl
           · cases hsc : scan (s.drop (k + 2)) with
             | none => exact esc _ h92 hk1 hd (i2 hsc)
             | some p => rw [hsc] at h; cases h
         · rw [if_neg hd]
           exact ⟨fun x m h => (by cases h), fun _ => bad h92 fun _ => ⟨fun e => hd (.inl e), fun e => hd (.inr e)⟩⟩
       · rw [List.drop_of_length_le (by omega), scan_92n]
         exact ⟨fun x m h => (by cases h), fun _ => bad h92 fun h => (hk1 h).elim⟩
     rw [scan_c _ h34 h92]
     obtain ⟨i1, i2⟩ := ih (k + 1) (by omega) (by omega) (acc ++ [s[k]]) (by simp; omega)
     refine ⟨fun x m h => ?_, fun h => ?_⟩
     · cases hsc : scan (s.drop (k + 1)) with
       | none => rw [hsc] at h; cases h
       | some p =>
         obtain ⟨y, j⟩ := p
         rw [hsc] at h
         injection h with h
         injection h with e1 e2
         subst e1 e2
         refine (first _ h34 h92 (i1 y j hsc)).to ?_
         rw [List.append_assoc, show k + 1 + j = k + (j + 1) by omega]; rfl
     · cases hsc : scan (s.drop (k + 1)) with
       | none => exact first _ h34 h92 (i2 hsc)
       | some p => rw [hsc] at h; cases h
   · have : k = s.length := by omega
     subst this
     rw [List.drop_length]
     exact ⟨fun x m h => (by rw [scan] at h; cases h), fun _ => fin acc⟩
theorem ref03_quoted {s : List UInt8} {a : Nat} (hs : s.length ≤ 100000) (ha : a < s.length) :
  (∀ x m, scan (s.drop (a + 1)) = some (x, m) → Ev (fun n => go_ref03_quoted n s (a : Int)) (((a + 1 + m : Nat) : Int), true, str3 x)) ∧
  (scan (s.drop (a + 1)) = none → Ev (fun n => go_ref03_quoted n s (a : Int)) (0, false, v0)) := by
 obtain ⟨h1, h2⟩ := rquoted hs (v := ⟨0, ⟨0, 0⟩, false, [], []⟩) s.length (a + 1) (by omega) (by omega) [] (by simp; omega)
 refine ⟨fun x m h => ?_, fun h => ?_⟩
 ·rw [ev_ref03_quoted, wrk (by omega)]; exact h1 x m h
 ·rw [ev_ref03_quoted, wrk (by omega)]; exact h2 h
def isDS (c : UInt8) : Bool := isDig c || c == 47
def nw : List UInt8 → List UInt8
 | [] => []
 | c :: t => if c = 45 then 45 :: t.takeWhile isDS else (c :: t).takeWhile isDS
theorem isDS_iff {c : UInt8} : isDS c = true ↔ (48 ≤ c.toNat ∧ c.toNat ≤ 57) ∨ c.toNat = 47 := by
 unfold isDS
 rw [Bool.or_eq_true, isDig_iff, beq_nat, decide_eq_true_eq]
 rfl
theorem nw_cons (c : UInt8) (t : List UInt8) : nw (c :: t) = if c = 45 then 45 :: t.takeWhile isDS else (c :: t).takeWhile isDS := rfl
theorem nw_take (u : List UInt8) : u.take (nw u).length = nw u := by
 cases u with
 | nil => rfl
 | cons c t =>
   rw [nw_cons]
   split
   · rename_i h; subst h; rw [List.length_cons, List.take_succ_cons, take_tw]
   · exact take_tw _ _
theorem nw_len (u : List UInt8) : (nw u).length ≤ u.length := by
 have := congrArg List.length (nw_take u)
 rw [List.length_take] at this
 omega
theorem rn_step {s : List UInt8} {a k : Nat} {v : GValue} {r} (hk : k < s.length) (h : Ev (fun n => go_ref03_number_L1 n (a : Int) s (k : Int) (isDS s[k] || (s[k] == 45 && decide (k = a))) v) r) : Ev (fun n => go_ref03_number_L0 n (k : Int) (a : Int) s v) r := by
 have e47 := beq_nat s[k] 47
 have e45 := beq_nat s[k] 45
 rw [show (47 : UInt8).toNat = 47 by rfl] at e47
 rw [show (45 : UInt8).toNat = 45 by rfl] at e45
 rw [ev_ref03_number_L0, Ev.pif_t (by simpa using hk), Ev.opt_iff (ix_lt hk)]
 simp only [GValue.re_eq]
 by_cases h48 : 48 ≤ s[k].toNat
 ·rw [Ev.pif_t (by simp; omega), Ev.opt_iff (ix_lt hk)]
  by_cases h57 : s[k].toNat ≤ 57
  ·rw [show isDS s[k] = true from isDS_iff.2 (.inl ⟨h48, h57⟩), Bool.true_or] at h
   rw [Ev.pif_t (by simp; omega)]
   exact h
  ·have hn : isDS s[k] = false := by cases hq : isDS s[k]; rfl; rw [isDS_iff] at hq; omega
   rw [hn, e45, decide_eq_false (by omega : ¬ s[k].toNat = 45)] at h
   rw [Ev.pif_f (by simp; omega), Ev.opt_iff (ix_lt hk), Ev.pif_f (by simp; omega), Ev.opt_iff (ix_lt hk), Ev.pif_f (by simp; omega)]
   exact h
 ·rw [Ev.pif_f (by simp; omega), Ev.opt_iff (ix_lt hk)]
  by_cases h47 : s[k].toNat = 47
  ·rw [show isDS s[k] = true from isDS_iff.2 (.inr h47), Bool.true_or] at h
   rw [Ev.pif_t (by simp; omega)]
   exact h
  ·have hn : isDS s[k] = false := by cases hq : isDS s[k]; rfl; rw [isDS_iff] at hq; omega
   rw [hn, e45] at h
   rw [Ev.pif_f (by simp; omega), Ev.opt_iff (ix_lt hk)]
   by_cases h45 : s[k].toNat = 45
   ·rw [decide_eq_true h45, Bool.false_or, Bool.true_and] at h
    rw [Ev.pif_t (by simp; omega), show (((k : Nat) : Int) == (a : Int)) = decide (k = a) by rw [Bool.eq_iff_iff, beq_iff_eq, decide_eq_true_eq]; omega]
    exact h
   ·rw [decide_eq_false h45] at h
    rw [Ev.pif_f (by simp; omega)]
    exact h
theorem rn_loop {s : List UInt8} {a : Nat} {v : GValue} {r} (hs : s.length ≤ 100000) : ∀ k, k ≤ s.length → a < k → Ev (fun n => go_ref03_number_L1 n (a : Int) s ((k + ((s.drop k).takeWhile isDS).length : Nat) : Int) false v) r → Ev (fun n => go_ref03_number_L0 n (k : Int) (a : Int) s v) r :=
 down (fun hk h => by
  rw [List.drop_length] at h
  rw [ev_ref03_number_L0, Ev.pif_f (by simp), GValue.re_eq]
  exact h) fun k hk ih ha h => by
  refine rn_step hk ?_
  rw [decide_eq_false (by omega : ¬ k = a), Bool.and_false, Bool.or_false]
  cases hc : isDS s[k]
  ·rw [tw_stop hk hc] at h
   exact h
  ·rw [tw_step hk hc] at h
   rw [ev_ref03_number_L1, Ev.pif_t (by rfl), wrk (by omega), GValue.re_eq]
   refine ih (by omega) ?_
   rw [show k + 1 + ((s.drop (k + 1)).takeWhile isDS).length = k + (((s.drop (k + 1)).takeWhile isDS).length + 1) by omega]
   exact h
theorem ref03_number {s : List UInt8} {a : Nat} (hs : s.length ≤ 100000) (ha : a < s.length) : Ev (fun n => go_ref03_number n s (a : Int)) (((a + (nw (s.drop a)).length : Nat) : Int), decide ((rread (nw (s.drop a))).1 = 0), vnum (rread (nw (s.drop a))).2) := by
 have hl := nw_len (s.drop a)
 rw [List.length_drop] at hl
 have fin : ∀ v : GValue, Ev (fun n => go_ref03_number_L1 n (a : Int) s ((a + (nw (s.drop a)).length : Nat) : Int) false v) (((a + (nw (s.drop a)).length : Nat) : Int), decide ((rread (nw (s.drop a))).1 = 0), vnum (rread (nw (s.drop a))).2) := fun v => by
  rw [ev_ref03_number_L1, Ev.pif_f (by rfl), Ev.opt_iff (sub_nat (by omega) (by omega)), List.drop_take, Nat.add_sub_cancel_left, nw_take, Ev.bind_iff (ref01_Parse' (by omega)), Ev.bind_iff ref03_Of', Ev.some_iff, GValue.re_eq]
  congr 2
 rw [ev_ref03_number]
 refine rn_step ha ?_
 have f := fin ⟨0, ⟨0, 0⟩, false, [], []⟩
 revert f
 generalize (((a + (nw (s.drop a)).length : Nat) : Int), decide ((rread (nw (s.drop a))).1 = 0), vnum (rread (nw (s.drop a))).2) = r
 intro f
 have e := drop_cons ha
 by_cases h45 : s[a] = 45
 ·rw [show (isDS s[a] || (s[a] == 45 && decide (a = a))) = true by rw [h45]; simp, ev_ref03_number_L1, Ev.pif_t (by rfl), wrk (by omega), GValue.re_eq]
  refine rn_loop hs (a + 1) (by omega) (by omega) ?_
  rw [e, h45] at f
  rw [show a + 1 + ((s.drop (a + 1)).takeWhile isDS).length = a + (nw (45 :: s.drop (a + 1))).length by rw [nw, if_pos rfl, List.length_cons]; omega]
  exact f
 ·have hn : nw (s.drop a) = (s.drop a).takeWhile isDS := by rw [e, nw, if_neg h45]
  rw [hn] at f
  rw [show (s[a] == 45) = false by simpa using h45, Bool.false_and, Bool.or_false]
  cases hc : isDS s[a]
  ·rw [tw_stop ha hc] at f
   exact f
  ·rw [tw_step ha hc] at f
   rw [ev_ref03_number_L1, Ev.pif_t (by rfl), wrk (by omega), GValue.re_eq]
   refine rn_loop hs (a + 1) (by omega) (by omega) ?_
   rw [show a + 1 + ((s.drop (a + 1)).takeWhile isDS).length = a + (((s.drop (a + 1)).takeWhile isDS).length + 1) by omega]
   exact f
end Go.Proofs.YtagebdhlgnlcnaaGreatDoor


namespace Go.Proofs.YtagebdhlgnlcnaaGreatDoor
open Go Go.Ab
set_option linter.unusedVariables false
set_option linter.unusedSimpArgs false
theorem val_ge : ∀ (s : List UInt8) (a : Nat), a ≤ val a s
 | [], a => by rw [val_nil]; exact Nat.le_refl _
 | c :: s, a => by rw [val_cons]; have := val_ge s (10 * a + (c.toNat - 48)); omega
theorem val_pos {c : UInt8} {s : List UInt8} (hc : isDig c = true) (h : c ≠ 48) : 1 ≤ val 0 (c :: s) := by
 rw [val_cons]
 have := val_ge s (10 * 0 + (c.toNat - 48))
 rw [isDig_iff] at hc
 have : c.toNat ≠ 48 := fun e => h (UInt8.toNat_inj.1 (by rw [e]; rfl))
 omega
theorem dig_of {c : UInt8} (h : isDig c = true) : UInt8.ofNat (48 + (c.toNat - 48)) = c := by
 rw [isDig_iff] at h
 rw [show 48 + (c.toNat - 48) = c.toNat by omega]
 exact UInt8.ofNat_toNat
theorem dec_of : ∀ (n : Nat) (s : List UInt8), s.length = n → s ≠ [] → s.all isDig = true → (s.head? ≠ some 48 ∨ s.length = 1) → Lib.decDigits (val 0 s) = s := by
 intro n
 induction n with
 | zero => intro s h hn; exact (hn (List.eq_nil_of_length_eq_zero h)).elim
 | succ n ih =>
   intro s h hn ha h0
   obtain ⟨t, c, rfl⟩ : ∃ t c, s = t ++ [c] := ⟨s.dropLast, s.getLast hn, (List.dropLast_concat_getLast hn).symm⟩
   rw [List.all_append, Bool.and_eq_true] at ha
   have hc : isDig c = true := by simpa using ha.2
   rw [val_append]
   cases t with
   | nil =>
     rw [val_nil, dec_small (by rw [isDig_iff] at hc; omega)]
     rw [show 48 + (10 * 0 + (c.toNat - 48)) = 48 + (c.toNat - 48) by omega, dig_of hc]
     rfl
   | cons x t =>
     have hx : isDig x = true := by have := ha.1; simp only [List.all_cons, Bool.and_eq_true] at this; exact this.1
     have h48 : x ≠ 48 := by
       rcases h0 with h0 | h0
       · intro e; apply h0; rw [e]; rfl
       · simp at h0
     have hp := val_pos (s := t) hx h48
     have hi := ih (x :: t) (by simp at h ⊢; omega) (by simp) ha.1 (.inl (by simpa using h48))
     have hd : c.toNat - 48 < 10 := by rw [isDig_iff] at hc; omega
     rw [dec_big (by omega), show (10 * val 0 (x :: t) + (c.toNat - 48)) / 10 = val 0 (x :: t) by omega, show (10 * val 0 (x :: t) + (c.toNat - 48)) % 10 = c.toNat - 48 by omega, hi, dig_of hc]
theorem numR_true {s : List UInt8} {n : Int} (h : numR s = (n, true)) : Lib.itoa n = s := by
 unfold numR at h
 split at h
 ·injection h with h1 h2
  rw [beq_iff_eq] at h2
  rw [← h1]; exact h2
 ·injection h with h1 h2; cases h2
 ·injection h with h1 h2; cases h2
theorem pum : ∀ (s : List UInt8) (a : Nat), s.all isDig = true → val a s ≤ 1000000000000000000 → Lib.parseUintM 18446744073709551615 a s = .ok (val a s)
 | [], a, _, _ => by rw [Lib.parseUintM, val_nil]
 | c :: s, a, ha, h => by
   simp only [List.all_cons, Bool.and_eq_true] at ha
   have hc := isDig_iff.1 ha.1
   rw [val_cons] at h ⊢
   have hg := val_ge s (10 * a + (c.toNat - 48))
   have hm : a * 10 + (c.toNat - 48) = 10 * a + (c.toNat - 48) := by omega
   rw [Lib.parseUintM, if_pos hc, if_neg (by omega), if_neg (by omega), hm]
   exact pum s _ ha.2 h
theorem numR_itoa {v : Int} (h0 : 0 ≤ v) (h1 : v ≤ 1000000000000000000) : numR (Lib.itoa v) = (v, true) := by
 have e := itoa_pos h0
 have ha := dec_all v.natAbs
 have hv := dec_val v.natAbs
 have hp : Lib.parseIntB 64 (Lib.itoa v) = .ok v := by
  rw [e]
  cases hq : Lib.decDigits v.natAbs with
  | nil => exact (dec_ne _ hq).elim
  | cons c t =>
    rw [hq] at ha hv
    have hc : isDig c = true := by simp only [List.all_cons, Bool.and_eq_true] at ha; exact ha.1
    rw [isDig_iff] at hc
    unfold Lib.parseIntB
    dsimp only
    rw [if_neg (by omega)]
    unfold Lib.parseUintB
    rw [if_neg (by simp), show (2 : Nat) ^ 64 - 1 = 18446744073709551615 by decide, pum _ 0 ha (by omega), hv]
    dsimp only
    rw [if_neg (by simp; omega), if_neg (by omega), if_neg (by omega)]
    congr 1; omega
 unfold numR
 rw [hp]
 simp
theorem scan_esc (t : List UInt8) : ∀ s, scan (esc s ++ 34 :: t) = some (s, (esc s).length + 1)
 | [] => by rw [esc, List.nil_append, scan_34]; rfl
 | c :: s => by
   rw [esc]
   by_cases h : c = 34 ∨ c = 92
   · rw [if_pos h, List.cons_append, List.cons_append, scan_92, if_pos h, scan_esc t s]; rfl
   · rw [if_neg h, List.cons_append, scan_c _ (fun e => h (.inl e)) (fun e => h (.inr e)), scan_esc t s]; rfl
theorem scan_sound : ∀ u x m, scan u = some (x, m) → u.take m = esc x ++ [34] := by
 refine sind ?_ ?_ ?_ ?_ ?_
 ·intro x m h; rw [scan_nil] at h; cases h
 ·intro t x m h
  rw [scan_34] at h
  injection h with h
  injection h with h1 h2
  subst h1 h2
  rfl
 ·intro x m h; rw [scan_92n] at h; cases h
 ·intro d t ih x m h
  rw [scan_92] at h
  split at h
  ·rename_i hd
   cases hs : scan t with
   | none => rw [hs] at h; cases h
   | some p =>
     obtain ⟨y, k⟩ := p
     rw [hs] at h
     injection h with h
     injection h with h1 h2
     subst h1 h2
     rw [List.take_succ_cons, List.take_succ_cons, ih y k hs, esc, if_pos hd]
     rfl
  ·cases h
 ·intro c t h34 h92 ih x m h
  rw [scan_c t h34 h92] at h
  cases hs : scan t with
  | none => rw [hs] at h; cases h
  | some p =>
    obtain ⟨y, k⟩ := p
    rw [hs] at h
    injection h with h
    injection h with h1 h2
    subst h1 h2
    rw [List.take_succ_cons, ih y k hs, esc, if_neg (by rintro (a | a) <;> contradiction)]
    rfl
theorem esc_no {b : UInt8} (hb : b ≠ 92) : ∀ s : List UInt8, b ∉ s → b ∉ esc s
 | [], h => by rw [esc]; exact h
 | c :: s, h => by
   have h1 : b ≠ c := fun e => h (by rw [e]; exact List.mem_cons_self)
   have h2 : b ∉ s := fun e => h (List.mem_cons_of_mem _ e)
   have := esc_no hb s h2
   rw [esc]
   split <;> simp [h1, hb, this]
def tl (nm : List UInt8) (c v : Int) : List UInt8 := (34 :: (esc nm ++ [34])) ++ 32 :: (Lib.itoa c ++ 32 :: Lib.itoa v)
def Last (c : UInt8) (s : List UInt8) (i : Int) : Prop := (i = -1 ∧ c ∉ s) ∨ ∃ k : Nat, i = (k : Int) ∧ ∃ h : k < s.length, s[k] = c ∧ c ∉ s.drop (k + 1)
theorem last_at {c : UInt8} {a b : List UInt8} (hb : c ∉ b) {i : Int} (h : Last c (a ++ c :: b) i) : i = (a.length : Int) := by
 rcases h with ⟨_, h⟩ | ⟨k, h1, h2, h3, h4⟩
 ·exact (h (by simp)).elim
 ·rw [h1]
  congr 1
  rcases Nat.lt_trichotomy k a.length with hk | hk | hk
  ·exfalso
   apply h4
   rw [List.drop_append_of_le_length (by omega)]
   simp
  ·exact hk
  ·exfalso
   apply hb
   rw [List.getElem_append_right (by omega)] at h3
   obtain ⟨m, hm⟩ : ∃ m, k - a.length = m + 1 := ⟨k - a.length - 1, by omega⟩
   simp only [hm, List.getElem_cons_succ] at h3
   rw [← h3]; exact List.getElem_mem _
theorem last_split {c : UInt8} {s : List UInt8} {k : Nat} (hk : k < s.length) (h : s[k] = c) : s = s.take k ++ c :: s.drop (k + 1) := by
 rw [← h, List.getElem_cons_drop, List.take_append_drop]
theorem cut_app {c : UInt8} {a b : List UInt8} (ha : c ∉ a) : cutAt c (a ++ c :: b) = (a, b, true) := by
 have h : (a ++ c :: b).takeWhile (· != c) = a ∧ (a ++ c :: b).dropWhile (· != c) = c :: b := by
  induction a with
  | nil => simp
  | cons x a ih =>
    have h1 : x ≠ c := fun e => ha (by rw [e]; exact List.mem_cons_self)
    obtain ⟨i1, i2⟩ := ih fun e => ha (List.mem_cons_of_mem _ e)
    rw [List.cons_append, List.takeWhile_cons, List.dropWhile_cons, if_pos (by simpa using h1), if_pos (by simpa using h1), i1, i2]
    exact ⟨rfl, rfl⟩
 unfold cutAt
 rw [h.1, h.2]
 simp
theorem cut_of {c : UInt8} : ∀ {s : List UInt8}, (cutAt c s).2.2 = true → s = (cutAt c s).1 ++ c :: (cutAt c s).2.1 := by
 intro s
 unfold cutAt
 induction s with
 | nil => intro h; cases h
 | cons x s ih =>
   intro h
   by_cases hx : x = c
   · subst hx
     simp
   · have h' : s.any (· == c) = true := by simpa [hx] using h
     have := ih h'
     simp only [List.takeWhile_cons, List.dropWhile_cons, show (x != c) = true by simpa using hx, if_true]
     dsimp only at this
     rw [List.cons_append, ← this]
theorem cut_no {c : UInt8} {s : List UInt8} (h : (cutAt c s).2.2 = false) : c ∉ s := by
 unfold cutAt at h
 have h' : ∀ x : UInt8, x ∈ s → ¬x = c := by simpa using h
 exact fun hm => h' c hm rfl
theorem itoa_dig {v : Int} (h : 0 ≤ v) : (Lib.itoa v).all isDig = true := by rw [itoa_pos h]; exact dec_all _
theorem dig_no {c : UInt8} (hc : isDig c = false) {s : List UInt8} (h : s.all isDig = true) : c ∉ s := fun hm => by
 have := List.all_eq_true.1 h c hm
 rw [hc] at this; cases this
end Go.Proofs.YtagebdhlgnlcnaaGreatDoor


namespace Go.Proofs.YtagebdhlgnlcnaaGreatDoor
open Go Go.Ab
set_option linter.unusedVariables false
set_option linter.unusedSimpArgs false
theorem vtruth_wf (b : Bool) : (vtruth b).wf := by
 rw [GValue.wf_eq]
 exact ⟨⟨by show IntKind.u8.min ≤ 2; decide, by show 2 ≤ IntKind.u8.max; decide⟩, nul_wf (r := ⟨0, 0⟩) rfl, trivial, trivial, fun y hy => by cases hy⟩
theorem vtruth_size (b : Bool) : (vtruth b).size ≤ 20 := by rw [GValue.size_eq, GRatio.size_eq]; simp [vtruth]
theorem vnum_wf {r : GRatio} (h : rok r = true) : (vnum r).wf := by
 rw [GValue.wf_eq]
 exact ⟨⟨by show IntKind.u8.min ≤ 1; decide, by show 1 ≤ IntKind.u8.max; decide⟩, rok_wf h, trivial, trivial, fun y hy => by cases hy⟩
def vlist (l : List GValue) : GValue := ⟨4, ⟨0, 0⟩, false, [], l⟩
theorem vlist_wf {l : List GValue} (h : ∀ x ∈ l, x.wf) : (vlist l).wf := by
 rw [GValue.wf_eq]
 exact ⟨⟨by show IntKind.u8.min ≤ 4; decide, by show 4 ≤ IntKind.u8.max; decide⟩, nul_wf (r := ⟨0, 0⟩) rfl, trivial, trivial, h⟩
theorem vlist_size (l : List GValue) : (vlist l).size ≤ (l.map GValue.size).sum + 20 := by
 rw [GValue.size_eq, GRatio.size_eq]; simp [vlist]; omega
def VDone (s : List UInt8) (k : Nat) (x : GReader × GValue) : Prop := ∃ (j : Nat) (b : Bool) (v : GValue), x = (⟨s, (j : Int), b⟩, v) ∧ k ≤ j ∧ j ≤ s.length ∧ v.size ≤ 60 * (j - k) + 30 ∧ (b = true → v.wf)
theorem num_done {s : List UInt8} (hs : s.length ≤ 4000) {k : Nat} {ok : Bool} (hk : k ≤ s.length) : ∃ x, Ev (fun n => go_value_reader_value_L3 n ⟨s, (k : Int), ok⟩ 0 0 0 false [] []) x ∧ VDone s k x ∧ x.2.kind ≠ 3 := by
 have loop : ∀ i, i ≤ s.length → k ≤ i → ∃ x, Ev (fun n => go_value_reader_value_L4 n (i : Int) ⟨s, (k : Int), ok⟩ 0 0 0 false [] []) x ∧ VDone s k x ∧ x.2.kind ≠ 3 := by
  have fin : ∀ i, i ≤ s.length → k ≤ i → ∃ x, Ev (fun n => go_value_reader_value_L5 n (i : Int) false ⟨s, (k : Int), ok⟩ 0 0 0 false [] []) x ∧ VDone s k x ∧ x.2.kind ≠ 3 := fun i hi hki => by
   have hl : ((s.take i).drop k).length ≤ 1000000 := by simp; omega
   obtain ⟨c, r, h1, h2⟩ := ratio_Parse hl
   have hsz := vnum_size r
   have hz : (c == 0) = true → rok r = true := fun h => by
    rcases h2 with h2 | h2
    ·exact h2.2.1
    ·rw [h2.1] at h; exact absurd h (by decide)
   cases ok
   ·refine ⟨(⟨s, (i : Int), false⟩, vnum r), ?_, ⟨i, false, vnum r, rfl, hki, hi, by omega, fun h => by cases h⟩, by show (1 : Int) ≠ 3; decide⟩
    rw [ev_value_reader_value_L5, Ev.pif_f (by rfl)]
    dsimp only
    rw [Ev.opt_iff (sub_nat hki hi)]
    refine (Ev.bind_iff h1).2 ?_
    rw [Ev.pif_f (by rfl), ev_value_reader_value_L6, Ev.some_iff]
    rfl
   ·refine ⟨(⟨s, (i : Int), c == 0⟩, vnum r), ?_, ⟨i, c == 0, vnum r, rfl, hki, hi, by omega, fun h => vnum_wf (hz h)⟩, by show (1 : Int) ≠ 3; decide⟩
    rw [ev_value_reader_value_L5, Ev.pif_f (by rfl)]
    dsimp only
    rw [Ev.opt_iff (sub_nat hki hi)]
    refine (Ev.bind_iff h1).2 ?_
    rw [Ev.pif_t (by rfl), ev_value_reader_value_L6, Ev.some_iff]
    rfl
  refine down (fun hki => ?_) fun i hi ih hki => ?_
  ·obtain ⟨x, h1, h2⟩ := fin s.length (Nat.le_refl _) hki
   refine ⟨x, ?_, h2⟩
   rw [ev_value_reader_value_L4, Ev.pif_f (by simp)]
   exact h1
  ·obtain ⟨j, hj, hjn⟩ := index_num s[i]
   cases hc : isNum s[i]
   ·obtain ⟨x, h1, h2⟩ := fin i (by omega) hki
    refine ⟨x, ?_, h2⟩
    rw [ev_value_reader_value_L4, Ev.pif_t (by simpa using hi), Ev.opt_iff (ix_lt hi), Ev.bind_iff hj, hjn, hc]
    exact h1
   ·obtain ⟨x, h1, h2⟩ := ih (by omega)
    refine ⟨x, ?_, h2⟩
    rw [ev_value_reader_value_L4, Ev.pif_t (by simpa using hi), Ev.opt_iff (ix_lt hi), Ev.bind_iff hj, hjn, hc, ev_value_reader_value_L5, Ev.pif_t (by rfl), wrk (by omega)]
    exact h1
 obtain ⟨x, h1, h2⟩ := loop k hk (Nat.le_refl _)
 exact ⟨x, by rw [ev_value_reader_value_L3]; exact h1, h2⟩
theorem list_end {s : List UInt8} (hs : s.length ≤ 4000) {k j : Nat} {b : Bool} {d : Int} {l : List GValue} (hkj : k ≤ j) (hj : j ≤ s.length) (hsz : (l.map GValue.size).sum + 30 ≤ 60 * (j - k) + 30) (hw : b = true → ∀ x ∈ l, x.wf) :
  ∃ x, Ev (fun n => go_value_reader_value_L1 n d false ⟨s, (j : Int), b⟩ 4 0 0 false [] 0 0 0 false [] l []) x ∧ VDone s k x ∧ x.2.kind ≠ 3 := by
 have hz := vlist_size l
 cases hp : ([93] : List UInt8).isPrefixOf (s.drop j)
 ·refine ⟨(⟨s, (j : Int), false⟩, vlist l), ?_, ⟨j, false, vlist l, rfl, hkj, hj, by omega, fun h => by cases h⟩, by show (4 : Int) ≠ 3; decide⟩
  rw [ev_value_reader_value_L1, Ev.pif_f (by rfl), Ev.bind_iff (vskip_f (by omega) hj hp), Ev.pif_f (by rfl), ev_value_reader_value_L2, Ev.some_iff]
  rfl
 ·have hl := pre_len hp
  rw [List.length_drop] at hl
  simp only [List.length_cons, List.length_nil] at hl
  refine ⟨(⟨s, ((j + 1 : Nat) : Int), b⟩, vlist l), ?_, ⟨j + 1, b, vlist l, rfl, by omega, by omega, by omega, fun h => vlist_wf (hw h)⟩, by show (4 : Int) ≠ 3; decide⟩
  rw [ev_value_reader_value_L1, Ev.pif_f (by rfl), Ev.bind_iff (vskip_t (by omega) hj hp), Ev.pif_t (by rfl), ev_value_reader_value_L2, Ev.some_iff]
  rfl
theorem vdone {s : List UInt8} (hs : s.length ≤ 4000) : ∀ d : Nat, d ≤ 6 → ∀ k, k ≤ s.length → ∃ x, Ev (fun n => go_value_reader_value n (d : Int) ⟨s, (k : Int), true⟩) x ∧ VDone s k x ∧ ((s.drop k).head? ≠ some 34 → x.2.kind ≠ 3) := by
 intro d
 induction d with
 | zero =>
   intro _ k hk
   obtain ⟨x, h1, h2, h3⟩ := num_done hs (ok := false) hk
   refine ⟨x, ?_, h2, fun _ => h3⟩
   rw [ev_value_reader_value, Ev.pif_t (by rfl)]
   exact h1
 | succ d ihd =>
   intro hd k hk
   have hs' : s.length ≤ 100000 := by omega
   have st : ∀ {x}, Ev (fun n => (go_value_reader_skip n [116, 114, 117, 101] ⟨s, (k : Int), true⟩).bind fun y0 =>
     pIf y0.1
       (some (y0.2, (GValue.mk 2 (GRatio.mk 0 0) true [] [])))
       ((go_value_reader_skip n [102, 97, 108, 115, 101] y0.2).bind fun y1 =>
       pIf y1.1
         (some (y1.2, (GValue.mk 2 (GRatio.mk 0 0) false [] [])))
         ((go_value_reader_skip n [34] y1.2).bind fun y2 =>
         pIf y2.1
           ((go_value_reader_quoted n y2.2).bind fun y3 =>
           some (y3.2, (GValue.mk 3 (GRatio.mk 0 0) false y3.1 [])))
           ((go_value_reader_skip n [91, 93] y2.2).bind fun y4 =>
           pIf y4.1
             (some (y4.2, (GValue.mk 4 (GRatio.mk 0 0) false [] [])))
             ((go_value_reader_skip n [91] y4.2).bind fun y5 =>
             pIf y5.1
               (go_value_reader_value_L0 n ((d + 1 : Nat) : Int) true y5.2 4 0 0 false [] 0 0 0 false [] [] [])
               (go_value_reader_value_L3 n y5.2 0 0 0 false [] [])))))) x → Ev (fun n => go_value_reader_value n ((d + 1 : Nat) : Int) ⟨s, (k : Int), true⟩) x := fun {x} h => by
     rw [ev_value_reader_value, Ev.pif_f (by rw [beq_eq_false_iff_ne]; omega)]
     exact h
   have pl : ∀ {p : List UInt8}, p.isPrefixOf (s.drop k) = true → k + p.length ≤ s.length := fun {p} h => by
     have := pre_len h
     rw [List.length_drop] at this
     omega
   cases hp1 : ([116, 114, 117, 101] : List UInt8).isPrefixOf (s.drop k)
   case true =>
     have := pl hp1
     have := vtruth_size true
     refine ⟨(⟨s, ((k + 4 : Nat) : Int), true⟩, vtruth true), st ?_, ⟨k + 4, true, vtruth true, rfl, by omega, by simp at *; omega, by omega, fun _ => vtruth_wf _⟩, fun _ => by show (2 : Int) ≠ 3; decide⟩
     rw [Ev.bind_iff (vskip_t hs' hk hp1), Ev.pif_t (by rfl), Ev.some_iff]
     rfl
   cases hp2 : ([102, 97, 108, 115, 101] : List UInt8).isPrefixOf (s.drop k)
   case true =>
     have := pl hp2
     have := vtruth_size false
     refine ⟨(⟨s, ((k + 5 : Nat) : Int), true⟩, vtruth false), st ?_, ⟨k + 5, true, vtruth false, rfl, by omega, by simp at *; omega, by omega, fun _ => vtruth_wf _⟩, fun _ => by show (2 : Int) ≠ 3; decide⟩
     rw [Ev.bind_iff (vskip_f hs' hk hp1), Ev.pif_f (by rfl), Ev.bind_iff (vskip_t hs' hk hp2), Ev.pif_t (by rfl), Ev.some_iff]
     rfl
   cases hp3 : ([34] : List UInt8).isPrefixOf (s.drop k)
   case true =>
     have h34 : (s.drop k).head? = some 34 := by
       cases hq : s.drop k with
       | nil => rw [hq] at hp3; cases hp3
       | cons c t => rw [hq] at hp3; simp only [List.isPrefixOf, Bool.and_true, beq_iff_eq] at hp3; rw [← hp3]; rfl
     have hk1 := pl hp3
     simp only [List.length_cons, List.length_nil] at hk1
     obtain ⟨q1, q2⟩ := value_quoted (s := s) (k := k + 1) hs' hk1
     have go : ∀ {x q}, Ev (fun n => go_value_reader_quoted n ⟨s, ((k + 1 : Nat) : Int), true⟩) (x, q) → Ev (fun n => go_value_reader_value n ((d + 1 : Nat) : Int) ⟨s, (k : Int), true⟩) (q, str3 x) := fun {x q} h => st (by
       rw [Ev.bind_iff (vskip_f hs' hk hp1), Ev.pif_f (by rfl), Ev.bind_iff (vskip_f hs' hk hp2), Ev.pif_f (by rfl), Ev.bind_iff (vskip_t hs' hk hp3), Ev.pif_t (by rfl)]
       refine (Ev.bind_iff h).2 ?_
       rw [Ev.some_iff]; rfl)
     cases hsc : scan (s.drop (k + 1)) with
     | none =>
       obtain ⟨a, a1, a2, hev⟩ := q2 hsc
       have := str3_size []
       exact ⟨_, go hev, ⟨a, false, str3 [], rfl, by omega, a2, by simp at this; omega, fun h => by cases h⟩, fun h => (h h34).elim⟩
     | some p =>
       obtain ⟨x, m⟩ := p
       obtain ⟨e1, e2, e3⟩ := scan_some _ x m hsc
       rw [List.length_drop] at e2
       have := str3_size x
       exact ⟨_, go (q1 x m hsc), ⟨k + 1 + m, true, str3 x, rfl, by omega, by omega, by omega, fun _ => str3_wf x⟩, fun h => (h h34).elim⟩
   cases hp4 : ([91, 93] : List UInt8).isPrefixOf (s.drop k)
   case true =>
     have := pl hp4
     have := vlist_size []
     refine ⟨(⟨s, ((k + 2 : Nat) : Int), true⟩, vlist []), st ?_, ⟨k + 2, true, vlist [], rfl, by omega, by simp at *; omega, by simp at this; omega, fun _ => vlist_wf fun x hx => by cases hx⟩, fun _ => by show (4 : Int) ≠ 3; decide⟩
     rw [Ev.bind_iff (vskip_f hs' hk hp1), Ev.pif_f (by rfl), Ev.bind_iff (vskip_f hs' hk hp2), Ev.pif_f (by rfl), Ev.bind_iff (vskip_f hs' hk hp3), Ev.pif_f (by rfl), Ev.bind_iff (vskip_t hs' hk hp4), Ev.pif_t (by rfl), Ev.some_iff]
     rfl
   cases hp5 : ([91] : List UInt8).isPrefixOf (s.drop k)
   · obtain ⟨x, h1, h2, h3⟩ := num_done hs (ok := true) hk
     refine ⟨x, st ?_, h2, fun _ => h3⟩
     rw [Ev.bind_iff (vskip_f hs' hk hp1), Ev.pif_f (by rfl), Ev.bind_iff (vskip_f hs' hk hp2), Ev.pif_f (by rfl), Ev.bind_iff (vskip_f hs' hk hp3), Ev.pif_f (by rfl), Ev.bind_iff (vskip_f hs' hk hp4), Ev.pif_f (by rfl), Ev.bind_iff (vskip_f hs' hk hp5), Ev.pif_f (by rfl)]
     exact h1
   · have hk1 := pl hp5
     simp only [List.length_cons, List.length_nil] at hk1
     have loop : ∀ M j, j ≤ s.length → s.length - j < M → k + 1 ≤ j → ∀ acc : List GValue, acc.length ≤ j → (acc.map GValue.size).sum + 60 ≤ 60 * (j - k) → (∀ x ∈ acc, x.wf) → ∃ x, Ev (fun n => go_value_reader_value_L0 n ((d + 1 : Nat) : Int) true ⟨s, (j : Int), true⟩ 4 0 0 false [] 0 0 0 false [] acc []) x ∧ VDone s k x ∧ x.2.kind ≠ 3 := by
       intro M
       induction M with
       | zero => intro j _ h; omega
       | succ M ih =>
         intro j hj hM hkj acc hal has haw
         obtain ⟨x, hx, ⟨j', b, v, rfl, hjj, hj', hvs, hvw⟩, _⟩ := ihd (by omega) j hj
         have hsum : ((acc ++ [v]).map GValue.size).sum + 30 ≤ 60 * (j' - k) := by
           rw [List.map_append, List.sum_append]
           simp only [List.map_cons, List.map_nil, List.sum_cons, List.sum_nil]
           omega
         have haw' : b = true → ∀ x ∈ acc ++ [v], x.wf := fun hb x hx => by
           rcases List.mem_append.1 hx with hx | hx
           · exact haw x hx
           · rw [List.mem_singleton.1 hx]; exact hvw hb
         have step : ∀ {z}, Ev (fun n => (go_value_reader_skip n [44, 32] ⟨s, (j' : Int), b⟩).bind fun y10 => go_value_reader_value_L0 n ((d + 1 : Nat) : Int) y10.1 y10.2 4 0 0 false [] 0 0 0 false [] (acc ++ [v]) []) z → Ev (fun n => go_value_reader_value_L0 n ((d + 1 : Nat) : Int) true ⟨s, (j : Int), true⟩ 4 0 0 false [] 0 0 0 false [] acc []) z := fun {z} h => by
           rw [ev_value_reader_value_L0, Ev.pif_t (by rfl), ev_value_reader_value_L1, Ev.pif_t (by rfl), wI (by omega), show ((d + 1 : Nat) : Int) - 1 = (d : Int) by omega]
           refine (Ev.bind_iff hx).2 ?_
           rw [GValue.re_eq, Ev.opt_iff (ext_ok (by simp; omega))]
           exact h
         cases hp : ([44, 32] : List UInt8).isPrefixOf (s.drop j')
         · obtain ⟨z, z1, z2⟩ := list_end hs (d := ((d + 1 : Nat) : Int)) (k := k) (j := j') (b := b) (l := acc ++ [v]) (by omega) hj' (by omega) haw'
           refine ⟨z, step ?_, z2⟩
           rw [Ev.bind_iff (vskip_f hs' hj' hp), ev_value_reader_value_L0, Ev.pif_f (by rfl)]
           exact z1
         · have hl := pre_len hp
           rw [List.length_drop] at hl
           simp only [List.length_cons, List.length_nil] at hl
           cases b
           · obtain ⟨z, z1, z2⟩ := list_end hs (d := ((d + 1 : Nat) : Int)) (k := k) (j := j' + 2) (b := false) (l := acc ++ [v]) (by omega) (by omega) (by omega) haw'
             refine ⟨z, step ?_, z2⟩
             rw [Ev.bind_iff (vskip_t hs' hj' hp), ev_value_reader_value_L0, Ev.pif_t (by rfl)]
             exact z1
           · obtain ⟨z, z1, z2⟩ := ih (j' + 2) (by omega) (by omega) (by omega) (acc ++ [v]) (by simp; omega) (by omega) (haw' rfl)
             refine ⟨z, step ?_, z2⟩
             rw [Ev.bind_iff (vskip_t hs' hj' hp)]
             exact z1
     obtain ⟨x, h1, h2, h3⟩ := loop (s.length + 1) (k + 1) hk1 (by omega) (Nat.le_refl _) [] (by simp) (by simp <;> omega) (fun x hx => by cases hx)
     refine ⟨x, st ?_, h2, fun _ => h3⟩
     rw [Ev.bind_iff (vskip_f hs' hk hp1), Ev.pif_f (by rfl), Ev.bind_iff (vskip_f hs' hk hp2), Ev.pif_f (by rfl), Ev.bind_iff (vskip_f hs' hk hp3), Ev.pif_f (by rfl), Ev.bind_iff (vskip_f hs' hk hp4), Ev.pif_f (by rfl), Ev.bind_iff (vskip_t hs' hk hp5), Ev.pif_t (by rfl)]
     exact h1
theorem value_Parse_other {w : List UInt8} (h34 : w.head? ≠ some 34) (hl : w.length ≤ 1000000) : ∃ (c : Int) (v : GValue), Ev (fun n => go_value_Parse n w) (c, v) ∧ (c ≠ 0 ∨ v.kind ≠ 3) := by
 by_cases h : w.length ≤ 4000
 ·obtain ⟨x, h1, ⟨j, b, v, rfl, _, hj, hsz, hw⟩, h3⟩ := vdone h 6 (Nat.le_refl _) 0 (Nat.zero_le _)
  have bad : ∀ v : GValue, Ev (fun n => go_value_Parse_L0 n true ⟨0, ⟨0, 0⟩, false, [], []⟩ v) (12, v0) := fun v => by
   rw [ev_value_Parse_L0, Ev.pif_t (by rfl), Ev.some_iff]; rfl
  have st : ∀ {z}, Ev (fun n => pIf (!b) (go_value_Parse_L0 n true ⟨0, ⟨0, 0⟩, false, [], []⟩ v) (pIf ((j : Int) != (w.length : Int)) (go_value_Parse_L0 n true ⟨0, ⟨0, 0⟩, false, [], []⟩ v) ((go_value_Check n v).bind fun y1 => go_value_Parse_L0 n (y1 != 0) ⟨0, ⟨0, 0⟩, false, [], []⟩ v))) z → Ev (fun n => go_value_Parse n w) z := fun {z} hz => by
   rw [ev_value_Parse, Ev.pif_f (by simp; omega)]
   refine (Ev.bind_iff h1).2 ?_
   simp only [GValue.re_eq]
   exact hz
  cases b
  ·exact ⟨12, v0, st (by rw [Ev.pif_t (by rfl)]; exact bad v), .inl (by decide)⟩
  by_cases hjl : j = w.length
  ·have hc := value_Check (hw rfl) (by omega)
   by_cases hz : vcheck v = 0
   ·refine ⟨0, v, st ?_, .inr (h3 (by rw [List.drop_zero]; exact h34))⟩
    rw [Ev.pif_f (by rfl), Ev.pif_f (by simp; omega), Ev.bind_iff hc, hz, ev_value_Parse_L0, Ev.pif_f (by rfl), Ev.some_iff, GValue.re_eq]
   ·refine ⟨12, v0, st ?_, .inl (by decide)⟩
    rw [Ev.pif_f (by rfl), Ev.pif_f (by simp; omega), Ev.bind_iff hc, show (vcheck v != 0) = true by simpa using hz]
    exact bad v
  ·exact ⟨12, v0, st (by rw [Ev.pif_f (by rfl), Ev.pif_t (by simp; omega)]; exact bad v), .inl (by decide)⟩
 ·refine ⟨12, v0, ?_, .inl (by decide)⟩
  rw [ev_value_Parse, Ev.pif_t (by simp; omega), Ev.some_iff]; rfl
end Go.Proofs.YtagebdhlgnlcnaaGreatDoor


namespace Go.Proofs.YtagebdhlgnlcnaaGreatDoor
open Go Go.Ab
set_option linter.unusedVariables false
set_option linter.unusedSimpArgs false
def tnamed (s : List UInt8) : Bool := vcheck (str3 s) == 0
def tnums (x : GTally) : Bool := !decide (x.count < 1) && (!decide (x.count > 1000000000) && (!decide (x.volume < 0) && !decide (x.volume > 1000000000000000000)))
def tall : Option (List UInt8) → List GTally → Bool
 | _, [] => true
 | none, x :: l => tnamed x.name && (tnums x && tall (some x.name) l)
 | some q, x :: l => tnamed x.name && (Op.bytesLess q x.name && (tnums x && tall (some x.name) l))
def tcheck (l : List GTally) : Int := if 200 < l.length then 4 else if tall none l then 0 else 8
def prv (l : List GTally) : Nat → Option (List UInt8)
 | 0 => none
 | k + 1 => l[k]?.map GTally.name
theorem prv_succ {l : List GTally} {k : Nat} (h : k < l.length) : prv l (k + 1) = some l[k].name := by rw [prv, List.getElem?_eq_getElem h]; rfl
theorem report_named {s : List UInt8} (h : s.length ≤ 4000000) : Ev (fun n => go_report_named n s) (tnamed s) := by
 have hs : Ev (fun n => go_report_str n s) (str3 s) := by rw [ev_report_str, Ev.some_iff]; rfl
 have := str3_size s
 rw [ev_report_named, Ev.bind_iff hs, GValue.re_eq, Ev.bind_iff (value_Check (str3_wf s) (by omega)), Ev.some_iff]
 rfl
theorem ref45_Named {s : List UInt8} (h : s.length ≤ 4000000) : Ev (fun n => go_ref45_Named n s) (tnamed s) := by
 have hs : Ev (fun n => go_ref03_Str n s) (str3 s) := ref03_Str
 have := str3_size s
 rw [ev_ref45_Named, Ev.bind_iff hs, GValue.re_eq, Ev.bind_iff (ref03_Check (by omega)), Ev.some_iff]
 rfl
theorem report_Check {l : List GTally} (hl : l.length ≤ 4000000) (hn : ∀ x ∈ l, x.name.length ≤ 4000000) : Ev (fun n => go_report_Check n l) (tcheck l) := by
 rw [ev_report_Check]
 unfold tcheck
 by_cases h : 200 < l.length
 ·rw [if_pos h, Ev.pif_t (by simp; omega), Ev.some_iff]
 rw [if_neg h, Ev.pif_f (by simp; omega)]
 have loop : ∀ k, k ≤ l.length → Ev (fun n => go_report_Check_L0 n (k : Int) l l (l.length : Int)) (if tall (prv l k) (l.drop k) then 0 else 8) :=
  down (by
   rw [ev_report_Check_L0, Ev.pif_f (by simp), Ev.some_iff, List.drop_length]
   cases prv l l.length <;> rfl) fun k hk ih => by
   have hd : l.drop k = l[k] :: l.drop (k + 1) := (List.getElem_cons_drop (h := hk)).symm
   rw [prv_succ hk] at ih
   have l1t : Ev (fun n => go_report_Check_L1 n l l (l.length : Int) (k : Int) true) 8 := by rw [ev_report_Check_L1, Ev.pif_t (by rfl), Ev.some_iff]
   have l1f : Ev (fun n => go_report_Check_L1 n l l (l.length : Int) (k : Int) false) (if tall (some l[k].name) (l.drop (k + 1)) then 0 else 8) := by
    rw [ev_report_Check_L1, Ev.pif_f (by rfl), wrk (by omega)]; exact ih
   have tailp : Ev (fun n => pIf (decide (l[k].count < 1)) (go_report_Check_L1 n l l (l.length : Int) (k : Int) true) (pIf (decide (l[k].count > 1000000000)) (go_report_Check_L1 n l l (l.length : Int) (k : Int) true) (pIf (decide (l[k].volume < 0)) (go_report_Check_L1 n l l (l.length : Int) (k : Int) true) (go_report_Check_L1 n l l (l.length : Int) (k : Int) (decide (l[k].volume > 1000000000000000000)))))) (if tnums l[k] && tall (some l[k].name) (l.drop (k + 1)) then 0 else 8) := by
    unfold tnums
    cases decide (l[k].count < 1)
    case true => rw [Ev.pif_t (by rfl)]; exact l1t
    rw [Ev.pif_f (by rfl)]
    cases decide (l[k].count > 1000000000)
    case true => rw [Ev.pif_t (by rfl)]; exact l1t
    rw [Ev.pif_f (by rfl)]
    cases decide (l[k].volume < 0)
    case true => rw [Ev.pif_t (by rfl)]; exact l1t
    rw [Ev.pif_f (by rfl)]
    cases decide (l[k].volume > 1000000000000000000)
    ·exact l1f
    ·exact l1t
   rw [ev_report_Check_L0, Ev.pif_t (by simpa using hk), Ev.opt_iff (ix_lt hk), Ev.bind_iff (report_named (hn _ (List.getElem_mem hk))), hd]
   cases k with
   | zero =>
     show Ev _ (if tnamed l[0].name && (tnums l[0] && tall (some l[0].name) (l.drop (0 + 1))) then 0 else 8)
     cases tnamed l[0].name
     · rw [Ev.pif_t (by rfl)]; exact l1t
     · rw [Ev.pif_f (by rfl), Ev.pif_f (by rfl)]; exact tailp
   | succ k =>
     have hk' : k < l.length := by omega
     rw [prv_succ hk']
     show Ev _ (if tnamed l[k + 1].name && (Op.bytesLess l[k].name l[k + 1].name && (tnums l[k + 1] && tall (some l[k + 1].name) (l.drop (k + 1 + 1)))) then 0 else 8)
     cases tnamed l[k + 1].name
     · rw [Ev.pif_t (by rfl)]; exact l1t
     · rw [Ev.pif_f (by rfl), Ev.pif_t (by simp <;> omega), wI (by omega), show ((k + 1 : Nat) : Int) - 1 = (k : Int) by omega, Ev.opt_iff (ix_lt hk')]
       cases Op.bytesLess l[k].name l[k + 1].name
       · rw [Ev.pif_t (by rfl)]; exact l1t
       · rw [Ev.pif_f (by rfl)]; exact tailp
 exact loop 0 (Nat.zero_le _)
theorem ref45_Check {l : List GTally} (hl : l.length ≤ 4000000) (hn : ∀ x ∈ l, x.name.length ≤ 4000000) : Ev (fun n => go_ref45_Check n l) (tcheck l) := by
 rw [ev_ref45_Check]
 unfold tcheck
 by_cases h : 200 < l.length
 ·rw [if_pos h, Ev.pif_t (by simp; omega), Ev.some_iff]
 rw [if_neg h, Ev.pif_f (by simp; omega)]
 have loop : ∀ k, k ≤ l.length → Ev (fun n => go_ref45_Check_L0 n (k : Int) l) (if tall (prv l k) (l.drop k) then 0 else 8) :=
  down (by
   rw [ev_ref45_Check_L0, Ev.pif_f (by simp), Ev.some_iff, List.drop_length]
   cases prv l l.length <;> rfl) fun k hk ih => by
   have hd : l.drop k = l[k] :: l.drop (k + 1) := (List.getElem_cons_drop (h := hk)).symm
   rw [prv_succ hk] at ih
   have l1t : Ev (fun n => go_ref45_Check_L1 n l (k : Int) true) 8 := by rw [ev_ref45_Check_L1, Ev.pif_t (by rfl), Ev.some_iff]
   have l1f : Ev (fun n => go_ref45_Check_L1 n l (k : Int) false) (if tall (some l[k].name) (l.drop (k + 1)) then 0 else 8) := by
    rw [ev_ref45_Check_L1, Ev.pif_f (by rfl), wrk (by omega)]; exact ih
   have tailp : Ev (fun n => (ix l (k : Int)).bind fun x4 => pIf (decide (x4.count < 1)) (go_ref45_Check_L1 n l (k : Int) true) ((ix l (k : Int)).bind fun x5 => pIf (decide (x5.count > 1000000000)) (go_ref45_Check_L1 n l (k : Int) true) ((ix l (k : Int)).bind fun x6 => pIf (decide (x6.volume < 0)) (go_ref45_Check_L1 n l (k : Int) true) ((ix l (k : Int)).bind fun x7 => go_ref45_Check_L1 n l (k : Int) (decide (x7.volume > 1000000000000000000)))))) (if tnums l[k] && tall (some l[k].name) (l.drop (k + 1)) then 0 else 8) := by
    unfold tnums
    rw [Ev.opt_iff (ix_lt hk)]
    cases decide (l[k].count < 1)
    case true => rw [Ev.pif_t (by rfl)]; exact l1t
    rw [Ev.pif_f (by rfl), Ev.opt_iff (ix_lt hk)]
    cases decide (l[k].count > 1000000000)
    case true => rw [Ev.pif_t (by rfl)]; exact l1t
    rw [Ev.pif_f (by rfl), Ev.opt_iff (ix_lt hk)]
    cases decide (l[k].volume < 0)
    case true => rw [Ev.pif_t (by rfl)]; exact l1t
    rw [Ev.pif_f (by rfl), Ev.opt_iff (ix_lt hk)]
    cases decide (l[k].volume > 1000000000000000000)
    ·exact l1f
    ·exact l1t
   rw [ev_ref45_Check_L0, Ev.pif_t (by simpa using hk), Ev.opt_iff (ix_lt hk), Ev.bind_iff (ref45_Named (hn _ (List.getElem_mem hk))), hd]
   cases k with
   | zero =>
     show Ev _ (if tnamed l[0].name && (tnums l[0] && tall (some l[0].name) (l.drop (0 + 1))) then 0 else 8)
     cases tnamed l[0].name
     · rw [Ev.pif_t (by rfl)]; exact l1t
     · rw [Ev.pif_f (by rfl), Ev.pif_f (by rfl)]; exact tailp
   | succ k =>
     have hk' : k < l.length := by omega
     rw [prv_succ hk']
     show Ev _ (if tnamed l[k + 1].name && (Op.bytesLess l[k].name l[k + 1].name && (tnums l[k + 1] && tall (some l[k + 1].name) (l.drop (k + 1 + 1)))) then 0 else 8)
     cases tnamed l[k + 1].name
     · rw [Ev.pif_t (by rfl)]; exact l1t
     · rw [Ev.pif_f (by rfl), Ev.pif_t (by simp <;> omega), wI (by omega), show ((k + 1 : Nat) : Int) - 1 = (k : Int) by omega, Ev.opt_iff (ix_lt hk'), Ev.opt_iff (ix_lt hk)]
       cases Op.bytesLess l[k].name l[k + 1].name
       · rw [Ev.pif_t (by rfl)]; exact l1t
       · rw [Ev.pif_f (by rfl)]; exact tailp
 exact loop 0 (Nat.zero_le _)
def tgood (x : GTally) : Prop := vcheck (str3 x.name) = 0 ∧ 1 ≤ x.count ∧ x.count ≤ 1000000000 ∧ 0 ≤ x.volume ∧ x.volume ≤ 1000000000000000000
theorem tgood_of {x : GTally} (h1 : tnamed x.name = true) (h2 : tnums x = true) : tgood x := by
 unfold tnamed at h1
 unfold tnums at h2
 simp only [Bool.and_eq_true, Bool.not_eq_true', decide_eq_false_iff_not, beq_iff_eq] at h1 h2
 exact ⟨h1, by omega, by omega, by omega, by omega⟩
theorem tall_good : ∀ (l : List GTally) (p : Option (List UInt8)), tall p l = true → ∀ x ∈ l, tgood x
 | [], _, _ => fun x hx => by cases hx
 | y :: l, p, h => fun x hx => by
   have h' : tnamed y.name = true ∧ tnums y = true ∧ tall (some y.name) l = true := by
     cases p with
     | none => simpa [tall] using h
     | some q => simp only [tall, Bool.and_eq_true] at h; exact ⟨h.1, h.2.2.1, h.2.2.2⟩
   rcases List.mem_cons.1 hx with rfl | hx
   · exact tgood_of h'.1 h'.2.1
   · exact tall_good l _ h'.2.2 x hx
theorem tcheck_good {l : List GTally} (h : tcheck l = 0) : l.length ≤ 200 ∧ ∀ x ∈ l, tgood x := by
 unfold tcheck at h
 split at h
 ·cases h
 split at h
 ·rename_i h1 h2; exact ⟨by omega, tall_good l none h2⟩
 ·cases h
theorem good_name {x : GTally} (h : tgood x) : x.name.length ≤ 60 ∧ x.name.all chOk = true := vfine3 (vcheck_fine h.1).1 rfl
def ttext : List GTally → List UInt8
 | [] => []
 | x :: l => tl x.name x.count x.volume ++ 10 :: ttext l
theorem tl_len {x : GTally} (h : tgood x) : (tl x.name x.count x.volume).length ≤ 170 := by
 have h1 := esc_len x.name
 have h2 := (good_name h).1
 obtain ⟨_, a, b, c, d⟩ := h
 have h3 := itoa_len (x := x.count) (by omega)
 have h4 := itoa_len (x := x.volume) (by omega)
 unfold tl
 simp only [List.length_append, List.length_cons, List.length_nil]
 omega
theorem ttext_len : ∀ l : List GTally, (∀ x ∈ l, tgood x) → (ttext l).length ≤ 171 * l.length
 | [], _ => by simp [ttext]
 | x :: l, h => by
   have h1 := tl_len (h x List.mem_cons_self)
   have h2 := ttext_len l fun y hy => h y (List.mem_cons_of_mem _ hy)
   rw [ttext]
   simp only [List.length_append, List.length_cons]
   omega
theorem str3_text (s : List UInt8) : vtext (str3 s) = 34 :: (esc s ++ [34]) := rfl
def tTextR (l : List GTally) : List UInt8 × Int := if tcheck l ≠ 0 then ([], tcheck l) else if 20000 < (ttext l).length then ([], 4) else (ttext l, 0)
theorem itoa_ev {x : Int} (h : -9223372036854775807 ≤ x ∧ x ≤ 9223372036854775807) : Ev (fun n => go_strconv_Itoa n x) (Lib.itoa x) := ⟨0, fun _ _ => by
 unfold go_strconv_Itoa; rw [if_pos ⟨by omega, h.2⟩]⟩
theorem report_Text {l : List GTally} (hl : l.length ≤ 4000000) (hn : ∀ x ∈ l, x.name.length ≤ 4000000) : Ev (fun n => go_report_Text n l) (tTextR l) := by
 have hc := report_Check hl hn
 rw [ev_report_Text, Ev.bind_iff hc]
 unfold tTextR
 by_cases h : tcheck l = 0
 ·obtain ⟨h1, h2⟩ := tcheck_good h
  have hlen := ttext_len l h2
  rw [if_neg (by simpa using h), Ev.pif_f (by simpa using h)]
  have loop : ∀ k, k ≤ l.length → ∀ acc : List UInt8, acc.length + 171 * (l.length - k) ≤ 1000000 → Ev (fun n => go_report_Text_L0 n (k : Int) l (l.length : Int) (bytesI acc)) (if 20000 < (acc ++ ttext (l.drop k)).length then ([], 4) else (acc ++ ttext (l.drop k), 0)) :=
   down (fun acc ha => by
    rw [ev_report_Text_L0, Ev.pif_f (by simp), Ev.bind_iff blen, List.drop_length, ttext, List.append_nil]
    by_cases hb : 20000 < acc.length
    ·rw [if_pos hb, Ev.pif_t (by simp; omega), Ev.some_iff]
    ·rw [if_neg hb, Ev.pif_f (by simp; omega), Ev.bind_iff bstr, Ev.some_iff]) fun k hk ih acc ha => by
    have hd : l.drop k = l[k] :: l.drop (k + 1) := (List.getElem_cons_drop (h := hk)).symm
    have hg := h2 _ (List.getElem_mem hk)
    have htl := tl_len hg
    have hst : Ev (fun n => go_report_str n l[k].name) (str3 l[k].name) := by rw [ev_report_str, Ev.some_iff]; rfl
    have hsz := str3_size l[k].name
    have hnl := (good_name hg).1
    obtain ⟨g1, g2, g3, g4, g5⟩ := hg
    have hvt := value_Text (str3_wf l[k].name) (by omega) g1 (by show (3 : Int) ≠ 4; decide)
    have hel := esc_len l[k].name
    have i1 := itoa_len (x := l[k].count) (by omega)
    have i2 := itoa_len (x := l[k].volume) (by omega)
    have hw := ih (acc ++ (tl l[k].name l[k].count l[k].volume ++ [10])) (by simp; omega)
    rw [ev_report_Text_L0, Ev.pif_t (by simpa using hk), Ev.opt_iff (ix_lt hk), Ev.bind_iff hst, GValue.re_eq, Ev.bind_iff hvt, str3_text]
    dsimp only
    rw [Ev.opt_iff (cat_ok (by simp; omega)), Ev.bind_iff (itoa_ev (by omega)), Ev.opt_iff (cat_ok (by simp; omega)), Ev.opt_iff (cat_ok (by simp; omega)), Ev.bind_iff (format_int (by omega)), Ev.opt_iff (cat_ok (by simp; omega)), Ev.opt_iff (cat_ok (by simp; omega))]
    have e1 : 34 :: (esc l[k].name ++ [34]) ++ [32] ++ Lib.itoa l[k].count ++ [32] ++ Lib.itoa l[k].volume ++ [10] = tl l[k].name l[k].count l[k].volume ++ [10] := by unfold tl; simp
    rw [e1, Ev.bind_iff (ws (by simp; omega)), wrk (by omega), hd, ttext]
    have e2 : acc ++ (tl l[k].name l[k].count l[k].volume ++ [10]) ++ ttext (l.drop (k + 1)) = acc ++ (tl l[k].name l[k].count l[k].volume ++ 10 :: ttext (l.drop (k + 1))) := by simp
    rw [e2] at hw
    exact hw
  exact loop 0 (Nat.zero_le _) [] (by simp; omega)
 ·rw [if_pos h, Ev.pif_t (by simpa using h), Ev.some_iff]
theorem dig_sub {u : Nat} (h : u < 10) : sub [48, 49, 50, 51, 52, 53, 54, 55, 56, 57] (u : Int) (IntKind.i64.wrap ((u : Int) + 1)) = some [UInt8.ofNat (48 + u)] := by
 rcases (show u = 0 ∨ u = 1 ∨ u = 2 ∨ u = 3 ∨ u = 4 ∨ u = 5 ∨ u = 6 ∨ u = 7 ∨ u = 8 ∨ u = 9 by omega) with rfl | rfl | rfl | rfl | rfl | rfl | rfl | rfl | rfl | rfl <;> decide +kernel
theorem dec45_loop : ∀ (u : Nat) (acc : List UInt8), u ≤ 9223372036854775807 → acc.length + Lib.nDigits u ≤ 1000 → Ev (fun n => go_ref45_decimal_L0 n (u : Int) acc [48, 49, 50, 51, 52, 53, 54, 55, 56, 57]) (if u = 0 then acc else Lib.decDigits u ++ acc) := by
 intro u
 induction u using Nat.strongRecOn with
 | _ u ih =>
   intro acc hu ha
   have hp := Lib.nDigits_pos u
   by_cases h0 : u = 0
   · rw [if_pos h0, ev_ref45_decimal_L0, Ev.pif_f (by simp; omega), Ev.some_iff]
   · rw [if_neg h0, ev_ref45_decimal_L0, Ev.pif_t (by simp; omega), Ev.opt_iff (rem_ten hu), Ev.opt_iff (rem_ten hu), Ev.opt_iff (dig_sub (Nat.mod_lt _ (by decide))), Ev.opt_iff (cat_ok (by simp; omega)), Ev.opt_iff (quo_ten hu)]
     by_cases h : u < 10
     · rw [ev_ref45_decimal_L0, Ev.pif_f (by simp; omega), Ev.some_iff, dec_small h, Nat.mod_eq_of_lt h]
     · rw [Lib.nDigits_big h] at ha
       have := ih (u / 10) (by omega) ([UInt8.ofNat (48 + u % 10)] ++ acc) (by omega) (by simp; omega)
       rw [if_neg (by omega)] at this
       rw [dec_big h, List.append_assoc]
       exact this
theorem ref45_decimal {x : Int} (h : 0 ≤ x ∧ x ≤ 9223372036854775807) : Ev (fun n => go_ref45_decimal n x) (Lib.itoa x) := by
 obtain ⟨u, rfl⟩ : ∃ u : Nat, x = (u : Int) := ⟨x.toNat, by omega⟩
 have hu : u ≤ 9223372036854775807 := by omega
 have hn := Lib.nDigits_le20 u (by omega)
 have e : Lib.itoa (u : Int) = Lib.decDigits u := itoa_pos (by omega)
 rw [e, ev_ref45_decimal, Ev.opt_iff (rem_ten hu), Ev.opt_iff (rem_ten hu), Ev.opt_iff (dig_sub (Nat.mod_lt _ (by decide))), Ev.opt_iff (quo_ten hu)]
 have hp := Lib.nDigits_pos (u / 10)
 have h2 := Lib.nDigits_le20 (u / 10) (by omega)
 refine (dec45_loop (u / 10) [UInt8.ofNat (48 + u % 10)] (by omega) (by simp; omega)).to ?_
 by_cases h : u < 10
 ·rw [if_pos (by omega), dec_small h, Nat.mod_eq_of_lt h]
 ·rw [if_neg (by omega), dec_big h]
theorem ref45_Text {l : List GTally} (hl : l.length ≤ 4000000) (hn : ∀ x ∈ l, x.name.length ≤ 4000000) : Ev (fun n => go_ref45_Text n l) (tTextR l) := by
 have hc := ref45_Check hl hn
 rw [ev_ref45_Text, Ev.bind_iff hc]
 unfold tTextR
 by_cases h : tcheck l = 0
 ·obtain ⟨h1, h2⟩ := tcheck_good h
  rw [if_neg (by simpa using h), Ev.pif_f (by simpa using h)]
  have loop : ∀ k, k ≤ l.length → ∀ acc : List UInt8, acc.length + 171 * (l.length - k) ≤ 1000000 → Ev (fun n => go_ref45_Text_L0 n (k : Int) l acc) (if 20000 < (acc ++ ttext (l.drop k)).length then ([], 4) else (acc ++ ttext (l.drop k), 0)) :=
   down (fun acc ha => by
    rw [ev_ref45_Text_L0, Ev.pif_f (by simp), List.drop_length, ttext, List.append_nil]
    by_cases hb : 20000 < acc.length
    ·rw [if_pos hb, Ev.pif_t (by simp; omega), Ev.some_iff]
    ·rw [if_neg hb, Ev.pif_f (by simp; omega), Ev.some_iff]) fun k hk ih acc ha => by
    have hd : l.drop k = l[k] :: l.drop (k + 1) := (List.getElem_cons_drop (h := hk)).symm
    have hg := h2 _ (List.getElem_mem hk)
    have htl := tl_len hg
    have hst : Ev (fun n => go_ref03_Str n l[k].name) (str3 l[k].name) := ref03_Str
    have hnl := (good_name hg).1
    obtain ⟨g1, g2, g3, g4, g5⟩ := hg
    have hvt := ref03_Written (v := str3 l[k].name) g1 (by show (3 : Int) ≠ 4; decide)
    have hel := esc_len l[k].name
    have i1 := itoa_len (x := l[k].count) (by omega)
    have i2 := itoa_len (x := l[k].volume) (by omega)
    have hw := ih (acc ++ (tl l[k].name l[k].count l[k].volume ++ [10])) (by simp; omega)
    rw [ev_ref45_Text_L0, Ev.pif_t (by simpa using hk), Ev.opt_iff (ix_lt hk), Ev.bind_iff hst, GValue.re_eq, Ev.bind_iff hvt, str3_text, Ev.opt_iff (cat_ok (by simp; omega)), Ev.opt_iff (cat_ok (by simp; omega)), Ev.opt_iff (ix_lt hk), Ev.bind_iff (ref45_decimal (by omega)), Ev.opt_iff (cat_ok (by simp; omega)), Ev.opt_iff (cat_ok (by simp; omega)), Ev.opt_iff (ix_lt hk), Ev.bind_iff (ref45_decimal (by omega)), Ev.opt_iff (cat_ok (by simp; omega)), Ev.opt_iff (cat_ok (by simp; omega)), wrk (by omega), hd, ttext]
    have e1 : acc ++ 34 :: (esc l[k].name ++ [34]) ++ [32] ++ Lib.itoa l[k].count ++ [32] ++ Lib.itoa l[k].volume ++ [10] = acc ++ (tl l[k].name l[k].count l[k].volume ++ [10]) := by unfold tl; simp
    have e2 : acc ++ (tl l[k].name l[k].count l[k].volume ++ [10]) ++ ttext (l.drop (k + 1)) = acc ++ (tl l[k].name l[k].count l[k].volume ++ 10 :: ttext (l.drop (k + 1))) := by simp
    rw [e1]
    rw [e2] at hw
    exact hw
  exact loop 0 (Nat.zero_le _) [] (by simp; omega)
 ·rw [if_pos h, Ev.pif_t (by simpa using h), Ev.bind_iff hc, Ev.some_iff]
end Go.Proofs.YtagebdhlgnlcnaaGreatDoor

