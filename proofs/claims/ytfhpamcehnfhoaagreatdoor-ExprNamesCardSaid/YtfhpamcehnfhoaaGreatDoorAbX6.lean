/-
  A MACHINE THAT RUNS CLOSED CALLS BY RECKONING: functions of Go's library without a body.
-/
import Derived.Test.YtfhpamcehnfhoaaGreatDoorAbX5
import Derived.Lib.Bytealg
import Derived.Lib.Builder
import Derived.Laws.Externs
namespace Go.Ab
open Go
set_option linter.unusedVariables false
set_option linter.unusedSimpArgs false

def idxB (c : UInt8) : List UInt8 → Nat → Option Nat
  | [], _ => none
  | b :: s, n => match Nat.beq b.toNat c.toNat with
    | true => some n
    | false => idxB c s (Nat.succ n)
def idxI : Option Nat → Int
  | none => -1
  | some n => Int.ofNat n
theorem idxB_eq (c : UInt8) : ∀ (s : List UInt8) (n : Nat), (idxB c s n = none ∧ Lib.indexByte s c = -1) ∨ ∃ i : Nat, idxB c s n = some (n + i) ∧ Lib.indexByte s c = i
  | [], n => .inl ⟨rfl, rfl⟩
  | b :: s, n => by
    simp only [idxB, Lib.indexByte]
    split
    · rename_i e
      have : b = c := UInt8.toNat_inj.1 (Nat.eq_of_beq_eq_true e)
      subst this
      exact .inr ⟨0, by simp, by simp⟩
    · rename_i e
      have hb : (b == c) = false := by
        cases hh : b == c
        · rfl
        · rw [beq_iff_eq] at hh; subst hh; rw [Nat.beq_refl] at e; cases e
      rw [hb]
      rcases idxB_eq c s (Nat.succ n) with ⟨h1, h2⟩ | ⟨i, h1, h2⟩
      · exact .inl ⟨h1, by rw [h2]; rfl⟩
      · refine .inr ⟨i + 1, by rw [h1]; congr 1; simp only [Nat.succ_eq_add_one]; omega, ?_⟩
        rw [h2]
        have : (((i : Nat) : Int) == -1) = false := by rw [beq_eq_false_iff_ne]; omega
        simp only [Bool.false_eq_true, if_false, this]
        omega
theorem idx_eq (c : UInt8) (s : List UInt8) : idxI (idxB c s 0) = Lib.indexByte s c := by
  rcases idxB_eq c s 0 with ⟨h1, h2⟩ | ⟨i, h1, h2⟩
  · rw [h1, h2]; rfl
  · rw [h1, h2]; simp [idxI]
def cmpS : List UInt8 → List UInt8 → Int
  | [], [] => 0
  | [], _ :: _ => -1
  | _ :: _, [] => 1
  | a :: s, b :: t => match Nat.blt a.toNat b.toNat with
    | true => -1
    | false => match Nat.blt b.toNat a.toNat with
      | true => 1
      | false => cmpS s t
theorem cmpS_eq : ∀ s t : List UInt8, cmpS s t = Lib.compareBytes s t
  | [], [] => rfl
  | [], _ :: _ => rfl
  | _ :: _, [] => rfl
  | a :: s, b :: t => by
    simp only [cmpS, Lib.compareBytes]
    have key : ∀ x y : UInt8, (Nat.blt x.toNat y.toNat = true) ↔ x < y := fun x y => by rw [Nat.blt_eq]; exact UInt8.lt_iff_toNat_lt.symm
    split
    · rename_i e; rw [if_pos ((key a b).1 e)]
    · rename_i e
      rw [if_neg (fun h => by rw [(key a b).2 h] at e; cases e)]
      split
      · rename_i e2; rw [if_pos ((key b a).1 e2)]
      · rename_i e2
        rw [if_neg (fun h => by rw [(key b a).2 h] at e2; cases e2)]
        exact cmpS_eq s t
def cntB (c : UInt8) : List UInt8 → Nat → Nat
  | [], n => n
  | b :: s, n => match Nat.beq b.toNat c.toNat with
    | true => cntB c s (Nat.succ n)
    | false => cntB c s n
theorem cntB_eq (c : UInt8) : ∀ (s : List UInt8) (n : Nat), cntB c s n = n + Lib.countByte s c
  | [], n => by simp [cntB, Lib.countByte]
  | b :: s, n => by
    simp only [cntB]
    have ih := fun m => cntB_eq c s m
    unfold Lib.countByte at ih ⊢
    rw [List.count_cons]
    split
    · rename_i e
      have : b = c := UInt8.toNat_inj.1 (Nat.eq_of_beq_eq_true e)
      subst this
      rw [ih]; simp only [Nat.succ_eq_add_one, beq_self_eq_true, if_true]; omega
    · rename_i e
      have hb : (b == c) = false := by
        cases hh : b == c
        · rfl
        · rw [beq_iff_eq] at hh; subst hh; rw [Nat.beq_refl] at e; cases e
      rw [ih, hb]; simp

section
variable {P : Program}
def neHook (k : Nat) : XHook := fun _ f args => match Nat.beq f k with
  | true => (match args with
    | [x] => some x
    | _ => none)
  | false => none
def ibHook (k : Nat) : XHook := fun _ f args => match Nat.beq f k with
  | true => (match args with
    | [.str s, .int .u8 c] => some (.int .i64 (idxI (idxB c.toNat.toUInt8 s 0)))
    | _ => none)
  | false => none
def csHook (k : Nat) : XHook := fun _ f args => match Nat.beq f k with
  | true => (match args with
    | [.str s, .str t] => some (.int .i64 (cmpS s t))
    | _ => none)
  | false => none
def ctHook (k : Nat) : XHook := fun _ f args => match Nat.beq f k with
  | true => (match args with
    | [.str s, .int .u8 c] => some (.int .i64 (Int.ofNat (cntB c.toNat.toUInt8 s 0)))
    | _ => none)
  | false => none
theorem args1 {W : World} {g : Gh} {H : Heap} {u : V} {cs : Array Value} (h : RelA W g H [u] cs) : ∃ x, cs = #[x] ∧ Rel W g H u x := by
  obtain ⟨h1, h2⟩ := h
  cases cs with | mk l =>
  match l, h1 with
  | [x], _ => exact ⟨x, rfl, by simpa using h2 0 u rfl⟩
theorem neHook_ok {k : Nat} {fn : Func} (hf : P.funcs[k]? = some fn) (hname : (fn.name == "runtime.NumGoroutine") = false) (hb : fn.body.isNone = true) (hn : Extern.findNext fn = none) (he : Extern.find fn = some Extern.AbiNoEscape.same) : HookOk P (neHook k) := fun lv f args r h H hH => by
  unfold neHook at h
  split at h
  · rename_i e
    obtain rfl := Nat.eq_of_beq_eq_true e
    split at h
    · rename_i x
      injection h with h; subst h
      intro W g cargs hG hA
      obtain ⟨c, rfl, h0⟩ := args1 hA
      exact .inr ⟨c, W, g, by rw [run_callFunc_extern hf hname hb hn he, Lib.run_noEscape]; rfl, .refl _ _ _, hG, h0⟩
    · cases h
  · cases h
theorem ibHook_ok {k : Nat} {fn : Func} (hf : P.funcs[k]? = some fn) (hname : (fn.name == "runtime.NumGoroutine") = false) (hb : fn.body.isNone = true) (hn : Extern.findNext fn = none) (he : Extern.find fn = some Extern.BytealgIndexByte.indexByte) : HookOk P (ibHook k) := fun lv f args r h H hH => by
  unfold ibHook at h
  split at h
  · rename_i e
    obtain rfl := Nat.eq_of_beq_eq_true e
    split at h
    · rename_i s c
      injection h with h; subst h
      intro W g cargs hG hA
      obtain ⟨x, y, rfl, h0, h1⟩ := args2 hA
      cases h0; cases h1
      rw [idx_eq]
      exact .inr ⟨_, W, g, by rw [run_callFunc_extern hf hname hb hn he, Lib.run_indexByteString]; rfl, .refl _ _ _, hG, .int _ _⟩
    · cases h
  · cases h
theorem csHook_ok {k : Nat} {fn : Func} (hf : P.funcs[k]? = some fn) (hname : (fn.name == "runtime.NumGoroutine") = false) (hb : fn.body.isNone = true) (hn : Extern.findNext fn = none) (he : Extern.find fn = some Extern.BytealgCompare.compare) : HookOk P (csHook k) := fun lv f args r h H hH => by
  unfold csHook at h
  split at h
  · rename_i e
    obtain rfl := Nat.eq_of_beq_eq_true e
    split at h
    · rename_i s t
      injection h with h; subst h
      intro W g cargs hG hA
      obtain ⟨x, y, rfl, h0, h1⟩ := args2 hA
      cases h0; cases h1
      rw [cmpS_eq]
      exact .inr ⟨_, W, g, by rw [run_callFunc_extern hf hname hb hn he, Lib.run_compareString]; rfl, .refl _ _ _, hG, .int _ _⟩
    · cases h
  · cases h
theorem ctHook_ok {k : Nat} {fn : Func} (hf : P.funcs[k]? = some fn) (hname : (fn.name == "runtime.NumGoroutine") = false) (hb : fn.body.isNone = true) (hn : Extern.findNext fn = none) (he : Extern.find fn = some Extern.BytealgCount.count) : HookOk P (ctHook k) := fun lv f args r h H hH => by
  unfold ctHook at h
  split at h
  · rename_i e
    obtain rfl := Nat.eq_of_beq_eq_true e
    split at h
    · rename_i s c
      injection h with h; subst h
      intro W g cargs hG hA
      obtain ⟨x, y, rfl, h0, h1⟩ := args2 hA
      cases h0; cases h1
      rw [cntB_eq, Nat.zero_add]
      exact .inr ⟨_, W, g, by rw [run_callFunc_extern hf hname hb hn he, Lib.run_countString]; rfl, .refl _ _ _, hG, .int _ _⟩
    · cases h
  · cases h
end
end Go.Ab
