/-
  A MACHINE THAT RUNS CLOSED CALLS BY RECKONING: calls that are reckoned apart.
-/
import Derived.Test.YtfhpamcehnfhoaaGreatDoorAbX4
namespace Go.Ab
open Go
set_option linter.unusedVariables false
set_option linter.unusedSimpArgs false

/-- a call that is reckoned apart: its function, the level of its caller's memory, its arguments, its result -/
structure Ent where
  f : Nat
  lv : Nat
  args : List V
  r : V
def Ent.ok (P : Program) (e : Ent) : Prop := ∀ H : Heap, H.lv = e.lv → HCall P e.f e.args H e.r H
def EntsOk (P : Program) : List Ent → Prop
  | [] => True
  | e :: l => e.ok P ∧ EntsOk P l
def entHook : List Ent → XHook
  | [], _, _, _ => none
  | e :: l, lv, f, args => match Nat.beq e.f f with
    | true => (match Nat.beq e.lv lv with
      | true => (match V.sameL e.args args with
        | true => some e.r
        | false => entHook l lv f args)
      | false => entHook l lv f args)
    | false => entHook l lv f args
theorem entHook_ok {P : Program} : ∀ {l : List Ent}, EntsOk P l → HookOk P (entHook l)
  | [], _ => fun lv f args r h => by cases h
  | e :: l, hl => fun lv f args r h => by
    simp only [entHook] at h
    have rest := entHook_ok hl.2 lv f args r
    split at h
    · rename_i h1
      split at h
      · rename_i h2
        split at h
        · rename_i h3
          injection h with h; subst h
          rw [← Nat.eq_of_beq_eq_true h1, ← Nat.eq_of_beq_eq_true h2, ← sameL_eq h3]
          exact hl.1
        · exact rest h
      · exact rest h
    · exact rest h
def hookOr (a b : XHook) : XHook := fun lv f args => match a lv f args with
  | some r => some r
  | none => b lv f args
theorem hookOr_ok {P : Program} {a b : XHook} (ha : HookOk P a) (hb : HookOk P b) : HookOk P (hookOr a b) := fun lv f args r h => by
  unfold hookOr at h
  split at h
  · rename_i r' hr
    injection h with h; subst h
    exact ha lv f args _ hr
  · exact hb lv f args r h
/-- a call, reckoned -/
noncomputable def entRun (P : Program) (hk : XHook) (lf K m : Nat) (f : Nat) (args : List V) (lv : Nat) : Option Out := match P.funcs[f]? with
  | none => none
  | some fn => match fn.body with
    | none => none
    | some b => match (fn.name == "runtime.NumGoroutine") || !(Nat.ble args.length fn.ntmps) with
      | true => none
      | false => xpure P hk (xcall P hk lf K m) lf K fn b args lv
noncomputable def Ent.check (P : Program) (hk : XHook) (lf K m : Nat) (e : Ent) : Bool := match entRun P hk lf K m e.f e.args e.lv with
  | some (.ret v) => V.same v e.r
  | _ => false
theorem ent_of_check {P : Program} {hk : XHook} (hm : P.follows .mixedOrders = true) (hhk : HookOk P hk) {lf K m : Nat} {e : Ent} (h : e.check P hk lf K m = true) : e.ok P := fun H hH => by
  unfold Ent.check at h
  split at h
  · rename_i v hv
    obtain rfl := same_eq h
    unfold entRun at hv
    split at hv
    · cases hv
    · rename_i fn hf
      split at hv
      · cases hv
      · rename_i b hb
        split at hv
        · cases hv
        · rename_i hcond
          simp only [Bool.or_eq_false_iff, Bool.not_eq_false'] at hcond
          have hent := fun args w => call_enters (P := P) hf (by rw [hb]; rfl) hcond.1 args w
          exact hcall_of_hrel (xpure_sound hm hhk (xcall_ok hm hhk m) hf hb hent hcond.2 (by rw [hH]; exact hv))
  · cases h
end Go.Ab
