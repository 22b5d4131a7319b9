/-
  DEFERRED CALLS THAT RECOVER: what both machines lean on.
-/
import Derived.Test.YtfhpamcehnfhoaaGreatDoorAbFlat
import Derived.Recover
namespace Go.Ab
open Go
set_option linter.unusedVariables false
set_option linter.unusedSimpArgs false
/-- how a function is being left -/
inductive AMode where
  | ret
  | pan (v : V) (recovered : Bool)
def AMode.settle : AMode → AMode
  | .pan v true => .ret
  | m => m
def AMode.value : AMode → V
  | .pan v false => v
  | _ => .nili
def AMode.caught : AMode → AMode
  | .pan v false => .pan v true
  | m => m
def isRec (o : Oper) : Bool := match o.op with
  | .call c => (match c.callee with
    | .builtin .recover => o.guard.isNone && c.args.isEmpty
    | _ => false)
  | _ => false
theorem LetsOut.mono {Q Q' : Exit → Act → World → Prop} (hq : ∀ e a w, Q e a w → Q' e a w) (h : LetsOut Q) : LetsOut Q' := by
  obtain ⟨a, w, h⟩ := h; exact ⟨a, w, hq _ _ _ h⟩
theorem Oper.upon_mono {P : Program} {o : Oper} {a : Act} {next next' : Act → World → Prop} {Q Q' : Exit → Act → World → Prop} (h : ∀ a w, next a w → next' a w) (hq : ∀ e a w, Q e a w → Q' e a w) {r : Result Next} (q : o.upon P a next Q r) : o.upon P a next' Q' r := by
  unfold Oper.upon at q ⊢
  split at q
  · exact h _ _ q
  · exact h _ _ q
  · exact h _ _ q
  · refine Calls.mono q fun e w k => ?_
    cases e with
    | returned v => exact h _ _ k
    | panicked c => exact hq _ _ _ k
    | outgrown => exact LetsOut.mono hq k
  · exact Rows.mono q fun v w k => h _ _ k
  · exact hq _ _ _ q
  · exact q.elim
theorem wpOps_mono {P : Program} {ops : Array Oper} {Q Q' : Exit → Act → World → Prop} (hq : ∀ e a w, Q e a w → Q' e a w) : ∀ (l : List Nat) (a : Act) (w : World), wpOps P ops Q l a w → wpOps P ops Q' l a w
  | [], a, w, h => hq _ _ _ h
  | i :: rest, a, w, h => by
    simp only [wpOps] at h ⊢
    split at h
    · exact wpOps_mono hq rest a w h
    · split at h
      · rename_i hw
        rw [if_pos hw]
        rcases h with h | ⟨h1, h2⟩
        · exact .inl (Oper.upon_mono (fun a w k => wpOps_mono hq rest a w k) hq h)
        · exact .inr ⟨h1, LetsOut.mono hq h2⟩
      · rename_i hw
        rw [if_neg hw]
        exact wpOps_mono hq rest _ w h
theorem wpOpsS_of {P : Program} {ops : Array Oper} {Q : Exit → Act → List Frame → World → Prop} {cs : List Frame} (hq : ∀ a w, ¬ Q .outgrown a cs w) : ∀ (l : List Nat) (a : Act) (w : World), wpOps P ops (fun e a w => Q e a cs w) l a w → wpOpsS P ops Q l a cs w
  | [], a, w, h => h
  | i :: rest, a, w, h => by
    simp only [wpOps] at h
    simp only [wpOpsS]
    cases ho : ops[i]? with
    | none =>
      simp only [ho] at h ⊢
      exact wpOpsS_of hq rest a w h
    | some o =>
      simp only [ho] at h ⊢
      split at h
      · rename_i hw
        rw [if_pos hw]
        rcases h with h | ⟨_, a', w', h⟩
        · unfold Oper.wp at h
          generalize hr : (execOp a.eval o).run P w = r at h ⊢
          split
          · exact h.elim
          · exact Oper.upon_mono (fun a w q => wpOpsS_of hq rest a w q) (fun _ _ _ k => k) h
        · exact (hq _ _ h).elim
      · rename_i hw
        rw [if_neg hw]
        exact wpOpsS_of hq rest _ w h

def MRel (W : World) (g : Gh) (H : Heap) : AMode → FrameMode → Prop
  | .ret, u => u = .returning
  | .pan v r, u => ∃ c, u = .panicking [{ v := c, recovered := r }] ∧ Rel W g H v c
theorem MRel.mono {W : World} {g : Gh} {H : Heap} {m : AMode} {u : FrameMode} (h : MRel W g H m u) {W' : World} {g' : Gh} {H' : Heap} (s : Step W g H W' g' H') : MRel W' g' H' m u := by
  cases m with
  | ret => exact h
  | pan v r => obtain ⟨c, h1, h2⟩ := h; exact ⟨c, h1, h2.mono s⟩
theorem MRel.settle {W : World} {g : Gh} {H : Heap} {m : AMode} {u : FrameMode} (h : MRel W g H m u) : MRel W g H m.settle (settle u) := by
  cases m with
  | ret => subst h; rfl
  | pan v r =>
    obtain ⟨c, h1, h2⟩ := h
    subst h1
    cases r with
    | true => rfl
    | false => exact ⟨c, rfl, h2⟩
theorem MRel.run {W : World} {g : Gh} {H : Heap} {m : AMode} {u : FrameMode} (h : MRel W g H m u) : u ≠ .run := by
  cases m with
  | ret => subst h; simp
  | pan v r => obtain ⟨c, h1, h2⟩ := h; subst h1; simp

def LiftS (W0 : World) (g0 : Gh) (H0 : Heap) (c₀ : Frame) (cs : List Frame) (Q : AExit → St → Prop) (m' : AMode) (e : Exit) (a : Act) (cs' : List Frame) (W : World) : Prop :=
  ∃ g σ e' u', ERel W g σ.H e e' ∧ (σ.e0 = H0.E ∧ Step W0 g0 H0 W g σ.H) ∧ GoodSt W a g σ ∧ cs' = { c₀ with mode := u' } :: cs ∧ MRel W g σ.H m' u' ∧ Q e' σ
theorem LiftS.out {W0 : World} {g0 : Gh} {H0 : Heap} {c₀ : Frame} {cs : List Frame} {Q : AExit → St → Prop} {m' : AMode} {a : Act} {cs' : List Frame} {W : World} : ¬ LiftS W0 g0 H0 c₀ cs Q m' .outgrown a cs' W := fun ⟨_, _, _, _, h, _⟩ => by cases h
theorem wpS_mono {P : Program} {c : Code} {Q Q' : Exit → Act → List Frame → World → Prop} {a : Act} {cs : List Frame} {w : World} (h : c.wpS P Q a cs w) (hq : ∀ e a cs w, Q e a cs w → Q' e a cs w) : c.wpS P Q' a cs w :=
  fun b k hb hr => let ⟨e, a', cs', w', q, r⟩ := h b k hb hr; ⟨e, a', cs', w', hq _ _ _ _ q, r⟩

section
variable {P : Program}
theorem call_enters {f : Nat} {fn : Func} (hf : P.funcs[f]? = some fn) (hb : fn.body.isNone = false) (hn : (fn.name == "runtime.NumGoroutine") = false) (args : Array Value) (w : World) : (callFunc f args).run P w = .ok (.enter f args) w := by
  unfold callFunc
  rw [Sem.run_bind]
  show (Result.ok P w).andThen _ = _
  simp only [Result.andThen_ok, hf, hn, hb, Bool.false_eq_true, if_false, Sem.run_pure]
theorem entry_good {n : Nat} {W : World} {g : Gh} {H : Heap} {args : List V} {cargs : Array Value} (hG : Good W g H) (hA : RelA W g H args cargs) : GoodSt W { tmps := cargs ++ Array.replicate (n - cargs.size) undef, defers := [] } g ⟨args ++ List.replicate (n - args.length) .any, H, [], H.E⟩ := by
  refine ⟨hG, by simp [hA.1], fun j v hj => ?_, rfl, by simp⟩
  rw [List.getElem?_append] at hj
  split at hj
  · rename_i hlt
    rw [getD_append_left (by rw [hA.1]; exact hlt)]
    exact hA.2 j v hj
  · rw [List.getElem?_replicate] at hj
    split at hj
    · injection hj with hj; subst hj; exact .any _
    · cases hj
end
end Go.Ab
