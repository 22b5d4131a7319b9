import Derived.Test.YtfhpamcehnfhoaaGreatDoorAbIter
import Derived.Test.YtfhpamcehnfhoaaGreatDoorAbCopy
namespace Go.Ab
open Go
set_option linter.unusedSimpArgs false
set_option linter.unusedVariables false
section
variable {P : Program}

/-- the operations, calls apart -/
def ox (P : Program) (H : Heap) (ρ : Operand → V) : Op → Option (V × Heap)
  | .alloc t => hAlloc P H t
  | .box _ x => hBox H (ρ x)
  | .store t a x => hStore P H t (ρ a) (ρ x)
  | .makeMap t r => hMakeMap P H t (r.map ρ)
  | .mapUpdate t m k x => hMapUpdate P H t (ρ m) (ρ k) (ρ x)
  | .insert t m k x => hMapUpdate P H t (ρ m) (ρ k) (ρ x)
  | .range t x => hRange P H t (ρ x)
  | .next i b => hNext H (ρ i) b
  | .call c => match c.callee with
    | .builtin .append => match c.args.toList, c.argTypes.toList with
      | [s, x], [t, u] => hAppend P H t u (ρ s) (ρ x)
      | _, _ => none
    | .builtin .copy => match c.args.toList, c.argTypes.toList with
      | [s, x], [t, u] => hCopy P H t (ρ s) (ρ x)
      | _, _ => none
    | _ => (pBuiltin P H ρ c).map fun v => (v, H)
  | o => (pv P H ρ o).map fun v => (v, H)

theorem ox_sound {W : World} {g : Gh} {H H' : Heap} {ρ : Operand → V} {r : Operand → Value} {o : Oper} {v : V} (hG : Good W g H) (hρ : ∀ x, Rel W g H (ρ x) (r x)) (h : ox P H ρ o.op = some (v, H')) : Turns P W g H (execOp r o) v H' := by
  have pure' : ∀ {q : Option V}, (q.map fun v => (v, H)) = some (v, H') → q = some v ∧ H' = H := fun {q} h => by
    simp only [Option.map_eq_some_iff] at h
    obtain ⟨u, hu, heq⟩ := h
    injection heq with h1 h2
    exact ⟨by rw [hu, h1], h2.symm⟩
  unfold ox at h
  split at h
  · rename_i t heq; unfold execOp; rw [heq]; exact sound_alloc hG h
  · rename_i t x heq; unfold execOp; rw [heq]; exact sound_box hG h (hρ x)
  · rename_i t a x heq; unfold execOp; rw [heq]; exact sound_store hG h (hρ a) (hρ x)
  · rename_i t rr heq; unfold execOp; rw [heq]; exact sound_makeMap hG h (orel_of hρ rr)
  · rename_i t m k x heq; unfold execOp; rw [heq]; exact sound_mapUpdate hG h (hρ m) (hρ k) (hρ x)
  · rename_i t m k x heq; unfold execOp; rw [heq]; exact sound_mapUpdate hG h (hρ m) (hρ k) (hρ x)
  · rename_i t x heq; unfold execOp; rw [heq]; exact sound_range hG h (hρ x)
  · rename_i x b heq; unfold execOp; rw [heq]; exact sound_next hG h (hρ x)
  · rename_i c heq
    split at h
    · rename_i hcal
      split at h
      · rename_i s x t u hargs htys
        unfold execOp; rw [heq]
        have := sound_append (ty := o.type) hG h (hρ s) (hρ x)
        obtain ⟨callee, args, argTypes⟩ := c
        simp only at hcal hargs htys
        subst hcal
        obtain rfl := array_of_toList hargs
        obtain rfl := array_of_toList htys
        obtain ⟨c, W', g', h1, h2, h3, h4⟩ := this
        refine ⟨c, W', g', ?_, h2, h3, h4⟩
        rcases h1 with h1 | ⟨h1, h1'⟩
        · left; rw [← h1]; simp [resolve, invoke, builtin]
        · right; refine ⟨?_, h1'⟩; rw [← h1]; simp [resolve, invoke, builtin]
      · cases h
    · rename_i hcal
      split at h
      · rename_i s x t u hargs htys
        unfold execOp; rw [heq]
        have := sound_copy (u := u) (ty := o.type) hG h (hρ s) (hρ x)
        obtain ⟨callee, args, argTypes⟩ := c
        simp only at hcal hargs htys
        subst hcal
        obtain rfl := array_of_toList hargs
        obtain rfl := array_of_toList htys
        obtain ⟨c, W', g', h1, h2, h3, h4⟩ := this
        refine ⟨c, W', g', ?_, h2, h3, h4⟩
        rcases h1 with h1 | ⟨h1, h1'⟩
        · left; rw [← h1]; simp [resolve, invoke, builtin]
        · right; refine ⟨?_, h1'⟩; rw [← h1]; simp [resolve, invoke, builtin]
      · cases h
    · obtain ⟨h1, rfl⟩ := pure' h
      exact (pv_sound hG hρ (o := o) (v := v) (by rw [heq]; exact h1)).turns hG
  · obtain ⟨h1, rfl⟩ := pure' h
    exact (pv_sound hG hρ h1).turns hG

/-! ### states -/

structure St where
  t : List V
  H : Heap
  d : List (Nat × List V)
  e0 : Nat → Nat → Option AObj

/-- a package-level variable -/
def gv (k : Nat) : V := match gl k with
  | some cs => .ref (cs.map fun p => .int p.1 p.2) 0
  | none => .any
theorem gv_rel {W : World} {g : Gh} {H : Heap} (h : GlobOk W g H) (k : Nat) : Rel W g H (gv k) (.pointer (some ⟨k, 0, none⟩)) := by
  unfold gv
  split
  · rename_i cs hk
    obtain ⟨h1, ty, q, h2⟩ := h k cs hk
    refine .ref _ 0 k 0 (fun j => (cs[j]?.map fun p => Value.int p.1 p.2).getD undef) (fun _ => h1) (fun j v hj => ?_) (fun j v hj => ?_) (fun j v hj => ?_)
    · rw [List.getElem?_map] at hj
      simp only [Option.map_eq_some_iff] at hj
      obtain ⟨p, hp, rfl⟩ := hj
      simp [World.cell?, h2, hp]
    · rw [List.getElem?_map] at hj
      simp only [Option.map_eq_some_iff] at hj
      obtain ⟨p, hp, rfl⟩ := hj
      simp [hp, Value.oneCell']
    · rw [List.getElem?_map] at hj
      simp only [Option.map_eq_some_iff] at hj
      obtain ⟨p, hp, rfl⟩ := hj
      simp only [hp, Option.map_some, Option.getD_some]
      exact .int _ _
  · exact .any _
def St.ev (σ : St) : Operand → V
  | .tmp t => σ.t.getD t .any
  | .const v => ofConst v
  | .global k => gv k
  | .func f => .fn f [] []

def St.put (σ : St) (dst : Option Nat) (v : V) : St :=
  match dst with
  | some d => { σ with t := σ.t.set d v }
  | none => σ

structure GoodSt (W : World) (a : Act) (g : Gh) (σ : St) : Prop where
  good : Good W g σ.H
  size : a.tmps.size = σ.t.length
  tmps : ∀ j v, σ.t[j]? = some v → Rel W g σ.H v (a.tmps.getD j undef)
  dlen : a.defers.length = σ.d.length
  defs : ∀ (j f : Nat) (vs : List V), σ.d[j]? = some (f, vs) → ∃ caps as, a.defers[j]? = some ⟨.fn (.func f) caps, as⟩ ∧ RelA W g σ.H vs (as ++ caps)

theorem RelA.mono {W : World} {g : Gh} {H : Heap} {vs : List V} {cs : Array Value} (h : RelA W g H vs cs) {W' : World} {g' : Gh} {H' : Heap} (s : Step W g H W' g' H') : RelA W' g' H' vs cs := ⟨h.1, fun j v hj => (h.2 j v hj).mono s⟩

theorem GoodSt.ev {W : World} {a : Act} {g : Gh} {σ : St} (h : GoodSt W a g σ) (x : Operand) : Rel W g σ.H (σ.ev x) (a.eval x) := by
  cases x with
  | tmp t =>
    simp only [St.ev, Act.eval]
    cases ht : σ.t[t]? with
    | none => rw [List.getD_eq_getElem?_getD, ht]; exact .any _
    | some v => rw [List.getD_eq_getElem?_getD, ht]; exact h.tmps t v ht
  | const v => exact rel_ofConst v
  | global k => exact gv_rel h.good.glob k
  | func f => exact .fn f [] [] #[] #[] rfl rfl (by simp) (by simp)

/-- after an operation -/
theorem GoodSt.next {W : World} {a : Act} {g : Gh} {σ : St} (h : GoodSt W a g σ) {W' : World} {g' : Gh} {H' : Heap} (s : Step W g σ.H W' g' H') (hG : Good W' g' H') {v : V} {c : Value} (hr : Rel W' g' H' v c) (dst : Option Nat) :
    GoodSt W' (a.put dst c) g' ({ σ with H := H' }.put dst v) := by
  have hH : ({ σ with H := H' }.put dst v).H = H' := by cases dst <;> rfl
  have hd : ({ σ with H := H' }.put dst v).d = σ.d := by cases dst <;> rfl
  have had : (a.put dst c).defers = a.defers := by cases dst <;> rfl
  refine ⟨by rw [hH]; exact hG, ?_, ?_, by rw [had, hd]; exact h.dlen, fun j f vs hj => ?_⟩
  · cases dst with
    | none => exact h.size
    | some d => simpa [Act.put, St.put] using h.size
  · intro j u hj
    rw [hH]
    cases dst with
    | none => exact (h.tmps j u hj).mono s
    | some d =>
      simp only [St.put] at hj
      rw [List.getElem?_set] at hj
      simp only [Act.put, Array.getD_eq_getD_getElem?, Array.getElem?_setIfInBounds]
      split at hj
      · rename_i hdj; subst hdj
        split at hj
        · rename_i hlt
          injection hj with hj; subst hj
          rw [if_pos rfl, if_pos (by rw [h.size]; exact hlt)]
          exact hr
        · cases hj
      · rename_i hdj
        rw [if_neg hdj, ← Array.getD_eq_getD_getElem?]
        exact (h.tmps j u hj).mono s
  · rw [hd] at hj
    obtain ⟨caps, as, h1, h2⟩ := h.defs j f vs hj
    exact ⟨caps, as, by rw [had]; exact h1, by rw [hH]; exact h2.mono s⟩

/-! ### calls -/

/-- what a call does: the value and the memory behind it -/
def HCall (P : Program) (f : Nat) (args : List V) (H : Heap) (r : V) (H' : Heap) : Prop :=
  ∀ (W : World) (g : Gh) (cargs : Array Value), Good W g H → RelA W g H args cargs →
    ((callFunc f cargs).run P W = .ok (.enter f cargs) W ∧ Calls P f cargs W (fun e W' => ∃ c g', e = .returned c ∧ Step W g H W' g' H' ∧ Good W' g' H' ∧ Rel W' g' H' r c)) ∨
    ∃ c W' g', (callFunc f cargs).run P W = .ok (.value c) W' ∧ Step W g H W' g' H' ∧ Good W' g' H' ∧ Rel W' g' H' r c

structure Claim where
  f : Nat
  args : List V
  H : Heap
  r : V
  H' : Heap

def Claim.ok (P : Program) (c : Claim) : Prop := HCall P c.f c.args c.H c.r c.H'

/-- a guard: is the operation wanted? -/
def wantedV (ops : Array Oper) (σ : St) (o : Oper) : Option Bool :=
  match o.guard with
  | none => some true
  | some (j, want) => match (ops[j]?).bind (·.dst) with
    | some d => match σ.t.getD d .any with
      | .bool b => some (b == want)
      | .tup _ => some false
      | _ => none
    | none => none

theorem wantedV_sound {W : World} {a : Act} {g : Gh} {σ : St} (h : GoodSt W a g σ) {ops : Array Oper} {o : Oper} {b : Bool} (hw : wantedV ops σ o = some b) : Region.wanted o (yielded ops a.tmps) = b := by
  unfold wantedV at hw
  unfold Region.wanted
  split at hw
  · rename_i hg; rw [hg]; injection hw
  · rename_i j want hg
    rw [hg]
    split at hw
    · rename_i d hd
      split at hw
      · rename_i b' hb
        injection hw with hw; subst hw
        have hlt : d < σ.t.length := by
          rcases Nat.lt_or_ge d σ.t.length with q | q
          · exact q
          · rw [List.getD_eq_getElem?_getD, List.getElem?_eq_none q] at hb; simp at hb
        have hr := h.tmps d _ (List.getElem?_eq_getElem hlt)
        have hb' : σ.t[d] = .bool b' := by rw [List.getD_eq_getElem?_getD, List.getElem?_eq_getElem hlt] at hb; simpa using hb
        rw [hb'] at hr
        have hsz : d < a.tmps.size := by rw [h.size]; exact hlt
        rw [Array.getD_eq_getD_getElem?, Array.getElem?_eq_getElem hsz] at hr
        simp only [Option.getD_some] at hr
        generalize hc : a.tmps[d] = c at hr
        cases hr
        have : yielded ops a.tmps j = some b' := by
          unfold yielded
          rw [hd]
          simp [hsz, hc]
        simp only [this]
        cases b' <;> cases want <;> rfl
      · rename_i vs hb
        injection hw with hw; subst hw
        have hlt : d < σ.t.length := by
          rcases Nat.lt_or_ge d σ.t.length with q | q
          · exact q
          · rw [List.getD_eq_getElem?_getD, List.getElem?_eq_none q] at hb; simp at hb
        have hr := h.tmps d _ (List.getElem?_eq_getElem hlt)
        have hb' : σ.t[d] = .tup vs := by rw [List.getD_eq_getElem?_getD, List.getElem?_eq_getElem hlt] at hb; simpa using hb
        rw [hb'] at hr
        have hsz : d < a.tmps.size := by rw [h.size]; exact hlt
        rw [Array.getD_eq_getD_getElem?, Array.getElem?_eq_getElem hsz] at hr
        simp only [Option.getD_some] at hr
        generalize hc : a.tmps[d] = c at hr
        cases hr
        have : yielded ops a.tmps j = none := by
          unfold yielded
          rw [hd]
          simp [hsz, hc]
        simp only [this]
        rfl
      · cases hw
    · cases hw

/-- the function that a call calls, and its arguments -/
def target (ρ : Operand → V) (c : Call) : Option (Nat × List V) :=
  match c.callee with
  | .value f => match ρ f with
    | .fn f first caps => some (f, first ++ c.args.toList.map ρ ++ caps)
    | _ => none
  | _ => none

/-- operations in their order; an answer for each call, which is claimed -/
def runC (P : Program) (ops : Array Oper) : List Oper → List (V × Option Heap) → St → Option (St × List (V × Option Heap) × List Claim)
  | [], ans, σ => some (σ, ans, [])
  | o :: rest, ans, σ =>
    match wantedV ops σ o with
    | none => none
    | some b => if b then
        (match ox P σ.H σ.ev o.op with
        | some (v, H') => runC P ops rest ans ({ σ with H := H' }.put o.dst v)
        | none => match o.op with
          | .call c => match target σ.ev c, ans with
            | some (f, args), (r, H') :: ans' => match runC P ops rest ans' ({ σ with H := H'.getD σ.H }.put o.dst r) with
              | some (σ', l, cl) => some (σ', l, ⟨f, args, σ.H, r, H'.getD σ.H⟩ :: cl)
              | none => none
            | _, _ => none
          | _ => none)
      else runC P ops rest ans (σ.put o.dst (.tup []))

end
end Go.Ab
