import Derived.Test.YtfhpamcehnfhoaaGreatDoorAbRun
namespace Go.Ab
open Go
set_option linter.unusedSimpArgs false
set_option linter.unusedVariables false
section
variable {P : Program}

theorem relA_append {W : World} {g : Gh} {H : Heap} {xs ys : List V} {a b : Array Value} (h : RelA W g H xs a) (k : RelA W g H ys b) : RelA W g H (xs ++ ys) (a ++ b) := by
  refine ⟨by simp [h.1, k.1], fun j v hj => ?_⟩
  rw [List.getElem?_append] at hj
  split at hj
  · rename_i hlt
    rw [getD_append_left (by rw [h.1]; exact hlt)]; exact h.2 j v hj
  · rename_i hge
    have : j = a.size + (j - xs.length) := by rw [h.1]; omega
    rw [this, getD_append_right]; exact k.2 _ v hj

theorem target_sound {W : World} {g : Gh} {H : Heap} {ρ : Operand → V} {r : Operand → Value} (hρ : ∀ x, Rel W g H (ρ x) (r x)) {c : Call} {ty : TypeId} {f : Nat} {args : List V} (h : target ρ c = some (f, args)) :
    ∃ cargs, RelA W g H args cargs ∧ ∀ w : World, (do let d ← resolve r c ty; invoke d.target d.args : Sem Next).run P w = (callFunc f cargs).run P w := by
  unfold target at h
  split at h
  · rename_i fo hc
    split at h
    · rename_i f' first caps hf
      injection h with h; injection h with h1 h2; subst h1; subst h2
      have hr := hρ fo
      rw [hf] at hr
      generalize hrc : r fo = rc at hr
      cases hr with
      | fn _ _ _ fs cs n1 n2 r1 r2 =>
        refine ⟨fs ++ c.args.map r ++ cs, relA_append (relA_append ⟨n1, r1⟩ (args_rel hρ c.args)) ⟨n2, r2⟩, fun w => ?_⟩
        simp [resolve, hc, hrc, Deferred.ofValue, invoke]
    · cases h
  · cases h

inductive AExit where
  | normal
  | exit (id : Nat)
  | ret
  | panic (v : V)

inductive ERel (W : World) (g : Gh) (H : Heap) : Exit → AExit → Prop where
  | normal : ERel W g H .normal .normal
  | exit (id : Nat) : ERel W g H (.exit id) (.exit id)
  | ret : ERel W g H .ret .ret
  | panic (v : V) (c : Value) (h : Rel W g H v c) : ERel W g H (.panic [{ v := c, recovered := false }]) (.panic v)

/-- an assertion on abstract states, of concrete ones -/
def Lift (W0 : World) (g0 : Gh) (H0 : Heap) (Q : AExit → St → Prop) (e : Exit) (a : Act) (W : World) : Prop :=
  ∃ g σ e', ERel W g σ.H e e' ∧ (σ.e0 = H0.E ∧ Step W0 g0 H0 W g σ.H) ∧ GoodSt W a g σ ∧ Q e' σ

/-- where the function's own run began -/
structure Base (W0 : World) (g0 : Gh) (H0 : Heap) : Prop where
  good : Good W0 g0 H0

theorem runC_sound {ops : Array Oper} {Q : Exit → Act → World → Prop} {W0 : World} {g0 : Gh} {H0 : Heap} : ∀ (l : List Oper) (k : Nat) (ans rest : List (V × Option Heap)) (σ σ' : St) (cl : List Claim) (W : World) (a : Act) (g : Gh),
    (∀ j, l[j]? = ops[k + j]?) → runC P ops l ans σ = some (σ', rest, cl) → (∀ c ∈ cl, c.ok P) → GoodSt W a g σ → (σ.e0 = H0.E ∧ Step W0 g0 H0 W g σ.H) →
    (∀ W' a' g', (σ'.e0 = H0.E ∧ Step W0 g0 H0 W' g' σ'.H) → GoodSt W' a' g' σ' → Q .normal a' W') → wpOps P ops Q (List.range' k l.length) a W
  | [], k, ans, rest, σ, σ', cl, W, a, g, hl, h, hc, hG, hS, hQ => by
    simp only [runC, Option.some.injEq, Prod.mk.injEq] at h
    obtain ⟨rfl, _, _⟩ := h
    exact hQ W a g hS hG
  | o :: l, k, ans, rest, σ, σ', cl, W, a, g, hl, h, hc, hG, hS, hQ => by
    have ho : ops[k]? = some o := by simpa using (hl 0).symm
    have hl' : ∀ j, l[j]? = ops[k + 1 + j]? := fun j => by have := hl (j + 1); simpa [Nat.add_assoc, Nat.add_comm 1 j] using this
    simp only [List.length_cons, List.range'_succ, wpOps, ho]
    simp only [runC] at h
    split at h
    · cases h
    · rename_i b hw
      rw [wantedV_sound hG hw]
      split at h
      · rename_i hb; subst hb
        rw [if_pos rfl]
        left
        unfold Oper.wp
        split at h
        · rename_i v H' hox
          obtain ⟨c, W', g', h1, h2, h3, h4⟩ := ox_sound (P := P) (r := a.eval) hG.good hG.ev hox
          have hnext := runC_sound l (k + 1) ans rest _ σ' cl W' (a.put o.dst c) g' hl' h hc (hG.next h2 h3 h4 o.dst) (by
            have : ({ σ with H := H' }.put o.dst v).H = H' := by cases o.dst <;> rfl
            have he : ({ σ with H := H' }.put o.dst v).e0 = σ.e0 := by cases o.dst <;> rfl
            rw [this, he]; exact ⟨hS.1, hS.2.trans h2⟩) hQ
          rcases h1 with h1 | ⟨h1, rfl⟩
          · rw [h1]; exact hnext
          · rw [h1]; exact hnext
        · rename_i hox
          split at h
          · rename_i call hop
            split at h
            · rename_i f args r H' ans' ht
              split at h
              · rename_i σ1 l1 cl1 hrun
                simp only [Option.some.injEq, Prod.mk.injEq] at h
                obtain ⟨rfl, rfl, rfl⟩ := h
                obtain ⟨cargs, k1, k2⟩ := target_sound (P := P) (ty := o.type) hG.ev ht
                have hcl := hc _ (.head _)
                have hex : (execOp a.eval o).run P W = (callFunc f cargs).run P W := by
                  rw [← k2 W]; unfold execOp; rw [hop]
                have hcont : ∀ c W' g', Step W g σ.H W' g' (H'.getD σ.H) → Good W' g' (H'.getD σ.H) → Rel W' g' (H'.getD σ.H) r c → wpOps P ops Q (List.range' (k + 1) l.length) (a.put o.dst c) W' := fun c W' g' s1 s2 s3 =>
                  runC_sound l (k + 1) ans' _ _ _ _ W' (a.put o.dst c) g' hl' hrun (fun c hc' => hc c (.tail _ hc')) (hG.next s1 s2 s3 o.dst) (by
                    have : ({ σ with H := H'.getD σ.H }.put o.dst r).H = H'.getD σ.H := by cases o.dst <;> rfl
                    have he : ({ σ with H := H'.getD σ.H }.put o.dst r).e0 = σ.e0 := by cases o.dst <;> rfl
                    rw [this, he]; exact ⟨hS.1, hS.2.trans s1⟩) hQ
                rcases hcl W g cargs hG.good k1 with ⟨e1, e2⟩ | ⟨c, W', g', e1, e2, e3, e4⟩
                · rw [hex, e1]
                  refine e2.mono fun e W' ⟨c, g', he, s1, s2, s3⟩ => ?_
                  subst he
                  exact hcont c W' g' s1 s2 s3
                · rw [hex, e1]
                  exact hcont c W' g' e2 e3 e4
              · cases h
            · cases h
          · cases h
      · rename_i hb
        have hbf : b = false := by simpa using hb
        subst hbf
        rw [if_neg (by simp)]
        have hnx := hG.next (.refl W g σ.H) hG.good (v := .tup []) (c := undef) (.tup [] #[] rfl (by simp)) o.dst
        exact runC_sound l (k + 1) ans rest _ σ' cl W (a.put o.dst undef) g hl' h hc hnx (by
          have : (σ.put o.dst (.tup [])).H = σ.H := by cases o.dst <;> rfl
          have he : (σ.put o.dst (.tup [])).e0 = σ.e0 := by cases o.dst <;> rfl
          rw [this, he]; exact hS) hQ

theorem runC_more {ops : Array Oper} {Q : Exit → Act → World → Prop} (more : List Nat) {W0 : World} {g0 : Gh} {H0 : Heap} : ∀ (l : List Oper) (k : Nat) (ans rest : List (V × Option Heap)) (σ σ' : St) (cl : List Claim) (W : World) (a : Act) (g : Gh),
    (∀ j, j < l.length → l[j]? = ops[k + j]?) → runC P ops l ans σ = some (σ', rest, cl) → (∀ c ∈ cl, c.ok P) → GoodSt W a g σ → (σ.e0 = H0.E ∧ Step W0 g0 H0 W g σ.H) →
    (∀ W' a' g', (σ'.e0 = H0.E ∧ Step W0 g0 H0 W' g' σ'.H) → GoodSt W' a' g' σ' → wpOps P ops Q more a' W') → wpOps P ops Q (List.range' k l.length ++ more) a W
  | [], k, ans, rest, σ, σ', cl, W, a, g, hl, h, hc, hG, hS, hQ => by
    simp only [runC, Option.some.injEq, Prod.mk.injEq] at h
    obtain ⟨rfl, _, _⟩ := h
    simpa using hQ W a g hS hG
  | o :: l, k, ans, rest, σ, σ', cl, W, a, g, hl, h, hc, hG, hS, hQ => by
    have ho : ops[k]? = some o := by simpa using (hl 0 (by simp)).symm
    have hl' : ∀ j, j < l.length → l[j]? = ops[k + 1 + j]? := fun j hj => by have := hl (j + 1) (by simp; omega); simpa [Nat.add_assoc, Nat.add_comm 1 j] using this
    simp only [List.length_cons, List.range'_succ, List.cons_append, wpOps, ho]
    simp only [runC] at h
    split at h
    · cases h
    · rename_i b hw
      rw [wantedV_sound hG hw]
      split at h
      · rename_i hb; subst hb
        rw [if_pos rfl]
        left
        unfold Oper.wp
        split at h
        · rename_i v H' hox
          obtain ⟨c, W', g', h1, h2, h3, h4⟩ := ox_sound (P := P) (r := a.eval) hG.good hG.ev hox
          have hnext := runC_more more l (k + 1) ans rest _ σ' cl W' (a.put o.dst c) g' hl' h hc (hG.next h2 h3 h4 o.dst) (by
            have : ({ σ with H := H' }.put o.dst v).H = H' := by cases o.dst <;> rfl
            have he : ({ σ with H := H' }.put o.dst v).e0 = σ.e0 := by cases o.dst <;> rfl
            rw [this, he]; exact ⟨hS.1, hS.2.trans h2⟩) hQ
          rcases h1 with h1 | ⟨h1, rfl⟩
          · rw [h1]; exact hnext
          · rw [h1]; exact hnext
        · rename_i hox
          split at h
          · rename_i call hop
            split at h
            · rename_i f args r H' ans' ht
              split at h
              · rename_i σ1 l1 cl1 hrun
                simp only [Option.some.injEq, Prod.mk.injEq] at h
                obtain ⟨rfl, rfl, rfl⟩ := h
                obtain ⟨cargs, k1, k2⟩ := target_sound (P := P) (ty := o.type) hG.ev ht
                have hcl := hc _ (.head _)
                have hex : (execOp a.eval o).run P W = (callFunc f cargs).run P W := by
                  rw [← k2 W]; unfold execOp; rw [hop]
                have hcont : ∀ c W' g', Step W g σ.H W' g' (H'.getD σ.H) → Good W' g' (H'.getD σ.H) → Rel W' g' (H'.getD σ.H) r c → wpOps P ops Q (List.range' (k + 1) l.length ++ more) (a.put o.dst c) W' := fun c W' g' s1 s2 s3 =>
                  runC_more more l (k + 1) ans' _ _ _ _ W' (a.put o.dst c) g' hl' hrun (fun c hc' => hc c (.tail _ hc')) (hG.next s1 s2 s3 o.dst) (by
                    have : ({ σ with H := H'.getD σ.H }.put o.dst r).H = H'.getD σ.H := by cases o.dst <;> rfl
                    have he : ({ σ with H := H'.getD σ.H }.put o.dst r).e0 = σ.e0 := by cases o.dst <;> rfl
                    rw [this, he]; exact ⟨hS.1, hS.2.trans s1⟩) hQ
                rcases hcl W g cargs hG.good k1 with ⟨e1, e2⟩ | ⟨c, W', g', e1, e2, e3, e4⟩
                · rw [hex, e1]
                  refine e2.mono fun e W' ⟨c, g', he, s1, s2, s3⟩ => ?_
                  subst he
                  exact hcont c W' g' s1 s2 s3
                · rw [hex, e1]
                  exact hcont c W' g' e2 e3 e4
              · cases h
            · cases h
          · cases h
      · rename_i hb
        have hbf : b = false := by simpa using hb
        subst hbf
        rw [if_neg (by simp)]
        have hnx := hG.next (.refl W g σ.H) hG.good (v := .tup []) (c := undef) (.tup [] #[] rfl (by simp)) o.dst
        exact runC_more more l (k + 1) ans rest _ σ' cl W (a.put o.dst undef) g hl' h hc hnx (by
          have : (σ.put o.dst (.tup [])).H = σ.H := by cases o.dst <;> rfl
          have he : (σ.put o.dst (.tup [])).e0 = σ.e0 := by cases o.dst <;> rfl
          rw [this, he]; exact hS) hQ

theorem claims_nil : ∀ c ∈ ([] : List Claim), c.ok P := by simp
theorem claims_cons {c : Claim} {l : List Claim} (h : HCall P c.f c.args c.H c.r c.H') (r : ∀ c ∈ l, c.ok P) : ∀ d ∈ c :: l, d.ok P := fun d hd => by
  cases hd with
  | head => exact h
  | tail _ hd => exact r d hd

/-- code, on abstract states -/
def Sat (P : Program) (c : Code) (σ : St) (Q : AExit → St → Prop) : Prop :=
  ∀ W0 g0 H0 W a g, Base W0 g0 H0 → (σ.e0 = H0.E ∧ Step W0 g0 H0 W g σ.H) → GoodSt W a g σ → c.wp P (Lift W0 g0 H0 Q) a W

theorem Sat.mono {c : Code} {σ : St} {Q Q' : AExit → St → Prop} (h : Sat P c σ Q) (hq : ∀ e σ, Q e σ → Q' e σ) : Sat P c σ Q' :=
  fun W0 g0 H0 W a g hB hS hG => wp_mono (h W0 g0 H0 W a g hB hS hG) fun e a w ⟨g, σ, e', h1, h2, h3, h4⟩ => ⟨g, σ, e', h1, h2, h3, hq _ _ h4⟩

theorem sat_region {id : Nat} {ops : Array Oper} {σ σ' : St} {Q : AExit → St → Prop} (ans : List (V × Option Heap)) {rest : List (V × Option Heap)} {cl : List Claim} (h : runC P ops ops.toList ans σ = some (σ', rest, cl)) (hc : ∀ c ∈ cl, c.ok P) (hQ : Q .normal σ') :
    Sat P (.region id ops false) σ Q := fun W0 g0 H0 W a g _ hS hG => by
  refine wp_region ?_
  rw [List.range_eq_range']
  have := runC_sound (P := P) (ops := ops) (Q := Lift W0 g0 H0 Q) (W0 := W0) (g0 := g0) (H0 := H0) ops.toList 0 ans rest σ σ' cl W a g (by simp) h hc hG hS (fun W' a' g' s1 s2 => ⟨g', σ', .normal, .normal, s1, s2, hQ⟩)
  simpa using this

/-- the same, the run's outcome as one term -/
theorem sat_reg {id : Nat} {ops : Array Oper} {σ : St} {Q : AExit → St → Prop} (ans : List (V × Option Heap)) {r : St × List (V × Option Heap) × List Claim} (h : runC P ops ops.toList ans σ = some r) (hc : ∀ c ∈ r.2.2, c.ok P) (hQ : Q .normal r.1) :
    Sat P (.region id ops false) σ Q := sat_region ans (σ' := r.1) (rest := r.2.1) (cl := r.2.2) h hc hQ

theorem sat_skip {σ : St} {Q : AExit → St → Prop} (h : Q .normal σ) : Sat P .skip σ Q := fun _ _ _ _ _ g _ hS hG => wp_skip ⟨g, σ, .normal, .normal, hS, hG, h⟩
theorem sat_exit {id : Nat} {σ : St} {Q : AExit → St → Prop} (h : Q (.exit id) σ) : Sat P (.exit id) σ Q := fun _ _ _ _ _ g _ hS hG => wp_exit ⟨g, σ, .exit id, .exit id, hS, hG, h⟩
theorem sat_ret {σ : St} {Q : AExit → St → Prop} (h : Q .ret σ) : Sat P .ret σ Q := fun _ _ _ _ _ g _ hS hG => wp_ret ⟨g, σ, .ret, .ret, hS, hG, h⟩

def AExit.then (next : St → Prop) (Q : AExit → St → Prop) : AExit → St → Prop
  | .normal, σ => next σ
  | e, σ => Q e σ

theorem sat_seq {x y : Code} {σ : St} {Q : AExit → St → Prop} (h : Sat P x σ (AExit.then (fun σ' => Sat P y σ' Q) Q)) : Sat P (.seq x y) σ Q := fun W0 g0 H0 W a g hB hS hG => by
  refine wp_seq (wp_mono (h W0 g0 H0 W a g hB hS hG) fun e a w ⟨g, σ, e', h1, h2, h3, h4⟩ => ?_)
  cases h1 with
  | normal => exact h4 W0 g0 H0 w a g hB h2 h3
  | exit id => exact ⟨g, σ, _, .exit id, h2, h3, h4⟩
  | ret => exact ⟨g, σ, _, .ret, h2, h3, h4⟩
  | panic v c hr => exact ⟨g, σ, _, .panic v c hr, h2, h3, h4⟩

theorem sat_cond {c : Operand} {x y : Code} {σ : St} {Q : AExit → St → Prop} {b : Bool} (hc : σ.ev c = .bool b) (h1 : b = true → Sat P x σ Q) (h2 : b = false → Sat P y σ Q) : Sat P (.cond c x y) σ Q := fun W0 g0 H0 W a g hB hS hG => by
  have hr := hG.ev c
  rw [hc] at hr
  generalize hcc : a.eval c = cc at hr
  cases hr
  exact wp_cond_split hcc (fun h => h1 h W0 g0 H0 W a g hB hS hG) (fun h => h2 h W0 g0 H0 W a g hB hS hG)

def condP (b : Bool) (x y : Prop) : Prop := match b with
  | true => x
  | false => y

def AExit.inBlock (id : Nat) (Q : AExit → St → Prop) : AExit → St → Prop
  | .exit id', σ => condP (Nat.beq id' id) (Q .normal σ) (Q (.exit id') σ)
  | e, σ => Q e σ

theorem sat_block {id : Nat} {c : Code} {σ : St} {Q : AExit → St → Prop} (h : Sat P c σ (AExit.inBlock id Q)) : Sat P (.block id c) σ Q := fun W0 g0 H0 W a g hB hS hG => by
  refine wp_block (wp_mono (h W0 g0 H0 W a g hB hS hG) fun e a w ⟨g, σ, e', h1, h2, h3, h4⟩ => ?_)
  cases h1 with
  | normal => exact ⟨g, σ, _, .normal, h2, h3, h4⟩
  | exit id' =>
    simp only [AExit.inBlock] at h4
    simp only [Exit.inBlock]
    split
    · rename_i he
      rw [show Nat.beq id' id = true from by rw [he]; exact Nat.beq_refl id] at h4
      exact ⟨g, σ, _, .normal, h2, h3, h4⟩
    · rename_i he
      rw [show Nat.beq id' id = false from by
        cases h : Nat.beq id' id with
        | false => rfl
        | true => exact absurd (Nat.eq_of_beq_eq_true h) he] at h4
      exact ⟨g, σ, _, .exit id', h2, h3, h4⟩
  | ret => exact ⟨g, σ, _, .ret, h2, h3, h4⟩
  | panic v c hr => exact ⟨g, σ, _, .panic v c hr, h2, h3, h4⟩

end
end Go.Ab
