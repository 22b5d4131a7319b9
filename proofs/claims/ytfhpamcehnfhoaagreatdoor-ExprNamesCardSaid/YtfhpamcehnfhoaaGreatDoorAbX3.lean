/-
  A MACHINE THAT RUNS CLOSED CALLS BY RECKONING: what it computes is what the calls do.
-/
import Derived.Test.YtfhpamcehnfhoaaGreatDoorAbX2
namespace Go.Ab
open Go
set_option linter.unusedVariables false
set_option linter.unusedSimpArgs false

def HookOk (P : Program) (hk : XHook) : Prop := ∀ lv f args r, hk lv f args = some r → ∀ H : Heap, H.lv = lv → HCall P f args H r H
def CallOk (P : Program) (call : XCall) : Prop := ∀ (pure : Bool) (f : Nat) (args : List V) (lv : Nat) (E : Nat → Nat → Option AObj) (h : XH) (o : Out) (h' : XH) (H : Heap),
  call pure f args lv h = some (o, h') → XHR lv E h H → HRel P f args H (fun o' H' => o' = o ∧ XHR lv E h' H') ∧ (pure = true → ∀ H2 : Heap, H2.lv = lv → HRel P f args H2 (fun o' H' => o' = o ∧ H' = H2))
theorem hcall_of_hrel {P : Program} {f : Nat} {args : List V} {H : Heap} {r : V} (h : HRel P f args H (fun o' H' => o' = .ret r ∧ H' = H)) : HCall P f args H r H := fun W g cargs hG hA => by
  obtain ⟨h1, h2⟩ := h W g cargs hG hA
  refine .inl ⟨h1, h2.mono fun e W' ⟨o, H', g', ⟨k1, k2⟩, k3, k4, k5⟩ => ?_⟩
  subst k1; subst k2
  obtain ⟨c, e1, e2⟩ := k5
  exact ⟨c, g', e1, k3, k4, e2⟩
theorem target_none {P : Program} {ρ : Operand → V} {c : Call} {f : Nat} {args : List V} (h : target ρ c = some (f, args)) (H : Heap) : ox P H ρ (.call c) = none ∧ pv P H ρ (.call c) = none := by
  unfold target at h
  split at h
  · rename_i fo hc
    exact ⟨by simp [ox, pBuiltin, hc], by simp [pv, pBuiltin, hc]⟩
  · cases h
theorem drop_one {ops : Array Oper} {k : Nat} {o : Oper} (ho : ops[k]? = some o) : (ops.toList.drop k).take 1 = [o] := by
  have hk : k < ops.size := by
    rcases Nat.lt_or_ge k ops.size with q | q
    · exact q
    · rw [Array.getElem?_eq_none q] at ho; cases ho
  have ho' : ops[k] = o := by rw [Array.getElem?_eq_getElem hk] at ho; exact Option.some.inj ho
  rw [List.drop_eq_getElem_cons (by simpa using hk)]
  simp [ho']
theorem resolve_sound {W : World} {g : Gh} {H : Heap} {P : Program} {ρ : Operand → V} {r : Operand → Value} (hρ : ∀ x, Rel W g H (ρ x) (r x)) {c : Call} {ty : TypeId} {f : Nat} {args : List V} (h : target ρ c = some (f, args)) :
    ∃ caps as, RelA W g H args (as ++ caps) ∧ ∀ w : World, (resolve r c ty).run P w = .ok ⟨.fn (.func f) caps, as⟩ w := by
  unfold target at h
  split at h
  · rename_i fo hc
    split at h
    · rename_i f' first caps hf
      injection h with h; injection h with h1 h2; subst h1; subst h2
      have hr := hρ fo
      rw [hf] at hr
      generalize hrc : r fo = rc at hr
      cases hr with
      | fn _ _ _ fs cs n1 n2 r1 r2 =>
        refine ⟨cs, fs ++ c.args.map r, relA_append (relA_append ⟨n1, r1⟩ (args_rel hρ c.args)) ⟨n2, r2⟩, fun w => ?_⟩
        simp [resolve, hc, hrc, Deferred.ofValue]
    · cases h
  · cases h
section
variable {P : Program} {ops : Array Oper} {k : Nat} {σ : St} {Q : AExit → St → Prop} {o : Oper}
theorem satO_defer {c : Call} {f : Nat} {args : List V} (ho : ops[k]? = some o) (hw : wantedV ops σ o = some true) (hop : o.op = .defer c) (ht : target σ.ev c = some (f, args))
    (h : SatO P ops (k + 1) ({ σ with d := (f, args) :: σ.d }.put o.dst .any) Q) : SatO P ops k σ Q := fun W0 g0 H0 W a g hB hS hG => by
  have hk : k < ops.size := by
    rcases Nat.lt_or_ge k ops.size with q | q
    · exact q
    · rw [Array.getElem?_eq_none q] at ho; cases ho
  rw [show ops.size - k = (ops.size - (k + 1)) + 1 by omega, List.range'_succ]
  simp only [wpOps, ho]
  rw [wantedV_sound hG hw, if_pos rfl]
  left
  unfold Oper.wp
  obtain ⟨caps, as, k1, k2⟩ := resolve_sound (P := P) (ty := o.type) hG.ev ht
  have hex : (execOp a.eval o).run P W = .ok (.defer ⟨.fn (.func f) caps, as⟩) W := by
    unfold execOp; rw [hop]; simp [k2 W]
  rw [hex]
  have hG2 : GoodSt W { a with defers := ⟨.fn (.func f) caps, as⟩ :: a.defers } g { σ with d := (f, args) :: σ.d } := by
    refine ⟨hG.good, hG.size, hG.tmps, by simp [hG.dlen], fun j f' vs hj => ?_⟩
    cases j with
    | zero => simp at hj; obtain ⟨rfl, rfl⟩ := hj; exact ⟨caps, as, rfl, k1⟩
    | succ j => exact hG.defs j f' vs (by simpa using hj)
  have hG3 := hG2.next (.refl _ _ _) hG.good (.any undef) o.dst
  have hH : ({ σ with d := (f, args) :: σ.d }.put o.dst .any).H = σ.H := by cases o.dst <;> rfl
  have he : ({ σ with d := (f, args) :: σ.d }.put o.dst .any).e0 = σ.e0 := by cases o.dst <;> rfl
  exact h W0 g0 H0 W _ g hB (by rw [hH, he]; exact hS) hG3
theorem satO_one {v : V} {H' : Heap} (ho : ops[k]? = some o) (hw : wantedV ops σ o = some true) (hx : ox P σ.H σ.ev o.op = some (v, H')) (h : SatO P ops (k + 1) ({ σ with H := H' }.put o.dst v) Q) : SatO P ops k σ Q :=
  satO_step 1 [] _ [] (by rw [drop_one ho]; simp [runC, hw, hx]) claims_nil h
theorem satO_not (ho : ops[k]? = some o) (hw : wantedV ops σ o = some false) (h : SatO P ops (k + 1) (σ.put o.dst (.tup [])) Q) : SatO P ops k σ Q :=
  satO_step 1 [] _ [] (by rw [drop_one ho]; simp [runC, hw]) claims_nil h
theorem satO_claim {c : Call} {f : Nat} {args : List V} {r : V} {H' : Heap} (ho : ops[k]? = some o) (hw : wantedV ops σ o = some true) (hop : o.op = .call c) (ht : target σ.ev c = some (f, args)) (hc : HCall P f args σ.H r H')
    (h : SatO P ops (k + 1) ({ σ with H := H' }.put o.dst r) Q) : SatO P ops k σ Q :=
  satO_step 1 [(r, some H')] _ [⟨f, args, σ.H, r, H'⟩] (by rw [drop_one ho]; simp [runC, hw, hop, (target_none (P := P) ht σ.H).1, ht]) (claims_cons hc claims_nil) h
end
theorem xturn_of {lv : Nat} {e : Option Eff} {h h1 : XH} {k : XO} {v : V} (hx : xturn lv e h k = .val v h1) : (∃ ef, e = some ef ∧ ef.onX lv h = some (v, h1)) ∨ (e = none ∧ k = .val v h1) := by
  unfold xturn at hx
  split at hx
  · rename_i ef
    split at hx
    · rename_i v' h' ho
      injection hx with a b; subst a; subst b
      exact .inl ⟨ef, rfl, ho⟩
    · cases hx
  · exact .inr ⟨rfl, hx⟩
theorem xturn_pan {lv : Nat} {e : Option Eff} {h h1 : XH} {k : XO} {v : V} (hk : k ≠ .pan v h1) : xturn lv e h k ≠ .pan v h1 := fun hx => by
  unfold xturn at hx
  split at hx
  · split at hx <;> cases hx
  · exact hk hx
theorem xturn_dfr {lv : Nat} {e : Option Eff} {h : XH} {k : XO} {f : Nat} {args : List V} (hk : k ≠ .dfr f args) : xturn lv e h k ≠ .dfr f args := fun hx => by
  unfold xturn at hx
  split at hx
  · split at hx <;> cases hx
  · exact hk hx
/-- an operation, by whichever law -/
theorem satO_turn {P : Program} {ops : Array Oper} {k : Nat} {σ : St} {Q : AExit → St → Prop} {o : Oper} {v : V} {H' : Heap} (ho : ops[k]? = some o) (hw : wantedV ops σ o = some true)
    (ht : ∀ W a g, GoodSt W a g σ → Turns P W g σ.H (execOp a.eval o) v H') (h : SatO P ops (k + 1) ({ σ with H := H' }.put o.dst v) Q) : SatO P ops k σ Q := fun W0 g0 H0 W a g hB hS hG => by
  have hk : k < ops.size := by
    rcases Nat.lt_or_ge k ops.size with q | q
    · exact q
    · rw [Array.getElem?_eq_none q] at ho; cases ho
  rw [show ops.size - k = (ops.size - (k + 1)) + 1 by omega, List.range'_succ]
  simp only [wpOps, ho]
  rw [wantedV_sound hG hw, if_pos rfl]
  left
  unfold Oper.wp
  obtain ⟨c, W', g', h1, h2, h3, h4⟩ := ht W a g hG
  have hn := hG.next h2 h3 h4 o.dst
  have hH : ({ σ with H := H' }.put o.dst v).H = H' := by cases o.dst <;> rfl
  have he : ({ σ with H := H' }.put o.dst v).e0 = σ.e0 := by cases o.dst <;> rfl
  have fin := h W0 g0 H0 W' (a.put o.dst c) g' hB (by rw [hH, he]; exact ⟨hS.1, hS.2.trans h2⟩) hn
  rcases h1 with h1 | ⟨h1, rfl⟩
  · rw [h1]; exact fin
  · rw [h1]; exact fin
def Does (P : Program) (σ : St) (op : Op) (v : V) (H' : Heap) : Prop := ox P σ.H σ.ev op = some (v, H') ∨ hMore P σ.H σ.ev op = some (v, H')
theorem satO_one' {P : Program} {ops : Array Oper} {k : Nat} {σ : St} {Q : AExit → St → Prop} {o : Oper} {v : V} {H' : Heap} (ho : ops[k]? = some o) (hw : wantedV ops σ o = some true) (hx : Does P σ o.op v H') (h : SatO P ops (k + 1) ({ σ with H := H' }.put o.dst v) Q) : SatO P ops k σ Q :=
  satO_turn ho hw (fun W a g hG => hx.elim (fun q => ox_sound hG.good hG.ev q) (fun q => more_sound hG.good hG.ev q)) h
section
variable {P : Program} {hk : XHook} {call : XCall} {lv n : Nat} {E : Nat → Nat → Option AObj}
theorem xops_sound (hhk : HookOk P hk) (hcall : CallOk P call) {ops : Array Oper} : ∀ (l : List Oper) (k : Nat) (T : BT V) (h : XH) (D : DL) (σ : St) (e : AExit) (T' : BT V) (h' : XH) (D' : DL), l = ops.toList.drop k → XR n lv E T h D σ →
    xops P hk call lv n ops l T h D = some (e, T', h', D') → SatO P ops k σ (fun e' σ' => e' = e ∧ XR n lv E T' h' D' σ')
  | [], k, T, h, D, σ, e, T', h', D', hl, hx, hr => by
    have hr : some (AExit.normal, T, h, D) = some (e, T', h', D') := hr
    simp only [Option.some.injEq, Prod.mk.injEq] at hr
    obtain ⟨rfl, rfl, rfl, rfl⟩ := hr
    have hk : ops.size ≤ k := by
      have := congrArg List.length hl
      simp at this; omega
    exact satO_nil hk ⟨rfl, hx⟩
  | o :: rest, k, T, h, D, σ, e, T', h', D', hl, hx, hr => by
    have ho : ops[k]? = some o := by
      have := congrArg (fun x => x[0]?) hl
      simpa using this.symm
    have hrest : rest = ops.toList.drop (k + 1) := by
      rw [← List.tail_drop, ← hl]; rfl
    have hr : xstep P hk call lv n ops o (xops P hk call lv n ops rest) T h D = some (e, T', h', D') := hr
    unfold xstep at hr
    have hw := hx.wanted ops o
    split at hr
    · cases hr
    · rename_i e1
      split at hr
      · rename_i T1 ht
        exact satO_not ho (hw.trans e1) (xops_sound hhk hcall rest (k + 1) T1 h D _ e T' h' D' hrest (hx.put' ht) hr)
      · cases hr
    · rename_i e1
      have eff : ∀ (op : Op) (v : V) (h1 : XH), o.op = op → xeff P lv op T h = XO.val v h1 → ∃ H1, Does P σ o.op v H1 ∧ XHR lv E h1 H1 := fun op v h1 hop hh => by
        have hgx : ∀ l i o, xg lv h l i = some o → σ.H.get l i = some o := fun l i o ho => hx.heap.xg ho
        rcases xturn_of hh with ⟨ef, hef, hon⟩ | ⟨_, hh⟩
        · rw [← hx.heap.lv] at hef
          have hm := eMore_more (fun l i o ho => hgx l i o (by rw [← hx.heap.lv]; exact ho)) hef
          obtain ⟨q1, q2⟩ := Eff.onX_on hx.heap hon
          exact ⟨(ef.on σ.H).2, .inr (by rw [hx.ev, hop, hm, ← q1]), q2⟩
        · rcases xturn_of hh with ⟨ef, hef, hon⟩ | ⟨_, hh⟩
          · have hox := eox_ox hgx hef
            obtain ⟨q1, q2⟩ := Eff.onX_on hx.heap hon
            exact ⟨(ef.on σ.H).2, .inl (by rw [hx.ev, hop, hox, ← q1]), q2⟩
          · cases hh
      split at hr
      · rename_i v h1 hxo
        split at hr
        · rename_i T1 ht
          have go : ∀ (H1 : Heap), XHR lv E h1 H1 → SatO P ops (k + 1) ({ σ with H := H1 }.put o.dst v) (fun e' σ' => e' = e ∧ XR n lv E T' h' D' σ') := fun H1 q =>
            xops_sound hhk hcall rest (k + 1) T1 h1 D _ e T' h' D' hrest (hx.put q ht) hr
          have same : ∀ {r : Option V}, XO.of r h = XO.val v h1 → r = some v ∧ h1 = h := fun {r} hh => by
            cases r with
            | none => cases hh
            | some u => injection hh with a b; exact ⟨by rw [a], b.symm⟩
          have quick : ∀ (op : Op) (r : Option V), o.op = op → eox P (xg lv h) (evT T) op = r.map .keep → XO.of r h = XO.val v h1 → SatO P ops k σ (fun e' σ' => e' = e ∧ XR n lv E T' h' D' σ') := fun op r hop hr' hh => by
            obtain ⟨rfl, rfl⟩ := same hh
            have hox := eox_ox (fun l i o ho => hx.heap.xg ho) hr'
            exact satO_one' ho (hw.trans e1) (.inl (by rw [hx.ev, hop, hox]; rfl)) (go σ.H hx.heap)
          unfold xop1 at hxo
          split at hxo
          · rename_i x hop; exact quick _ (some (evT T x)) hop rfl hxo
          · rename_i x hop; exact quick _ (some (evT T x)) hop rfl hxo
          · rename_i t a hop; exact quick _ _ hop rfl hxo
          · rename_i op t x y ty hop
            split at hxo
            · rename_i u hp
              exact quick _ _ hop rfl ((by rw [hp]; exact hxo : XO.of (pBin P op t (evT T x) (evT T y)) h = XO.val v h1))
            · obtain ⟨q1, rfl⟩ := same hxo
              have hm := tiny_eq2 (fun l i o ho => hx.heap.xg ho) q1
              exact satO_one' ho (hw.trans e1) (.inr (by rw [hop]; simp only [hMore]; rw [hx.ev, hm]; rfl)) (go σ.H hx.heap)
          · rename_i s x f hop; exact quick _ _ hop rfl hxo
          · rename_i c hop
            split at hxo
            · rename_i f args htg
              have htg' : target σ.ev c = some (f, args) := by rw [hx.ev]; exact htg
              split at hxo
              · rename_i r hh
                injection hxo with a b; subst a; subst b
                exact satO_claim ho (hw.trans e1) hop htg' (hhk _ _ _ _ hh σ.H hx.heap.lv) (go σ.H hx.heap)
              · split at hxo
                · rename_i r h2 hcl
                  injection hxo with a b; subst a; subst b
                  refine satO_call ho (hw.trans e1) hop htg' (hcall _ _ _ _ _ _ _ _ _ hcl hx.heap).1 (fun r' H' ⟨q1, q2⟩ => ?_) (fun v' H' ⟨q1, q2⟩ => by cases q1)
                  injection q1 with q1; subst q1
                  exact go H' q2
                · cases hxo
                · cases hxo
            · rename_i htg
              obtain ⟨H1, q1, q2⟩ := eff _ _ _ hop hxo
              exact satO_one' ho (hw.trans e1) q1 (go H1 q2)
          · split at hxo <;> cases hxo
          · split at hxo <;> cases hxo
          · obtain ⟨H1, q1, q2⟩ := eff _ _ _ rfl hxo
            exact satO_one' ho (hw.trans e1) q1 (go H1 q2)
        · cases hr
      · rename_i v h1 hxo
        simp only [Option.some.injEq, Prod.mk.injEq] at hr
        obtain ⟨rfl, rfl, rfl, rfl⟩ := hr
        have noeff : ∀ (op : Op), xeff P lv op T h = XO.pan v h1 → False := fun op hh => xturn_pan (xturn_pan (fun q => by cases q)) hh
        have nopan : ∀ (r : Option V), XO.of r h = XO.pan v h1 → False := fun r hh => by cases r <;> cases hh
        unfold xop1 at hxo
        split at hxo
        · cases hxo
        · cases hxo
        · exact (nopan _ hxo).elim
        · split at hxo
          · cases hxo
          · exact (nopan _ hxo).elim
        · exact (nopan _ hxo).elim
        · rename_i c hop
          split at hxo
          · rename_i f args htg
            have htg' : target σ.ev c = some (f, args) := by rw [hx.ev]; exact htg
            split at hxo
            · cases hxo
            · split at hxo
              · cases hxo
              · rename_i r h2 hcl
                injection hxo with a b; subst a; subst b
                refine satO_call ho (hw.trans e1) hop htg' (hcall _ _ _ _ _ _ _ _ _ hcl hx.heap).1 (fun r' H' ⟨q1, q2⟩ => by cases q1) (fun v' H' ⟨q1, q2⟩ => ?_)
                injection q1 with q1; subst q1
                exact ⟨rfl, q2, hx.defers, hx.e0, hx.len, hx.get⟩
              · cases hxo
          · exact (noeff _ hxo).elim
        · split at hxo <;> cases hxo
        · rename_i x hop
          split at hxo
          · rename_i t u hv
            injection hxo with a b; subst a; subst b
            exact satO_panic ho (hw.trans e1) hop (by rw [hx.ev]; exact hv) ⟨rfl, hx⟩
          · cases hxo
        · exact (noeff _ hxo).elim
      · rename_i f args hxo
        split at hr
        · rename_i T1 ht
          have noeff : ∀ (op : Op), xeff P lv op T h = XO.dfr f args → False := fun op hh => xturn_dfr (xturn_dfr (fun q => by cases q)) hh
          have noq : ∀ (r : Option V), XO.of r h = XO.dfr f args → False := fun r hh => by cases r <;> cases hh
          unfold xop1 at hxo
          split at hxo
          · cases hxo
          · cases hxo
          · exact (noq _ hxo).elim
          · split at hxo
            · cases hxo
            · exact (noq _ hxo).elim
          · exact (noq _ hxo).elim
          · split at hxo
            · split at hxo
              · cases hxo
              · split at hxo <;> cases hxo
            · exact (noeff _ hxo).elim
          · rename_i c hop
            split at hxo
            · rename_i f' args' htg
              injection hxo with a b; subst a; subst b
              refine satO_defer ho (hw.trans e1) hop (by rw [hx.ev]; exact htg) (xops_sound hhk hcall rest (k + 1) T1 h ((f', args') :: D) _ e T' h' D' hrest ?_ hr)
              have hx2 : XR n lv E T h ((f', args') :: D) { σ with d := (f', args') :: σ.d } := ⟨hx.heap, by rw [hx.defers], hx.e0, hx.len, hx.get⟩
              exact hx2.put' ht
            · cases hxo
          · split at hxo <;> cases hxo
          · exact (noeff _ hxo).elim
        · cases hr
      · cases hr

theorem xq_sound (hhk : HookOk P hk) (hcall : CallOk P call) {ops : Array Oper} : ∀ (l : List Oper) (T : BT V) (h : XH) (D : DL) (σ : St) (T' : BT V), XR n lv E T h D σ → xq P hk call lv n ops l T h = some T' →
    ∃ ans σ' cl, runQ P ops l ans σ = some (σ', [], cl) ∧ (∀ c ∈ cl, c.ok P) ∧ XR n lv E T' h D σ'
  | [], T, h, D, σ, T', hx, hr => by
    have hr : some T = some T' := hr
    injection hr with hr; subst hr
    exact ⟨[], σ, [], rfl, by simp, hx⟩
  | o :: rest, T, h, D, σ, T', hx, hr => by
    have hr : xqstep P hk call lv n ops o (xq P hk call lv n ops rest) T h = some T' := hr
    unfold xqstep at hr
    have hw := hx.wanted ops o
    split at hr
    · cases hr
    · rename_i e1
      split at hr
      · rename_i T1 ht
        obtain ⟨ans, σ', cl, k1, k2, k3⟩ := xq_sound hhk hcall rest T1 h D _ T' (hx.put' ht) hr
        exact ⟨ans, σ', cl, by simp only [runQ, hw, e1]; exact k1, k2, k3⟩
      · cases hr
    · rename_i e1
      split at hr
      · rename_i v hv
        split at hr
        · rename_i T1 ht
          obtain ⟨ans, σ', cl, k1, k2, k3⟩ := xq_sound hhk hcall rest T1 h D _ T' (hx.put' ht) hr
          have quiet : xpv P (xg lv h) (evT T) o.op = some v → ∃ ans σ' cl, runQ P ops (o :: rest) ans σ = some (σ', [], cl) ∧ (∀ c ∈ cl, c.ok P) ∧ XR n lv E T' h D σ' := fun hq => by
            have hp := xpv_pv (fun l i o ho => hx.heap.xg ho) hq
            rw [← hx.ev] at hp
            exact ⟨ans, σ', cl, by simp only [runQ, hw, e1, hp]; exact k1, k2, k3⟩
          have claim : ∀ (c : Call) (f : Nat) (args : List V), o.op = .call c → target (evT T) c = some (f, args) → HCall P f args σ.H v σ.H → ∃ ans σ' cl, runQ P ops (o :: rest) ans σ = some (σ', [], cl) ∧ (∀ c ∈ cl, c.ok P) ∧ XR n lv E T' h D σ' := fun c f args hop htg hc => by
            rw [← hx.ev] at htg
            refine ⟨v :: ans, σ', ⟨f, args, σ.H, v, σ.H⟩ :: cl, ?_, claims_cons hc k2, k3⟩
            simp only [runQ, hw, e1, hop, (target_none (P := P) htg σ.H).2, htg, if_true, k1]
          unfold xq1 at hv
          split at hv
          · rename_i x hop; exact quiet (by rw [hop]; exact hv)
          · rename_i x hop; exact quiet (by rw [hop]; exact hv)
          · rename_i op t x y _ hop; exact quiet (by rw [hop]; exact hv)
          · rename_i c hop
            split at hv
            · rename_i f args htg
              split at hv
              · rename_i r hh
                injection hv with hv; subst hv
                exact claim c f args hop htg (hhk _ _ _ _ hh σ.H hx.heap.lv)
              · split at hv
                · rename_i r h2 hcl
                  injection hv with hv; subst hv
                  exact claim c f args hop htg (hcall_of_hrel ((hcall _ _ _ _ _ _ _ _ _ hcl hx.heap).2 rfl _ hx.heap.lv))
                · cases hv
            · exact quiet (by rw [hop]; exact hv)
          · exact quiet hv
        · cases hr
      · cases hr

/-! ### how code ends: behind a panic in a drawn region the temporaries are not known -/
def XW (n lv : Nat) (E : Nat → Nat → Option AObj) (T : BT V) (h : XH) (D : DL) (σ : St) : Prop := XR n lv E T h D σ ∨ (T = .leaf ∧ ∃ T2, XR n lv E T2 h D σ)
def XQ (n lv : Nat) (E : Nat → Nat → Option AObj) (e : AExit) (T : BT V) (h : XH) (D : DL) (σ : St) : Prop := match e with
  | .panic _ => XW n lv E T h D σ
  | _ => XR n lv E T h D σ
theorem XR.q {T : BT V} {h : XH} {D : DL} {σ : St} (k : XR n lv E T h D σ) (e : AExit) : XQ n lv E e T h D σ := by
  cases e <;> first | exact k | exact .inl k
theorem xr_any {h : XH} {D : DL} {σ : St} (hh : XHR lv E h σ.H) (hd : σ.d = D) (he : σ.e0 = E) (hl : σ.t.length = n) : ∃ T, XR n lv E T h D σ :=
  ⟨enterT 0 σ.t .leaf, hh, hd, he, hl, fun j => by
    rw [enterT_get, BT.get_leaf]
    simp only [Nat.zero_le, true_and, Nat.zero_add, Nat.sub_zero]
    split
    · rfl
    · rw [List.getD_eq_getElem?_getD, List.getElem?_eq_none (by omega)]; rfl⟩
/-! ### drawn regions of operations that commute -/
theorem pathOk_mono {P : Program} {ops : Array Oper} {md : Region.Mode} {S : Heap → Prop} {Kp : V → St → Prop} {R R' : St → Prop} (h : ∀ σ, R σ → R' σ) : ∀ (l : List Nat) (prev : List (Nat × Info)) (σ : St), PathOk P ops md S Kp R l prev σ → PathOk P ops md S Kp R' l prev σ
  | [], _, σ, k => h σ k
  | _ :: l, prev, σ, ⟨o, c, h0, h1, h2⟩ => ⟨o, c, h0, h1, h2.imp (fun ⟨v, H', a, b, d⟩ => ⟨v, H', a, b, pathOk_mono h l _ _ d⟩) (fun ⟨a, b⟩ => ⟨a, b.imp fun v H' _ _ k => pathOk_mono h l _ _ k⟩)⟩
theorem xgR_xg {h : XH} {R : List Nat} {l i : Nat} {o : AObj} (k : xgR lv h R l i = some o) : memN i R = true ∧ xg lv h l i = some o := by
  unfold xgR at k
  split at k
  · rename_i hm; exact ⟨hm, k⟩
  · cases k
theorem xg_lv {h : XH} {l i : Nat} {o : AObj} (k : xg lv h l i = some o) : l = lv := by
  unfold xg at k
  split at k
  · rename_i hl; exact Nat.eq_of_beq_eq_true hl
  · cases k
def infX : CK → Info
  | .quiet ks => ⟨false, fun x => memN x ks = true, fun _ => False, false⟩
  | .eff ks => ⟨true, fun _ => False, fun x => memN x ks = true, false⟩
  | .call ks => ⟨true, fun _ => False, fun x => memN x ks = false, true⟩
theorem memN_mem {x : Nat} {ks : List Nat} (h : memN x ks = true) : x ∈ ks := by
  unfold memN at h
  obtain ⟨y, hy, hxy⟩ := List.any_eq_true.1 h
  have : x = y := Nat.eq_of_beq_eq_true hxy
  subst this
  exact hy
theorem clash_ok {a b : CK} (h : clash a b = false) : ¬ ((infX b).eff = true ∧ (infX a).eff = true) ∧ ((infX b).eff = false → (infX a).eff = true → ∀ x, (infX b).K x → ¬ (infX a).W x) ∧ ((infX a).eff = false → (infX b).eff = true → ∀ x, (infX a).K x → ¬ (infX b).W x) := by
  have mem : ∀ {x : Nat} {ks ks2 : List Nat}, memN x ks = true → memN x ks2 = true → (ks.any fun k => memN k ks2) = true := fun {x ks ks2} h1 h2 => List.any_eq_true.2 ⟨x, memN_mem h1, h2⟩
  have out : ∀ {x : Nat} {ks ks2 : List Nat}, memN x ks = true → memN x ks2 = false → (ks.any fun k => !memN k ks2) = true := fun {x ks ks2} h1 h2 => List.any_eq_true.2 ⟨x, memN_mem h1, by rw [h2]; rfl⟩
  cases a with
  | quiet ks => cases b with
    | quiet ks2 => exact ⟨fun a => (by cases a.1), fun _ a => (by cases a), fun _ a => (by cases a)⟩
    | eff ks2 =>
      simp only [clash] at h
      refine ⟨fun a => (by cases a.2), fun a => (by cases a), fun _ _ x h3 h4 => ?_⟩
      rw [mem h3 h4] at h; cases h
    | call ks2 =>
      simp only [clash] at h
      refine ⟨fun a => (by cases a.2), fun a => (by cases a), fun _ _ x h3 h4 => ?_⟩
      rw [out h3 h4] at h; cases h
  | eff ks => cases b with
    | quiet ks2 =>
      simp only [clash] at h
      refine ⟨fun a => (by cases a.1), fun _ _ x h3 h4 => ?_, fun a => (by cases a)⟩
      rw [mem h4 h3] at h; cases h
    | eff ks2 => cases h
    | call ks2 => cases h
  | call ks => cases b with
    | quiet ks2 =>
      simp only [clash] at h
      refine ⟨fun a => (by cases a.1), fun _ _ x h3 h4 => ?_, fun a => (by cases a)⟩
      rw [out h3 h4] at h; cases h
    | eff ks2 => cases h
    | call ks2 => cases h
theorem keptL_same {h h2 : XH} {prev : CL} {H H2 : Heap} (k : XHR lv E h H) (k2 : XHR lv E h2 H2) {i : Nat} (hi : ¬ memN i (keptL h h2 prev) = false) : H2.L[i]? = H.L[i]? := by
  have hm : memN i (keptL h h2 prev) = true := by cases hh : memN i (keptL h h2 prev) with | true => rfl | false => exact (hi hh).elim
  have := (List.mem_filter.1 (memN_mem hm)).2
  unfold keptB at this
  obtain ⟨h1, h3⟩ := andB_eq this
  obtain ⟨h3, h4⟩ := andB_eq h3
  have l1 : i < H.L.length := by rw [k.len]; exact blt_lt h1
  have l2 : i < H2.L.length := by rw [k2.len]; exact blt_lt h3
  have e := sameO_eq h4
  rw [← k.get, ← k2.get, List.getElem?_eq_getElem l1, List.getElem?_eq_getElem l2] at e
  rw [List.getElem?_eq_getElem l1, List.getElem?_eq_getElem l2]
  exact congrArg some e.symm
theorem okP_gp {ops : Array Oper} {i : Nat} {c : CK} {prev : CL} (h : okP ops.toList i c prev = true) : GP .any ops (prev.map fun p => (p.1, infX p.2)) i (infX c) := fun p hp hf => by
  obtain ⟨q, hq, rfl⟩ := List.mem_map.1 hp
  have h1 := List.all_eq_true.1 h q hq
  exact clash_ok (by
    cases hc : clash c q.2 with
    | false => rfl
    | true => rw [hc] at h1; exact (ordB_free h1 hf).elim)
theorem laterP_ok {ops : Array Oper} {i : Nat} (h : laterP ops.toList i ops.size = true) : ∀ j ∈ List.range' (i + 1) (ops.size - (i + 1)), ¬ Free .any ops i j := fun j hj => ordB_free (List.all_eq_true.1 h j hj)
theorem Eff.on_out {h h' : XH} {H : Heap} {v : V} (k : XHR lv E h H) {e : Eff} (he : e.onX lv h = some (v, h')) {i : Nat} (hi : ¬ memN i (e.wr h) = true) : (e.on H).2.L[i]? = H.L[i]? := by
  have ne : ∀ {j}, e.wr h = [j] → i ≠ j := fun {j} hw hij => hi (by rw [hw, hij]; simp [memN])
  cases e with
  | keep u => rfl
  | push mk o =>
    have := ne rfl
    rw [← k.len] at this
    simp only [Eff.on, Heap.push]
    rw [List.getElem?_append]
    split
    · rfl
    · rename_i hge
      rw [List.getElem?_eq_none (by simp; omega), List.getElem?_eq_none (by omega)]
  | set l j o u =>
    have := ne rfl
    simp only [Eff.onX] at he
    split at he
    · rename_i hl
      have hl : l = lv := Nat.eq_of_beq_eq_true hl
      simp only [Eff.on, Heap.set]
      rw [if_pos (by rw [hl, k.lv])]
      exact List.getElem?_set_ne (Ne.symm this)
    · cases he
  | hide j u =>
    have := ne rfl
    simp only [Eff.on, Heap.hide]
    exact List.getElem?_set_ne (Ne.symm this)
theorem xmoreQ_sound {op : Op} {T : BT V} {h : XH} {R : List Nat} {v : V} {H : Heap} (hlv : H.lv = lv) (hg : ∀ l i o, xgR lv h R l i = some o → H.get l i = some o) (hq : xmoreQ P lv op T h R = some v) : pv P H (evT T) op = some v ∨ hMore P H (evT T) op = some (v, H) ∨ ∃ t n c, op = .makeSlice t n c ∧ pMakeData P t (evT T n) (evT T c) = some v := by
  unfold xmoreQ at hq
  split at hq
  · exact .inr (.inr ⟨_, _, _, rfl, hq⟩)
  · split at hq
    · rename_i u he
      injection hq with hq; subst hq
      rw [← hlv] at he hg
      exact .inr (.inl (eMore_more hg he))
    · exact .inl (xpv_pv hg hq)
theorem xcomm_sound (hhk : HookOk P hk) (hcall : CallOk P call) {ops : Array Oper} {D : DL} {e : AExit} {T' : BT V} {h' : XH} : ∀ (l : List Oper) (k : Nat) (prev : CL) (T : BT V) (h : XH) (σ : St), l = ops.toList.drop k → XR n lv E T h D σ →
    xcomm P hk call lv n ops l k prev T h = some (e, T', h') → PathOk P ops .any (fun H => H.lv = lv) (fun v σ => ∀ t', t'.length = σ.t.length → AExit.panic v = e ∧ XQ n lv E e T' h' D { σ with t := t' }) (fun σ' => AExit.normal = e ∧ XQ n lv E e T' h' D σ') (List.range' k (ops.size - k)) (prev.map fun p => (p.1, infX p.2)) σ
  | [], k, prev, T, h, σ, hl, hx, hr => by
    have hr : some (AExit.normal, T, h) = some (e, T', h') := hr
    simp only [Option.some.injEq, Prod.mk.injEq] at hr
    obtain ⟨rfl, rfl, rfl⟩ := hr
    have hkl : ops.size ≤ k := by
      have := congrArg List.length hl
      simp at this; omega
    rw [show ops.size - k = 0 by omega]
    exact ⟨rfl, hx⟩
  | o :: rest, k, prev, T, h, σ, hl, hx, hr => by
    have ho : ops[k]? = some o := by
      have := congrArg (fun x => x[0]?) hl
      simpa using this.symm
    have hkl : k < ops.size := by
      rcases Nat.lt_or_ge k ops.size with q | q
      · exact q
      · rw [Array.getElem?_eq_none q] at ho; cases ho
    have hrest : rest = ops.toList.drop (k + 1) := by
      rw [← List.tail_drop, ← hl]; rfl
    have hr : xcstep P hk call lv n ops k o prev (xcomm P hk call lv n ops rest (k + 1)) T h = some (e, T', h') := hr
    rw [show ops.size - k = (ops.size - (k + 1)) + 1 by omega, List.range'_succ]
    have hw := hx.wanted ops o
    -- one place more
    have one : ∀ {c : CK} {v : V} {H1 : Heap} {T1 : BT V} {h1 : XH}, okP ops.toList k c prev = true → (infX c).call = false → MV P ops (fun H => H.lv = lv) (infX c) σ o v H1 → XHR lv E h1 H1 → tput n T o.dst v = some T1 →
        xcomm P hk call lv n ops rest (k + 1) ((k, c) :: prev) T1 h1 = some (e, T', h') → PathOk P ops .any (fun H => H.lv = lv) (fun v σ => ∀ t', t'.length = σ.t.length → AExit.panic v = e ∧ XQ n lv E e T' h' D { σ with t := t' }) (fun σ' => AExit.normal = e ∧ XQ n lv E e T' h' D σ') (k :: List.range' (k + 1) (ops.size - (k + 1))) (prev.map fun p => (p.1, infX p.2)) σ := fun {c v H1 T1 h1} hok hcc hmv hh ht hr =>
      ⟨o, infX c, ho, okP_gp hok, .inl ⟨v, H1, hcc, hmv, xcomm_sound hhk hcall rest (k + 1) ((k, c) :: prev) T1 h1 _ hrest (hx.put hh ht) hr⟩⟩
    have emp : okP ops.toList k (.quiet []) prev = true := by
      refine List.all_eq_true.2 fun p _ => ?_
      obtain ⟨j, c⟩ := p
      cases c <;> rfl
    unfold xcstep at hr
    split at hr
    · cases hr
    · rename_i e1
      split at hr
      · rename_i T1 ht
        exact one (v := .tup []) (H1 := σ.H) emp rfl (.inl ⟨hw.trans e1, rfl, rfl⟩) hx.heap ht hr
      · cases hr
    · rename_i e1
      split at hr
      · rename_i heff
        split at hr
        · rename_i ef hef
          split at hr
          · rename_i hok
            split at hr
            · rename_i v h1 hon
              split at hr
              · rename_i T1 ht
                obtain ⟨q1, q2⟩ := Eff.onX_on hx.heap hon
                have hd : Eff2 P σ.H σ.ev o.op v (ef.on σ.H).2 := by
                  unfold xceff at hef
                  rw [hx.ev]
                  split at hef
                  · rename_i ef' he
                    injection hef with hef; subst hef
                    rw [← hx.heap.lv] at he
                    exact .inr (by rw [eMore_more (fun l i o ho => hx.heap.xg (by rw [← hx.heap.lv]; exact ho)) he, ← q1])
                  · exact .inl (by rw [eox_ox (fun l i o ho => hx.heap.xg ho) hef, ← q1])
                exact one (c := .eff (ef.wr h)) hok rfl (.inr ⟨hw.trans e1, hx.heap.lv, .inr ⟨rfl, heff, hd, q2.lv, fun i hi => Eff.on_out hx.heap hon hi⟩⟩) q2 ht hr
              · cases hr
            · cases hr
          · cases hr
        · cases hr
      · split at hr
        · rename_i v hv
          split at hr
          · rename_i hok
            split at hr
            · rename_i T1 ht
              refine one (c := .quiet (xreads lv T o.op)) hok rfl (.inr ⟨hw.trans e1, hx.heap.lv, .inl ⟨rfl, rfl, fun H'' k1 k2 => ?_⟩⟩) hx.heap ht hr
              have hg : ∀ l i o', xgR lv h (xreads lv T o.op) l i = some o' → H''.get l i = some o' := fun l i o' hh => by
                obtain ⟨z1, z2⟩ := xgR_xg hh
                have hl := xg_lv z2
                have z3 := hx.heap.xg z2
                unfold Heap.get at z3 ⊢
                rw [if_pos (by rw [hl, hx.heap.lv])] at z3
                rw [if_pos (by rw [hl]; exact k1.symm), k2 i z1]; exact z3
              have more : ∀ op, o.op = op → XC.of (xmoreQ P lv op T h (xreads lv T o.op)) = .val v → QP P H'' σ.ev o v := fun op hop hq => by
                have hq : xmoreQ P lv op T h (xreads lv T o.op) = some v := by
                  cases hm : xmoreQ P lv op T h (xreads lv T o.op) with
                  | none => rw [hm] at hq; cases hq
                  | some u => rw [hm] at hq; injection hq with hq; rw [hq]
                unfold QP
                rw [hx.ev, hop]
                rcases xmoreQ_sound k1 hg hq with q | q | ⟨t, n, c, q1, q2⟩
                · exact .inl q
                · exact .inr (.inr (.inl q))
                · exact .inr (.inr (.inr ⟨t, n, c, q1, q2⟩))
              unfold xquiet at hv
              split at hv
              · rename_i c hop
                split at hv
                · rename_i f args htg
                  refine .inr (.inl ⟨c, f, args, hop, by rw [hx.ev]; exact htg, ?_⟩)
                  split at hv
                  · rename_i r hh
                    injection hv with hv; subst hv
                    exact hhk _ _ _ _ hh H'' k1
                  · split at hv
                    · rename_i r h2 hcl
                      injection hv with hv; subst hv
                      exact hcall_of_hrel ((hcall _ _ _ _ _ _ _ _ _ hcl hx.heap).2 rfl _ k1)
                    · cases hv
                    · cases hv
                · exact more _ hop hv
              · exact more _ rfl hv
            · cases hr
          · cases hr
        · rename_i v hv
          split at hr
          · rename_i hok
            split at hr
            · rename_i hlat
              simp only [Option.some.injEq, Prod.mk.injEq] at hr
              obtain ⟨rfl, rfl, rfl⟩ := hr
              unfold xquiet at hv
              have nof : ∀ (r : Option V), XC.of r = .pan v → False := fun r hh => by cases r <;> cases hh
              split at hv
              · rename_i c hop
                split at hv
                · rename_i f args htg
                  split at hv
                  · cases hv
                  · split at hv
                    · cases hv
                    · rename_i u h2 hcl
                      injection hv with hv; subst hv
                      exact ⟨o, infX (.call _), ho, okP_gp hok, .inr ⟨laterP_ok hlat, rfl, rfl, hw.trans e1, c, f, args, _, hop, by rw [hx.ev]; exact htg, (hcall _ _ _ _ _ _ _ _ _ hcl hx.heap).2 rfl _ hx.heap.lv, fun v' H' hp => (by cases hp.1), fun v' H' hp t' ht' => by
                        obtain ⟨p1, rfl⟩ := hp
                        injection p1 with p1; subst p1
                        exact ⟨rfl, .inr ⟨rfl, xr_any hx.heap hx.defers hx.e0 (ht'.trans hx.len)⟩⟩⟩⟩
                    · cases hv
                · exact (nof _ hv).elim
              · exact (nof _ hv).elim
            · cases hr
          · cases hr
        · rename_i f args hv
          split at hr
          · rename_i hlat
            unfold xquiet at hv
            have nof : ∀ (r : Option V), XC.of r = .flat f args → False := fun r hh => by cases r <;> cases hh
            split at hv
            · rename_i c hop
              split at hv
              · rename_i f' args' htg
                have hfa : f' = f ∧ args' = args := by
                  split at hv
                  · cases hv
                  · split at hv
                    · cases hv
                    · cases hv
                    · injection hv with a b; exact ⟨a, b⟩
                obtain ⟨rfl, rfl⟩ := hfa
                split at hr
                · rename_i r h2 hcl
                  split at hr
                  · rename_i hok
                    split at hr
                    · rename_i T1 ht
                      refine ⟨o, infX (.call _), ho, okP_gp hok, .inr ⟨laterP_ok hlat, rfl, rfl, hw.trans e1, c, f', args', _, hop, by rw [hx.ev]; exact htg, (hcall _ _ _ _ _ _ _ _ _ hcl hx.heap).1, fun v' H' hp => ?_, fun v' H' hp => (by cases hp.1)⟩⟩
                      obtain ⟨p1, p2⟩ := hp
                      injection p1 with p1; subst p1
                      exact ⟨p2.lv, fun i hi => keptL_same hx.heap p2 hi, xcomm_sound hhk hcall rest (k + 1) ((k, .call (keptL h h2 prev)) :: prev) T1 h2 _ hrest (hx.put p2 ht) hr⟩
                    · cases hr
                  · cases hr
                · rename_i u h2 hcl
                  split at hr
                  · rename_i hok
                    simp only [Option.some.injEq, Prod.mk.injEq] at hr
                    obtain ⟨rfl, rfl, rfl⟩ := hr
                    exact ⟨o, infX (.call _), ho, okP_gp hok, .inr ⟨laterP_ok hlat, rfl, rfl, hw.trans e1, c, f', args', _, hop, by rw [hx.ev]; exact htg, (hcall _ _ _ _ _ _ _ _ _ hcl hx.heap).1, fun v' H' hp => (by cases hp.1), fun v' H' hp t' ht' => by
                      obtain ⟨p1, p2⟩ := hp
                      injection p1 with p1; subst p1
                      exact ⟨rfl, .inr ⟨rfl, xr_any p2 hx.defers hx.e0 (ht'.trans hx.len)⟩⟩⟩⟩
                  · cases hr
                · cases hr
              · exact (nof _ hv).elim
            · exact (nof _ hv).elim
          · cases hr
        · cases hr

theorem xiter_sound {c : Code} {f : BT V → XH → DL → XRes} {e : AExit} {T' : BT V} {h' : XH} {D' : DL}
    (hf : ∀ T h D σ e T' h' D', XR n lv E T h D σ → f T h D = some (e, T', h', D') → Sat P c σ (fun e' σ' => e' = e ∧ XQ n lv E e T' h' D' σ')) (m : Nat) (T : BT V) (h : XH) (D : DL) (σ : St) (hx : XR n lv E T h D σ) (hr : xiter f m T h D = some (e, T', h', D')) :
    Sat P (.loop c) σ (fun e' σ' => e' = e ∧ XQ n lv E e T' h' D' σ') := by
  refine sat_loop (fun m σ => ∃ T h D, XR n lv E T h D σ ∧ xiter f m T h D = some (e, T', h', D')) m σ (Weak.refl σ) ⟨T, h, D, hx, hr⟩ fun m σ ⟨T, h, D, hx, hr⟩ => ?_
  cases m with
  | zero => cases hr
  | succ m =>
    have hr : xnext (xiter f m) (f T h D) = some (e, T', h', D') := hr
    unfold xnext at hr
    split at hr
    · rename_i T1 h1 D1 hfe
      refine (hf _ _ _ _ _ _ _ _ hx hfe).mono fun e' σ' ⟨q1, q2⟩ => ?_
      subst q1
      exact ⟨m, σ', Weak.refl _, ⟨T1, h1, D1, q2, hr⟩, Nat.lt_succ_self _⟩
    · rename_i hne
      refine (hf _ _ _ _ _ _ _ _ hx hr).mono fun e' σ' ⟨q1, q2⟩ => ?_
      subst q1
      cases e' with
      | normal => exact (hne _ _ _ hr).elim
      | exit id => exact ⟨rfl, q2⟩
      | ret => exact ⟨rfl, q2⟩
      | panic v => exact ⟨rfl, q2⟩

theorem drawDown_ok (ops : Array Oper) : ∀ (k : Nat) (b : Option Nat) (r : Nat), (∀ j, b = some j → Region.lexTailB .any ops j = true) → drawDown ops k b = some r → Region.lexTailB .any ops r = true
  | 0, b, r, hb, h => hb r h
  | k + 1, b, r, hb, h => by
    simp only [drawDown] at h
    split at h
    · rename_i hk
      exact drawDown_ok ops k _ r (fun j hj => by injection hj with hj; subst hj; exact hk) h
    · exact hb r h
theorem xdraw_sound (hm : P.follows .mixedOrders = true) (hhk : HookOk P hk) (hcall : CallOk P call) {id : Nat} {ops : Array Oper} {T : BT V} {h : XH} {D : DL} {σ : St} {e : AExit} {T' : BT V} {h' : XH} {D' : DL} (hx : XR n lv E T h D σ)
    (hr : xdraw P hk call lv n ops T h D = some (e, T', h', D')) : Sat P (.region id ops true) σ (fun e' σ' => e' = e ∧ XQ n lv E e T' h' D' σ') := by
  unfold xdraw at hr
  split at hr
  · rename_i hB
    split at hr
    · rename_i e1 T1 h1 hc
      simp only [Option.some.injEq, Prod.mk.injEq] at hr
      obtain ⟨rfl, rfl, rfl, rfl⟩ := hr
      exact sat_comm (S := fun H => H.lv = lv) (Q := fun e' σ' => e' = e1 ∧ XQ n lv E e1 T1 h1 D σ') hm (List.range' 0 ops.size) hB (by simp) (fun j hj => by simp [hj]) (xcomm_sound hhk hcall ops.toList 0 [] T h σ rfl hx hc)
    · cases hr
  · cases hr
theorem xcode_sound (hm : P.follows .mixedOrders = true) (hhk : HookOk P hk) (hcall : CallOk P call) {lf : Nat} : ∀ (c : Code) (T : BT V) (h : XH) (D : DL) (σ : St) (e : AExit) (T' : BT V) (h' : XH) (D' : DL), XR n lv E T h D σ →
    xcode P hk call lv n lf c T h D = some (e, T', h', D') → Sat P c σ (fun e' σ' => e' = e ∧ XQ n lv E e T' h' D' σ')
  | .skip, T, h, D, σ, e, T', h', D', hx, hr => by
    have hr : some (AExit.normal, T, h, D) = some (e, T', h', D') := hr
    simp only [Option.some.injEq, Prod.mk.injEq] at hr
    obtain ⟨rfl, rfl, rfl, rfl⟩ := hr
    exact sat_skip ⟨rfl, hx⟩
  | .region id ops draw, T, h, D, σ, e, T', h', D', hx, hr => by
    have hr : xregion P hk call lv n ops draw T h D = some (e, T', h', D') := hr
    unfold xregion at hr
    split at hr
    · exact (satO_reg (xops_sound hhk hcall _ 0 T h D σ e T' h' D' rfl hx hr)).mono fun e' σ' ⟨q1, q2⟩ => ⟨q1, q2.q _⟩
    · split at hr
      · rename_i k hd
        split at hr
        · rename_i T1 hq
          obtain ⟨ans, σ1, cl, k1, k2, k3⟩ := xq_sound hhk hcall _ T h D σ T1 hx hq
          unfold drawN at hd
          split at hd
          · rename_i hB
            injection hd with hd; subst hd
            rw [show ops.toList.take ops.size = ops.toList from List.take_of_length_le (by simp)] at k1
            rw [show ops.toList.drop ops.size = [] from List.drop_eq_nil_of_le (by simp)] at hr
            have hr : some (AExit.normal, T1, h, D) = some (e, T', h', D') := hr
            simp only [Option.some.injEq, Prod.mk.injEq] at hr
            obtain ⟨rfl, rfl, rfl, rfl⟩ := hr
            exact satO_drw hm hB ans σ1 cl k1 k2 ⟨rfl, k3⟩
          · have hB := drawDown_ok ops ops.size none k (fun j hj => by cases hj) hd
            exact (satO_drt k hm hB ans σ1 cl k1 k2 (xops_sound hhk hcall _ k T1 h D σ1 e T' h' D' rfl k3 hr)).mono fun e' σ' ⟨q1, q2⟩ => ⟨q1, q2.q _⟩
        · exact xdraw_sound hm hhk hcall hx hr
      · exact xdraw_sound hm hhk hcall hx hr
  | .seq a b, T, h, D, σ, e, T', h', D', hx, hr => by
    have hr : xnext (xcode P hk call lv n lf b) (xcode P hk call lv n lf a T h D) = some (e, T', h', D') := hr
    unfold xnext at hr
    split at hr
    · rename_i T1 h1 D1 h2
      refine sat_seq ((xcode_sound hm hhk hcall a T h D σ _ T1 h1 D1 hx h2).mono fun e' σ' ⟨q1, q2⟩ => ?_)
      subst q1
      exact xcode_sound hm hhk hcall b T1 h1 D1 σ' e T' h' D' q2 hr
    · rename_i hne
      refine sat_seq ((xcode_sound hm hhk hcall a T h D σ e T' h' D' hx hr).mono fun e' σ' ⟨q1, q2⟩ => ?_)
      subst q1
      cases e' with
      | normal => exact (hne _ _ _ hr).elim
      | exit id => exact ⟨rfl, q2⟩
      | ret => exact ⟨rfl, q2⟩
      | panic v => exact ⟨rfl, q2⟩
  | .cond o a b, T, h, D, σ, e, T', h', D', hx, hr => by
    have hr : xcond o (xcode P hk call lv n lf a) (xcode P hk call lv n lf b) T h D = some (e, T', h', D') := hr
    unfold xcond at hr
    split at hr
    · rename_i ho
      exact sat_cond (b := true) (by rw [hx.ev]; exact ho) (fun _ => xcode_sound hm hhk hcall a T h D σ e T' h' D' hx hr) (fun hh => by cases hh)
    · rename_i ho
      exact sat_cond (b := false) (by rw [hx.ev]; exact ho) (fun hh => by cases hh) (fun _ => xcode_sound hm hhk hcall b T h D σ e T' h' D' hx hr)
    · cases hr
  | .block id b, T, h, D, σ, e, T', h', D', hx, hr => by
    have hr : xblock id (xcode P hk call lv n lf b T h D) = some (e, T', h', D') := hr
    unfold xblock at hr
    split at hr
    · rename_i i T1 h1 D1 h2
      refine sat_block ((xcode_sound hm hhk hcall b T h D σ _ T1 h1 D1 hx h2).mono fun e' σ' ⟨q1, q2⟩ => ?_)
      subst q1
      simp only [AExit.inBlock]
      split at hr
      · rename_i hb
        simp only [Option.some.injEq, Prod.mk.injEq] at hr
        obtain ⟨rfl, rfl, rfl, rfl⟩ := hr
        rw [hb]; exact ⟨rfl, q2⟩
      · rename_i hb
        simp only [Option.some.injEq, Prod.mk.injEq] at hr
        obtain ⟨rfl, rfl, rfl, rfl⟩ := hr
        rw [hb]; exact ⟨rfl, q2⟩
    · rename_i hne
      refine sat_block ((xcode_sound hm hhk hcall b T h D σ e T' h' D' hx hr).mono fun e' σ' ⟨q1, q2⟩ => ?_)
      subst q1
      cases e' with
      | normal => exact ⟨rfl, q2⟩
      | exit id => exact (hne _ _ _ _ hr).elim
      | ret => exact ⟨rfl, q2⟩
      | panic v => exact ⟨rfl, q2⟩
  | .loop b, T, h, D, σ, e, T', h', D', hx, hr => by
    have hr : xiter (xcode P hk call lv n lf b) lf T h D = some (e, T', h', D') := hr
    exact xiter_sound (fun T h D σ e T' h' D' => xcode_sound hm hhk hcall b T h D σ e T' h' D') lf T h D σ hx hr
  | .exit id, T, h, D, σ, e, T', h', D', hx, hr => by
    have hr : some (AExit.exit id, T, h, D) = some (e, T', h', D') := hr
    simp only [Option.some.injEq, Prod.mk.injEq] at hr
    obtain ⟨rfl, rfl, rfl, rfl⟩ := hr
    exact sat_exit ⟨rfl, hx⟩
  | .ret, T, h, D, σ, e, T', h', D', hx, hr => by
    have hr : some (AExit.ret, T, h, D) = some (e, T', h', D') := hr
    simp only [Option.some.injEq, Prod.mk.injEq] at hr
    obtain ⟨rfl, rfl, rfl, rfl⟩ := hr
    exact sat_ret ⟨rfl, hx⟩
  | .rangeFunc _ _ _ _, _, _, _, _, _, _, _, _, _, hr => by cases hr
  | .scope _, _, _, _, _, _, _, _, _, _, hr => by cases hr
  | .label _, _, _, _, _, _, _, _, _, _, hr => by cases hr
  | .goto _, _, _, _, _, _, _, _, _, _, hr => by cases hr
  | .refuse _, _, _, _, _, _, _, _, _, _, hr => by cases hr

theorem resX_eq {T : BT V} {h : XH} {D : DL} {σ : St} (hx : XR n lv E T h D σ) : ∀ {rs : List ResultVar} {vs : List V}, resXL P (xg lv h) T rs = some vs → resL P σ rs = some vs
  | [], vs, hr => hr
  | r :: rs, vs, hr => by
    simp only [resXL] at hr
    split at hr
    · rename_i v us h1 h2
      injection hr with hr; subst hr
      have e1 : resV P σ r = some v := by
        cases r with
        | tmp t =>
          simp only [resX, Option.some.injEq] at h1; subst h1
          simp only [resV, evT, hx.get]
        | cell a t =>
          simp only [resX] at h1
          simp only [resV, hx.get]
          exact tiny_load (fun l i o ho => hx.heap.xg ho) h1
      simp only [resL, e1, resX_eq hx h2]
    · cases hr
theorem resultsX {T : BT V} {h : XH} {D : DL} {σ : St} (hx : XR n lv E T h D σ) {fn : Func} {vs : List V} (hr : resXL P (xg lv h) T fn.results.toList = some vs) : resultsV P fn σ = some (tupOf vs) := by
  unfold resultsV; rw [resX_eq hx hr]; rfl
end
end Go.Ab
