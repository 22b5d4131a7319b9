/-
  A MACHINE THAT RUNS CLOSED CALLS BY RECKONING: deferred calls that recover; calls.
-/
import Derived.Test.YtfhpamcehnfhoaaGreatDoorAbX3
namespace Go.Ab
open Go
set_option linter.unusedVariables false
set_option linter.unusedSimpArgs false

/-- code without recover(), in a deferred function -/
theorem satS_of {P : Program} {c : Code} {n lv : Nat} {E : Nat → Nat → Option AObj} {T : BT V} {h : XH} {D : DL} {σ : St} {Q : AExit → St → Prop} {m : AMode} (hx : XR n lv E T h D σ) (hs : Sat P c σ Q) {W0 : World} {g0 : Gh} {H0 : Heap} {W : World} {a : Act} {g : Gh} {c₀ : Frame} {cs : List Frame} {u : FrameMode}
    (hS : σ.e0 = H0.E ∧ Step W0 g0 H0 W g σ.H) (hG : GoodSt W a g σ) (hm : MRel W g σ.H m u) : c.wpS P (LiftS W0 g0 H0 c₀ cs Q m) a ({ c₀ with mode := u } :: cs) W := by
  refine wpS_of_wp (wp_mono (hs W g σ.H W a g ⟨hG.good⟩ ⟨by rw [hx.e0, hx.heap.out], .refl _ _ _⟩ hG) fun e a' W' ⟨g', σ', e', q1, q2, q3, q4⟩ => ?_)
  exact ⟨g', σ', e', u, q1, ⟨by rw [q2.1, hx.heap.out, ← hx.e0]; exact hS.1, hS.2.trans q2.2⟩, q3, rfl, hm.mono q2.2, q4⟩
section
variable {P : Program} {hk : XHook} {call : XCall} {lv n : Nat} {E : Nat → Nat → Option AObj}
theorem xS_sound (hm : P.follows .mixedOrders = true) (hhk : HookOk P hk) (hcall : CallOk P call) {lf : Nat} {m : AMode} : ∀ (c : Code) (T : BT V) (h : XH) (σ : St) (e : AExit) (T' : BT V) (h' : XH), XR n lv E T h [] σ →
    xS P hk call lv n lf m c T h = some (e, T', h') → ∀ (W0 : World) (g0 : Gh) (H0 : Heap) (W : World) (a : Act) (g : Gh) (c₀ : Frame) (cs : List Frame), (σ.e0 = H0.E ∧ Step W0 g0 H0 W g σ.H) → GoodSt W a g σ → MRel W g σ.H m c₀.mode →
    c.wpS P (LiftS W0 g0 H0 c₀ cs (fun e' σ' => e' = e ∧ XQ n lv E e T' h' [] σ') m.caught) a (c₀ :: cs) W
  | .seq x y, T, h, σ, e, T', h', hx, hr, W0, g0, H0, W, a, g, c₀, cs, hS, hG, hM => by
    simp only [xS] at hr
    split at hr
    · rename_i T1 h1 hx1
      split at hr
      · rename_i e2 T2 h2 hy
        simp only [Option.some.injEq, Prod.mk.injEq] at hr
        obtain ⟨rfl, rfl, rfl⟩ := hr
        refine wpS_seq (wpS_mono (xS_sound hm hhk hcall x T h σ _ T1 h1 hx hx1 W0 g0 H0 W a g c₀ cs hS hG hM) fun ex a' cs' W' ⟨g', σ', e', u', q1, q2, q3, q4, q5, q6, q7⟩ => ?_)
        subst q6
        cases q1
        subst q4
        exact satS_of q7 (xcode_sound hm hhk hcall y T1 h1 [] σ' _ _ _ _ q7 hy) q2 q3 q5
      · cases hr
    · cases hr
  | .region id ops draw, T, h, σ, e, T', h', hx, hr, W0, g0, H0, W, a, g, c₀, cs, hS, hG, hM => by
    simp only [xS] at hr
    split at hr
    · rename_i o rest hl
      split at hr
      · rename_i hrec
        split at hr
        · rename_i T1 ht
          split at hr
          · rename_i e2 T2 h2 hops
            simp only [Option.some.injEq, Prod.mk.injEq] at hr
            obtain ⟨rfl, rfl, rfl⟩ := hr
            have ho : ops[0]? = some o := by
              have := congrArg (fun x => x[0]?) hl
              simpa using this
            have hrest : rest = ops.toList.drop 1 := by rw [hl]; rfl
            have hsz : ops.size = rest.length + 1 := by
              have := congrArg List.length hl
              simpa using this
            refine wpS_region ?_
            rw [List.range_eq_range', show ops.size = rest.length + 1 from hsz, List.range'_succ]
            simp only [wpOpsS, ho]
            unfold isRec at hrec
            split at hrec
            · rename_i c hop
              split at hrec
              · rename_i hcal
                simp only [Bool.and_eq_true, Option.isNone_iff_eq_none, Array.isEmpty_iff] at hrec
                have hwant : Region.wanted o (yielded ops a.tmps) = true := by unfold Region.wanted; rw [hrec.1]
                have hex : (execOp a.eval o).run P W = .ok .recover W := by
                  unfold execOp
                  rw [hop]
                  obtain ⟨callee, args, argTypes⟩ := c
                  simp only at hcal hrec
                  obtain ⟨_, rfl⟩ := hrec
                  subst hcal
                  simp [resolve, invoke, builtin]
                rw [if_pos hwant, hex]
                simp only
                have rest' : ∀ (cv : Value) (u' : FrameMode), Rel W g σ.H m.value cv → MRel W g σ.H m.caught u' → wpOpsS P ops (LiftS W0 g0 H0 c₀ cs (fun e' σ' => e' = e2 ∧ XQ n lv E e2 T2 h2 [] σ') m.caught) (List.range' (0 + 1) rest.length) (a.put o.dst cv) ({ c₀ with mode := u' } :: cs) W := fun cv u' hv hM' => by
                  have hx1 : XR n lv E T1 h [] (σ.put o.dst m.value) := hx.put' ht
                  have hG1 : GoodSt W (a.put o.dst cv) g (σ.put o.dst m.value) := hG.next (.refl _ _ _) hG.good hv o.dst
                  have hs := xops_sound hhk hcall rest 1 T1 h [] (σ.put o.dst m.value) e2 T2 h2 [] hrest hx1 hops
                  have hH : (σ.put o.dst m.value).H = σ.H := by cases o.dst <;> rfl
                  have he : (σ.put o.dst m.value).e0 = σ.e0 := by cases o.dst <;> rfl
                  have hs2 := hs W g σ.H W (a.put o.dst cv) g ⟨hG.good⟩ ⟨by rw [he, hx.e0, hx.heap.out], by rw [hH]; exact .refl _ _ _⟩ hG1
                  rw [show ops.size - 1 = rest.length by omega] at hs2
                  refine wpOpsS_of (fun a w => LiftS.out) _ _ _ (wpOps_mono (fun e a' W' ⟨g', σ', e', q1, q2, q3, q4⟩ => ?_) _ _ _ hs2)
                  exact ⟨g', σ', e', u', q1, ⟨by rw [q2.1, hx.heap.out, ← hx.e0]; exact hS.1, hS.2.trans q2.2⟩, q3, rfl, hM'.mono q2.2, q4.1, q4.2.q _⟩
                cases m with
                | ret =>
                  have hmode : c₀.mode = .returning := hM
                  have hrd : recoverD (c₀ :: cs) = none := by simp [recoverD, hmode]
                  rw [hrd]
                  have := rest' .nilIface c₀.mode .nili hM
                  exact this
                | pan v r =>
                  obtain ⟨cv, h1, h2⟩ := hM
                  cases r with
                  | true =>
                    have hrd : recoverD (c₀ :: cs) = none := by simp [recoverD, h1]
                    rw [hrd]
                    have := rest' .nilIface c₀.mode .nili ⟨cv, h1, h2⟩
                    exact this
                  | false =>
                    have hrd : recoverD (c₀ :: cs) = some (cv, { c₀ with mode := .panicking [{ v := cv, recovered := true }] } :: cs) := by simp [recoverD, h1]
                    rw [hrd]
                    exact rest' cv _ h2 ⟨cv, rfl, h2⟩
              · cases hrec
            · cases hrec
          · cases hr
        · cases hr
      · cases hr
    · cases hr
  | .skip, _, _, _, _, _, _, _, hr, _, _, _, _, _, _, _, _, _, _, _ => by simp [xS] at hr
  | .cond _ _ _, _, _, _, _, _, _, _, hr, _, _, _, _, _, _, _, _, _, _, _ => by simp [xS] at hr
  | .block _ _, _, _, _, _, _, _, _, hr, _, _, _, _, _, _, _, _, _, _, _ => by simp [xS] at hr
  | .loop _, _, _, _, _, _, _, _, hr, _, _, _, _, _, _, _, _, _, _, _ => by simp [xS] at hr
  | .rangeFunc _ _ _ _, _, _, _, _, _, _, _, hr, _, _, _, _, _, _, _, _, _, _, _ => by simp [xS] at hr
  | .exit _, _, _, _, _, _, _, _, hr, _, _, _, _, _, _, _, _, _, _, _ => by simp [xS] at hr
  | .scope _, _, _, _, _, _, _, _, hr, _, _, _, _, _, _, _, _, _, _, _ => by simp [xS] at hr
  | .label _, _, _, _, _, _, _, _, hr, _, _, _, _, _, _, _, _, _, _, _ => by simp [xS] at hr
  | .goto _, _, _, _, _, _, _, _, hr, _, _, _, _, _, _, _, _, _, _, _ => by simp [xS] at hr
  | .ret, _, _, _, _, _, _, _, hr, _, _, _, _, _, _, _, _, _, _, _ => by simp [xS] at hr
  | .refuse _, _, _, _, _, _, _, _, hr, _, _, _, _, _, _, _, _, _, _, _ => by simp [xS] at hr
theorem xend_some {fn : Func} {T : BT V} {h h' : XH} {m m' : AMode} (k : xend P lv fn T h m = some (h', m')) : ∃ vs, resXL P (xg lv h) T fn.results.toList = some vs ∧ h' = h ∧ m' = m := by
  unfold xend at k
  split at k
  · rename_i vs hvs
    simp only [Option.some.injEq, Prod.mk.injEq] at k
    exact ⟨vs, hvs, k.1.symm, k.2.symm⟩
  · cases k
theorem xdef_sound (hm : P.follows .mixedOrders = true) (hhk : HookOk P hk) (hcall : CallOk P call) {lf f : Nat} {vs : List V} {m m' : AMode} {h h' : XH} (hr : xdef P hk call lv lf f vs m h = some (h', m'))
    {W : World} {g : Gh} {H : Heap} {cargs : Array Value} {u : FrameMode} (hh : XHR lv E h H) (hG : Good W g H) (hA : RelA W g H vs cargs) (hM : MRel W g H m u) :
    (∀ w, (callFunc f cargs).run P w = .ok (.enter f cargs) w) ∧ CallsD P f cargs u W (fun e u' W' => ∃ v H' g', e = .returned v ∧ XHR lv E h' H' ∧ Step W g H W' g' H' ∧ Good W' g' H' ∧ MRel W' g' H' m' u') := by
  unfold xdef at hr
  split at hr
  · cases hr
  · rename_i fn hf
    split at hr
    · cases hr
    · rename_i b hb
      split at hr
      · cases hr
      · rename_i hcond
        simp only [Bool.or_eq_false_iff, Bool.not_eq_false'] at hcond
        refine ⟨call_enters hf (by rw [hb]; rfl) hcond.1 cargs, ?_⟩
        have hx : XR fn.ntmps lv E (enterT 0 vs .leaf) h [] ⟨vs ++ List.replicate (fn.ntmps - vs.length) .any, H, [], H.E⟩ := by
          have := xr_enter hcond.2 hh
          rw [hh.out]; exact this
        have fin : ∀ (e : AExit) (T1 : BT V) (h1 : XH), xS P hk call lv fn.ntmps lf m b (enterT 0 vs .leaf) h = some (e, T1, h1) → (e = .ret ∨ e = .normal) → xend P lv fn T1 h1 m.caught = some (h', m') →
            CallsD P f cargs u W (fun e u' W' => ∃ v H' g', e = .returned v ∧ XHR lv E h' H' ∧ Step W g H W' g' H' ∧ Good W' g' H' ∧ MRel W' g' H' m' u') := fun e T1 h1 hS he hres => by
          obtain ⟨vs', hvs, rfl, rfl⟩ := xend_some hres
          refine callsD_of_wpS hf hb fun c₀ cs hu => ?_
          refine wpS_mono (xS_sound hm hhk hcall b _ h _ e T1 h' hx hS W g H W _ g c₀ cs ⟨rfl, .refl _ _ _⟩ (entry_good hG hA) (by rw [hu]; exact hM)) fun ex a' cs' W' ⟨g', σ', e', u', q1, q2, q3, q4, q5, q6, q7⟩ => ?_
          subst q6
          have q7 : XR fn.ntmps lv E T1 h' [] σ' := by rcases he with rfl | rfl <;> exact q7
          have hd : a'.defers = [] := List.eq_nil_of_length_eq_zero (by rw [q3.dlen, q7.defers]; rfl)
          obtain ⟨c, k1, k2⟩ := results_sound q3 (resultsX q7 hvs)
          rcases he with rfl | rfl
          · cases q1
            exact ⟨hd, u', q4, c, k1, c, σ'.H, g', rfl, q7.heap, q2.2, q3.good, q5⟩
          · cases q1
            exact ⟨hd, u', q4, c, k1, c, σ'.H, g', rfl, q7.heap, q2.2, q3.good, q5⟩
        have finP : ∀ (e : AExit) (T1 : BT V) (h1 : XH), xcode P hk call lv fn.ntmps lf b (enterT 0 vs .leaf) h [] = some (e, T1, h1, []) → (e = .ret ∨ e = .normal) → xend P lv fn T1 h1 m = some (h', m') →
            CallsD P f cargs u W (fun e u' W' => ∃ v H' g', e = .returned v ∧ XHR lv E h' H' ∧ Step W g H W' g' H' ∧ Good W' g' H' ∧ MRel W' g' H' m' u') := fun e T1 h1 hS he hres => by
          obtain ⟨vs', hvs, rfl, rfl⟩ := xend_some hres
          refine (callsD_of_wp (R := fun e W' => ∃ v H' g', e = .returned v ∧ XHR lv E h' H' ∧ Step W g H W' g' H' ∧ Good W' g' H') hf hb ?_).mono fun e u' W' ⟨q1, v, H', g', q2, q3, q4, q5⟩ => ⟨v, H', g', q2, q3, q4, q5, by rw [q1]; exact hM.mono q4⟩
          refine wp_mono (xcode_sound hm hhk hcall b _ h [] _ e T1 h' [] hx hS W g H W _ g ⟨hG⟩ ⟨rfl, .refl _ _ _⟩ (entry_good hG hA)) fun ex a' W' ⟨g', σ', e', q1, q2, q3, q6, q7⟩ => ?_
          subst q6
          have q7 : XR fn.ntmps lv E T1 h' [] σ' := by rcases he with rfl | rfl <;> exact q7
          have hd : a'.defers = [] := List.eq_nil_of_length_eq_zero (by rw [q3.dlen, q7.defers]; rfl)
          obtain ⟨c, k1, k2⟩ := results_sound q3 (resultsX q7 hvs)
          rcases he with rfl | rfl
          · cases q1
            exact ⟨hd, c, k1, c, σ'.H, g', rfl, q7.heap, q2.2, q3.good⟩
          · cases q1
            exact ⟨hd, c, k1, c, σ'.H, g', rfl, q7.heap, q2.2, q3.good⟩
        split at hr
        · rename_i T1 h1 hS; exact fin _ T1 h1 hS (.inl rfl) hr
        · rename_i T1 h1 hS; exact fin _ T1 h1 hS (.inr rfl) hr
        · cases hr
        · unfold xdefP at hr
          split at hr
          · rename_i T1 h1 hS; exact finP _ T1 h1 hS (.inl rfl) hr
          · rename_i T1 h1 hS; exact finP _ T1 h1 hS (.inr rfl) hr
          · cases hr
theorem XW.defers {T : BT V} {h : XH} {D : DL} {σ : St} (k : XW n lv E T h D σ) : σ.d = D := by
  rcases k with k | ⟨_, _, k⟩ <;> exact k.defers
theorem XW.heap {T : BT V} {h : XH} {D : DL} {σ : St} (k : XW n lv E T h D σ) : XHR lv E h σ.H := by
  rcases k with k | ⟨_, _, k⟩ <;> exact k.heap
theorem XW.some {T : BT V} {h : XH} {D : DL} {σ : St} (k : XW n lv E T h D σ) : ∃ T2, XR n lv E T2 h D σ := by
  rcases k with k | ⟨_, T2, k⟩
  · exact ⟨T, k⟩
  · exact ⟨T2, k⟩
theorem xleave_sound (hm : P.follows .mixedOrders = true) (hhk : HookOk P hk) (hcall : CallOk P call) {lf : Nat} {fn : Func} {T : BT V} {o : Out} {h' : XH} {W0 : World} {g0 : Gh} {H0 : Heap} : ∀ (D : DL) (m : AMode) (h : XH) (W : World) (g : Gh) (σ : St) (a : Act) (u : FrameMode),
    XW n lv E T h D σ → GoodSt W a g σ → Step W0 g0 H0 W g σ.H → MRel W g σ.H m u → xleave P hk call lv lf fn T D m h = some (o, h') →
    Leaves P fn a.tmps (fun e W' => ∃ o' H' g', (o' = o ∧ XHR lv E h' H') ∧ Step W0 g0 H0 W' g' H' ∧ Good W' g' H' ∧ ORelE W' g' H' o' e) a.defers u W
  | [], m, h, W, g, σ, a, u, hx, hG, hS, hM, hr => by
    have hd : a.defers = [] := List.eq_nil_of_length_eq_zero (by rw [hG.dlen, hx.defers]; rfl)
    rw [hd]
    cases m with
    | ret =>
      have hu : u = .returning := hM
      subst hu
      have fin : ∀ (T3 : BT V) (vs : List V), XR n lv E T3 h [] σ → resXL P (xg lv h) T3 fn.results.toList = some vs → some (Out.ret (tupOf vs), h) = some (o, h') → Leaves P fn a.tmps (fun e W' => ∃ o' H' g', (o' = o ∧ XHR lv E h' H') ∧ Step W0 g0 H0 W' g' H' ∧ Good W' g' H' ∧ ORelE W' g' H' o' e) [] .returning W := fun T3 vs hx3 hvs hr => by
        simp only [Option.some.injEq, Prod.mk.injEq] at hr
        obtain ⟨rfl, rfl⟩ := hr
        obtain ⟨c, k1, k2⟩ := results_sound hG (resultsX hx3 hvs)
        exact ⟨c, k1, .ret (tupOf vs), σ.H, g, ⟨rfl, hx3.heap⟩, hS, hG.good, c, rfl, k2⟩
      simp only [xleave] at hr
      split at hr
      · split at hr
        · rename_i hres
          obtain ⟨T3, hx3⟩ := hx.some
          exact fin T3 [] hx3 (by rw [hres]; rfl) hr
        · cases hr
      · split at hr
        · rename_i vs hvs
          rcases hx with hx | ⟨hT, _⟩
          · exact fin _ vs hx hvs hr
          · cases hT
        · cases hr
    | pan v r =>
      obtain ⟨c, h1, h2⟩ := hM
      subst h1
      cases r with
      | true => simp [xleave] at hr
      | false =>
        simp only [xleave, Option.some.injEq, Prod.mk.injEq] at hr
        obtain ⟨rfl, rfl⟩ := hr
        exact ⟨.pan v, σ.H, g, ⟨rfl, hx.heap⟩, hS, hG.good, c, rfl, h2⟩
  | (f, vs) :: ds, m, h, W, g, σ, a, u, hx, hG, hS, hM, hr => by
    simp only [xleave] at hr
    split at hr
    · rename_i h1 m1 hd
      obtain ⟨caps, as, k1, k2⟩ := hG.defs 0 f vs (by rw [hx.defers]; rfl)
      obtain ⟨d0, ds0, hds⟩ : ∃ d0 ds0, a.defers = d0 :: ds0 := by
        cases hq : a.defers with
        | nil => rw [hq] at k1; cases k1
        | cons d0 ds0 => exact ⟨d0, ds0, rfl⟩
      rw [hds] at k1
      simp only [List.getElem?_cons_zero, Option.some.injEq] at k1
      subst k1
      obtain ⟨e1, e2⟩ := xdef_sound hm hhk hcall hd hx.heap hG.good k2 hM
      rw [hds]
      refine leaves_cons hM.run (by show (callFunc f (as ++ caps)).run P W = _; exact e1 W) (e2.mono fun e u' W' ⟨v, H', g', q1, q2, q3, q4, q5⟩ => ?_)
      subst q1
      have hG2 : GoodSt W' { a with defers := ds0 } g' { σ with H := H', d := ds } := by
        have hl := hG.dlen
        rw [hds, hx.defers] at hl
        refine ⟨q4, hG.size, fun j v hj => (hG.tmps j v hj).mono q3, by simpa using hl, fun j f' vs' hj => ?_⟩
        obtain ⟨caps', as', z1, z2⟩ := hG.defs (j + 1) f' vs' (by rw [hx.defers]; simpa using hj)
        exact ⟨caps', as', by rw [hds] at z1; simpa using z1, z2.mono q3⟩
      exact xleave_sound hm hhk hcall ds _ h1 W' g' { σ with H := H', d := ds } { a with defers := ds0 } (settle u') (hx.imp (fun hx => ⟨q2, rfl, hx.e0, hx.len, hx.get⟩) (fun ⟨z, T2, hx⟩ => ⟨z, T2, q2, rfl, hx.e0, hx.len, hx.get⟩)) hG2 (hS.trans q3) q5.settle hr
    · cases hr
theorem xflat_sound (hm : P.follows .mixedOrders = true) (hhk : HookOk P hk) (hcall : CallOk P call) {lf f : Nat} {fn : Func} {b : Code} (hf : P.funcs[f]? = some fn) (hb : fn.body = some b) (hent : ∀ args w, (callFunc f args).run P w = .ok (.enter f args) w)
    {args : List V} {h h' : XH} {H : Heap} {o : Out} (hl : Nat.ble args.length fn.ntmps = true) (hh : XHR lv E h H) (hr : xflat P hk call lf fn b args lv h = some (o, h')) : HRel P f args H (fun o' H' => o' = o ∧ XHR lv E h' H') := by
  intro W g cargs hG hA
  refine ⟨hent cargs W, calls_of_wp_defers hf hb ?_⟩
  have hx : XR fn.ntmps lv E (enterT 0 args .leaf) h [] ⟨args ++ List.replicate (fn.ntmps - args.length) .any, H, [], H.E⟩ := by
    have := xr_enter hl hh
    rw [hh.out]; exact this
  unfold xflat at hr
  have fin : ∀ (e : AExit) (m : AMode) (T1 : BT V) (h1 : XH) (D1 : DL), xcode P hk call lv fn.ntmps lf b (enterT 0 args .leaf) h [] = some (e, T1, h1, D1) → ((e = .ret ∨ e = .normal) ∧ m = .ret ∨ ∃ v, e = .panic v ∧ m = .pan v false) → xleave P hk call lv lf fn T1 D1 m h1 = some (o, h') →
      b.wp P (bodyPostD P fn fun e W' => ∃ o' H' g', (o' = o ∧ XHR lv E h' H') ∧ Step W g H W' g' H' ∧ Good W' g' H' ∧ ORelE W' g' H' o' e) { tmps := cargs ++ Array.replicate (fn.ntmps - cargs.size) undef, defers := [] } W := fun e m T1 h1 D1 hc he hlv => by
    refine wp_mono (xcode_sound hm hhk hcall b _ h [] _ e T1 h1 D1 hx hc W g H W _ g ⟨hG⟩ ⟨rfl, .refl _ _ _⟩ (entry_good hG hA)) fun ex a' W' ⟨g', σ', e', q1, q2, q3, q4, q5⟩ => ?_
    subst q4
    rcases he with ⟨rfl | rfl, rfl⟩ | ⟨v, rfl, rfl⟩
    · cases q1; exact xleave_sound hm hhk hcall D1 .ret h1 W' g' σ' a' .returning (.inl q5) q3 q2.2 rfl hlv
    · cases q1; exact xleave_sound hm hhk hcall D1 .ret h1 W' g' σ' a' .returning (.inl q5) q3 q2.2 rfl hlv
    · cases q1 with
      | panic _ c hrel => exact xleave_sound hm hhk hcall D1 (.pan v false) h1 W' g' σ' a' _ q5 q3 q2.2 ⟨c, rfl, hrel⟩ hlv
  split at hr
  · rename_i T1 h1 D1 hc; exact fin _ .ret T1 h1 D1 hc (.inl ⟨.inl rfl, rfl⟩) hr
  · rename_i T1 h1 D1 hc; exact fin _ .ret T1 h1 D1 hc (.inl ⟨.inr rfl, rfl⟩) hr
  · rename_i v T1 h1 D1 hc; exact fin _ (.pan v false) T1 h1 D1 hc (.inr ⟨v, rfl, rfl⟩) hr
  · cases hr
end

/-- from a memory of the call's own, back -/
theorem hrel_back {P : Program} {f : Nat} {args : List V} {H : Heap} {o : Out} (h : HRel P f args ⟨H.lv + 1, [], H.get⟩ (fun o' H' => H'.E = H.get ∧ H'.lv = H.lv + 1 ∧ match o' with | .ret v => ∃ r, VS H' (outer H.lv) v r ∧ o = .ret r | .pan v => ∃ r, VS H' (outer H.lv) v r ∧ o = .pan r)) :
    HRel P f args H (fun o' H' => o' = o ∧ H' = H) := fun W g cargs hG hA => by
  obtain ⟨hGe, hge, hre⟩ := good_enter hG
  obtain ⟨h1, h2⟩ := h W g cargs hGe ⟨hA.1, fun j v hj => hre (hA.2 j v hj)⟩
  refine ⟨h1, h2.mono fun e W' ⟨o', H1, g1, ⟨q1, q2, q3⟩, q4, q5, q6⟩ => ?_⟩
  have back : ∀ (v r : V) (c : Value), VS H1 (outer H.lv) v r → Rel W' g1 H1 v c → ∃ g2, Step W g H W' g2 H ∧ Good W' g2 H ∧ Rel W' g2 H r c := fun v r c hv hr =>
    back_sound (σ := ⟨[], H1, [], H1.E⟩) hG q2 q4 q5 (back_pure q1 hv) hr
  cases o' with
  | ret v =>
    obtain ⟨r, k1, k2⟩ := q3
    obtain ⟨c, e1, e2⟩ := q6
    obtain ⟨g2, z1, z2, z3⟩ := back v r c k1 e2
    exact ⟨o, H, g2, ⟨rfl, rfl⟩, z1, z2, by rw [k2]; exact ⟨c, e1, z3⟩⟩
  | pan v =>
    obtain ⟨r, k1, k2⟩ := q3
    obtain ⟨c, e1, e2⟩ := q6
    obtain ⟨g2, z1, z2, z3⟩ := back v r c k1 e2
    exact ⟨o, H, g2, ⟨rfl, rfl⟩, z1, z2, by rw [k2]; exact ⟨c, e1, z3⟩⟩
section
variable {P : Program} {hk : XHook} {lf K : Nat}
theorem xpure_sound (hm : P.follows .mixedOrders = true) (hhk : HookOk P hk) {call : XCall} (hcall : CallOk P call) {f : Nat} {fn : Func} {b : Code} (hf : P.funcs[f]? = some fn) (hb : fn.body = some b) (hent : ∀ args w, (callFunc f args).run P w = .ok (.enter f args) w)
    {args : List V} {H : Heap} {o : Out} (hl : Nat.ble args.length fn.ntmps = true) (h : xpure P hk call lf K fn b args H.lv = some o) : HRel P f args H (fun o' H' => o' = o ∧ H' = H) := by
  refine hrel_back ?_
  have hh : XHR (Nat.succ H.lv) H.get ⟨0, .leaf⟩ ⟨H.lv + 1, [], H.get⟩ := ⟨rfl, rfl, rfl, fun i => by rw [BT.get_leaf]; simp⟩
  unfold xpure at h
  split at h
  · rename_i v h' hfl
    simp only [Option.map_eq_some_iff] at h
    obtain ⟨r, h1, rfl⟩ := h
    refine (xflat_sound hm hhk hcall hf hb hent hl hh hfl).mono fun o' H' ⟨q1, q2⟩ => ?_
    subst q1
    exact ⟨q2.out, q2.lv, r, (frz_spec (fun l i o ho => q2.xg ho) q2.lv K h1).1, rfl⟩
  · rename_i v h' hfl
    simp only [Option.map_eq_some_iff] at h
    obtain ⟨r, h1, rfl⟩ := h
    refine (xflat_sound hm hhk hcall hf hb hent hl hh hfl).mono fun o' H' ⟨q1, q2⟩ => ?_
    subst q1
    exact ⟨q2.out, q2.lv, r, (frz_spec (fun l i o ho => q2.xg ho) q2.lv K h1).1, rfl⟩
  · cases h
theorem xcall_ok (hm : P.follows .mixedOrders = true) (hhk : HookOk P hk) : ∀ m, CallOk P (xcall P hk lf K m)
  | 0 => fun pure f args lv E h o h' H hc => by cases hc
  | m + 1 => fun pure f args lv E h o h' H hc hh => by
    have ih := xcall_ok hm hhk m
    have hc : xcall1 P hk lf K (xcall P hk lf K m) pure f args lv h = some (o, h') := hc
    unfold xcall1 at hc
    split at hc
    · cases hc
    · rename_i fn hf
      split at hc
      · cases hc
      · rename_i b hb
        split at hc
        · cases hc
        · rename_i hcond
          simp only [Bool.or_eq_false_iff, Bool.not_eq_false'] at hcond
          have hent := fun args w => call_enters (P := P) hf (by rw [hb]; rfl) hcond.1 args w
          have flat : pure = false → xflat P hk (xcall P hk lf K m) lf fn b args lv h = some (o, h') → HRel P f args H (fun o' H' => o' = o ∧ XHR lv E h' H') ∧ (pure = true → ∀ H2 : Heap, H2.lv = lv → HRel P f args H2 (fun o' H' => o' = o ∧ H' = H2)) := fun hp q =>
            ⟨xflat_sound hm hhk ih hf hb hent hcond.2 hh q, fun hp' => by rw [hp] at hp'; cases hp'⟩
          split at hc
          · split at hc
            · rename_i o' hp
              simp only [Option.some.injEq, Prod.mk.injEq] at hc
              obtain ⟨rfl, rfl⟩ := hc
              have := fun (H2 : Heap) (h2 : H2.lv = lv) => xpure_sound hm hhk ih hf hb hent (H := H2) hcond.2 (by rw [h2]; exact hp)
              exact ⟨(this H hh.lv).mono fun o' H' ⟨q1, q2⟩ => ⟨q1, by rw [q2]; exact hh⟩, fun _ => this⟩
            · cases pure with
              | true => cases hc
              | false => exact flat rfl hc
          · cases pure with
            | true => cases hc
            | false => exact flat rfl hc
/-- a closed call, reckoned -/
theorem xcall_pcall (hm : P.follows .mixedOrders = true) (hhk : HookOk P hk) {m f lv : Nat} {args : List V} {r : V} {h' : XH} (h : xcall P hk lf K m true f args lv ⟨0, .leaf⟩ = some (.ret r, h')) {H : Heap} (hH : XHR lv H.E ⟨0, .leaf⟩ H) : HCall P f args H r H :=
  hcall_of_hrel ((xcall_ok hm hhk m true f args lv H.E _ _ _ H h hH).2 rfl _ hH.lv)
end
end Go.Ab
