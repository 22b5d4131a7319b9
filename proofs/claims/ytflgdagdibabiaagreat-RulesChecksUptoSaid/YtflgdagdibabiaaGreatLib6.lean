/-
  THE TYPED MACHINE: code, labels.
-/
import Derived.Test.YtflgdagdibabiaaGreatLib5
import Derived.Test.YtflgdagdibabiaaGreatLib2
import Derived.Test.YtflgdagdibabiaaGreatLib3
import Derived.Test.YtflgdagdibabiaaGreatLib1
import Derived.Lib.Bytealg
import Derived.Laws.RangeAny
namespace Go.Ab
open Go
set_option linter.unusedVariables false
set_option linter.unusedSimpArgs false
set_option linter.unusedSectionVars false
section
variable {P : Program}
def zug (P : Program) (c : Code) (Q : Exit → Act → World → Prop) (a : Act) (w : World) : Prop :=
 ∀ (b : Frame) (k : List Item) (cs : List Frame), ∃ e a' w', Q e a' w' ∧ Arrives P (lone (b.at a (.code c :: .inLoop c :: k)) cs w) b k cs e a' w'
theorem zug.wp {c : Code} {Q : Exit → Act → World → Prop} {a : Act} {w : World} (h : zug P c Q a w) : (Code.loop c).wp P Q a w := fun b k cs => by
 obtain ⟨e, a', w', hq, harr⟩ := h b k cs
 exact ⟨e, a', w', hq, .of_steps (.one step_loop) harr⟩
theorem zug.round {c : Code} {Q : Exit → Act → World → Prop} {a : Act} {w : World} (h : c.wp P (Exit.then (zug P c Q) Q) a w) : zug P c Q a w := fun b k cs => by
 obtain ⟨e, a₁, w₁, hq, harr⟩ := h b (.inLoop c :: k) cs
 cases e with
 | normal =>
   obtain ⟨e₂, a₂, w₂, hq₂, harr₂⟩ := hq b k cs
   exact ⟨e₂, a₂, w₂, hq₂, .of_steps (Steps.trans harr (.one step_inLoop)) harr₂⟩
 | exit id => exact ⟨_, a₁, w₁, hq, .pass (x := .inLoop c) rfl (fun _ _ => .inl (by simp)) harr⟩
 | goto l => exact ⟨_, a₁, w₁, hq, .pass (x := .inLoop c) rfl (fun _ _ => .inl (by simp)) harr⟩
 | ret => exact ⟨_, a₁, w₁, hq, .pass (x := .inLoop c) rfl (fun _ _ => .inl (by simp)) harr⟩
 | panic ch => exact ⟨_, a₁, w₁, hq, .pass (x := .inLoop c) rfl (fun _ _ => .inl (by simp)) harr⟩
 | outgrown => exact ⟨_, a₁, w₁, hq, .pass (x := .inLoop c) rfl (fun _ _ => .inl (by simp)) harr⟩
def zyu (P : Program) (c : Code) (σ : St) (Q : zzj → St → Prop) : Prop :=
 ∀ W0 g0 H0 W a g, yr1 W0 g0 H0 → (σ.e0 = H0.E ∧ Step W0 g0 H0 W g σ.H) → z0d W a g σ → zug P c (yi2 W0 g0 H0 Q) a W
theorem zyu.sat {c : Code} {σ : St} {Q : zzj → St → Prop} (h : zyu P c σ Q) : Sat P (.loop c) σ Q := fun W0 g0 H0 W a g hB hS hG => (h W0 g0 H0 W a g hB hS hG).wp
theorem zyu.round {c : Code} {σ : St} {Q : zzj → St → Prop} (h : Sat P c σ (zzj.then (fun σ' => zyu P c σ' Q) Q)) : zyu P c σ Q := fun W0 g0 H0 W a g hB hS hG => by
 refine zug.round (wp_mono (h W0 g0 H0 W a g hB hS hG) fun e a w ⟨g, σ, e', h1, h2, h3, h4⟩ => ?_)
 cases h1 with
 | normal => exact h4 W0 g0 H0 w a g hB h2 h3
 | exit id => exact ⟨g, σ, _, .exit id, h2, h3, h4⟩
 | ret => exact ⟨g, σ, _, .ret, h2, h3, h4⟩
 | panic v c hr => exact ⟨g, σ, _, .panic v c hr, h2, h3, h4⟩
end
section
variable {P : Program} {D : Dat} {F : Fr} {R : Type}
structure KOk (D : Dat) (F : Fr) (K : Ks D.T R) (Q : zzj → St → Prop) (r : R) : Prop where
 kn : ∀ ts σ, TR D F ts σ → K.kn ts = some r → Q .normal σ
 kx : ∀ id k ts σ, fnd K.kx id = some k → TR D F ts σ → k ts = some r → Q (.exit id) σ
 kr : ∀ ts σ, TR D F ts σ → K.kr ts = some r → Q .ret σ
 kp : ∀ z ts σ ρ v, TRr D F ρ ts σ → VR D ρ F.lv z v → K.kp z ts = some r → Q (.panic v) σ
def AC.Claim (P : Program) (a : AC) (σ : St) (Q : zzj → St → Prop) : Prop :=
 match a with
 | .loop b => zyu P b.erase σ Q
 | a => Sat P a.erase σ Q
theorem AC.Claim.sat {a : AC} {σ : St} {Q : zzj → St → Prop} (h : a.Claim P σ Q) : Sat P a.erase σ Q := by
 cases a <;> first | exact h | exact zyu.sat h
def y1d (P : Program) (φ : Nat → AC → (zzj → St → Prop) → Prop) : AC → (zzj → St → Prop) → Prop
 | .seq a b, Q => y1d P φ a (zzj.then (fun σ => Sat P b.erase σ Q) Q) ∧ y1d P φ b Q
 | .cond _ a b, Q => y1d P φ a Q ∧ y1d P φ b Q
 | .block id a, Q => y1d P φ a (zzj.inBlock id Q)
 | .loop a, Q => y1d P φ a (zzj.then (fun σ => zyu P a.erase σ Q) Q)
 | .lab l a, Q => φ l a Q ∧ y1d P φ a Q
 | _, _ => True
def AC.site (P : Program) (l : Nat) : AC → (zzj → St → Prop) → Option (AC × (zzj → St → Prop))
 | .seq a b, Q => match AC.site P l a (zzj.then (fun σ => Sat P b.erase σ Q) Q) with
   | some x => some x
   | none => AC.site P l b Q
 | .cond _ a b, Q => match AC.site P l a Q with
   | some x => some x
   | none => AC.site P l b Q
 | .block id a, Q => AC.site P l a (zzj.inBlock id Q)
 | .loop a, Q => AC.site P l a (zzj.then (fun σ => zyu P a.erase σ Q) Q)
 | .lab l' a, Q => match Nat.beq l' l with
   | true => some (a, Q)
   | false => AC.site P l a Q
 | _, _ => none
def AC.labels : AC → List Nat
 | .seq a b => a.labels ++ b.labels
 | .cond _ a b => a.labels ++ b.labels
 | .block _ a => a.labels
 | .loop a => a.labels
 | .lab l a => l :: a.labels
 | _ => []
theorem zdh {l : Nat} : ∀ {c : AC} {Q : zzj → St → Prop} {x : AC × (zzj → St → Prop)}, c.site P l Q = some x → l ∈ c.labels
 | .seq a b, Q, x, h => by
   simp only [AC.site] at h
   split at h
   · rename_i y hy; exact List.mem_append_left _ (zdh hy)
   · exact List.mem_append_right _ (zdh h)
 | .cond _ a b, Q, x, h => by
   simp only [AC.site] at h
   split at h
   · rename_i y hy; exact List.mem_append_left _ (zdh hy)
   · exact List.mem_append_right _ (zdh h)
 | .block id a, Q, x, h => zdh (c := a) h
 | .loop a, Q, x, h => zdh (c := a) h
 | .lab l' a, Q, x, h => by
   simp only [AC.site] at h
   split at h
   · rename_i e; rw [Nat.eq_of_beq_eq_true e]; exact List.mem_cons_self
   · exact List.mem_cons_of_mem _ (zdh h)
 | .skip, Q, x, h => by cases h
 | .region _ _ _, Q, x, h => by cases h
 | .exit _, Q, x, h => by cases h
 | .ret, Q, x, h => by cases h
 | .other _, Q, x, h => by cases h
theorem ycy {l : Nat} {c : AC} {Q : zzj → St → Prop} (h : l ∉ c.labels) : c.site P l Q = none := by
 cases hs : c.site P l Q with
 | none => rfl
 | some x => exact (h (zdh hs)).elim
theorem zjs {φ : Nat → AC → (zzj → St → Prop) → Prop} : ∀ {c : AC} {Q : zzj → St → Prop}, c.labels.Nodup → (∀ l a Q', c.site P l Q = some (a, Q') → φ l a Q') → y1d P φ c Q
 | .seq a b, Q, hn, h => by
   simp only [AC.labels] at hn
   have hn := List.nodup_append.1 hn
   refine ⟨zjs hn.1 fun l x Q' hs => h l x Q' (by simp only [AC.site, hs]), zjs hn.2.1 fun l x Q' hs => h l x Q' ?_⟩
   have hl := zdh hs
   simp only [AC.site, ycy (P := P) (Q := zzj.then (fun σ => Sat P b.erase σ Q) Q) (fun hm => hn.2.2 l hm l hl rfl)]
   exact hs
 | .cond _ a b, Q, hn, h => by
   simp only [AC.labels] at hn
   have hn := List.nodup_append.1 hn
   refine ⟨zjs hn.1 fun l x Q' hs => h l x Q' (by simp only [AC.site, hs]), zjs hn.2.1 fun l x Q' hs => h l x Q' ?_⟩
   have hl := zdh hs
   simp only [AC.site, ycy (P := P) (Q := Q) (fun hm => hn.2.2 l hm l hl rfl)]
   exact hs
 | .block id a, Q, hn, h => zjs (c := a) hn fun l x Q' hs => h l x Q' hs
 | .loop a, Q, hn, h => zjs (c := a) hn fun l x Q' hs => h l x Q' hs
 | .lab l' a, Q, hn, h => by
   simp only [AC.labels, List.nodup_cons] at hn
   refine ⟨h l' a Q (by simp only [AC.site, Nat.beq_refl]), zjs hn.2 fun l x Q' hs => h l x Q' ?_⟩
   have hl := zdh hs
   have : Nat.beq l' l = false := by
     cases e : Nat.beq l' l with
     | false => rfl
     | true => have := Nat.eq_of_beq_eq_true e; subst this; exact (hn.1 hl).elim
   simp only [AC.site, this]
   exact hs
 | .skip, Q, hn, h => trivial
 | .region _ _ _, Q, hn, h => trivial
 | .exit _, Q, hn, h => trivial
 | .ret, Q, hn, h => trivial
 | .other _, Q, hn, h => trivial
variable {J : Nat → TS D.T → Option R} {tbl : List (Ent D)} {r : R} (hD : D.Ok P) (htbl : ∀ e ∈ tbl, e.Ok P)
def LOk (P : Program) (D : Dat) (F : Fr) (J : Nat → TS D.T → Option R) (r : R) (l : Nat) (a : AC) (Q : zzj → St → Prop) : Prop := ∀ ts σ, TR D F ts σ → J l ts = some r → a.Claim P σ Q
include hD htbl
theorem zap : ∀ {c : AC} {ts : TS D.T} {σ : St} {K : Ks D.T R} {Q : zzj → St → Prop}, KOk D F K Q r → y1d P (LOk P D F J r) c Q → TR D F ts σ → run P D tbl J c ts K = some r → Sat P c.erase σ Q
 | .skip, ts, σ, K, Q, hK, hL, hT, h => yr6 (hK.kn ts σ hT h)
 | .region id ops d, ts, σ, K, Q, hK, hL, hT, h => by
   obtain ⟨τ, ρ, h1, h2⟩ := hT
   exact yk0 h1 (y2m hD htbl (fun ts' σ' ρ' hR hk => hK.kn ts' σ' hR.tr hk) (fun z ts' σ' ρ' v => hK.kp z ts' σ' ρ' v) h2 h)
 | .seq a b, ts, σ, K, Q, hK, hL, hT, h => by
   simp only [run] at h
   exact ytw (zap (K := { K with kn := fun ts => run P D tbl J b ts K }) (Q := zzj.then (fun σ => Sat P b.erase σ Q) Q) ⟨fun ts σ hT hk => zap hK hL.2 hT hk, hK.kx, hK.kr, hK.kp⟩ hL.1 hT h)
 | .cond c a b, ts, σ, K, Q, hK, hL, hT, h => by
   simp only [run] at h
   obtain ⟨τ, ρ, h1, h2⟩ := hT
   refine yk0 h1 ?_
   split at h
   · rename_i v hv
     have he := h2.ev hv
     simp only [VR] at he
     split at h
     · rename_i t
       obtain ⟨w, e1, e2⟩ := h2.tm t _ hv
       simp only [VR] at e2
       subst e2
       refine ykj he (fun hb => ?_) fun hb => ?_
       · subst hb
         exact zap hK hL.1 (h2.tell e1 (by simp only [VR])).tr h
       · subst hb
         exact zap hK hL.2 (h2.tell e1 (by simp only [VR])).tr h
     · refine ykj he (fun hb => ?_) fun hb => ?_
       · subst hb
         exact zap hK hL.1 h2.tr h
       · subst hb
         exact zap hK hL.2 h2.tr h
   · cases h
 | .block id a, ts, σ, K, Q, hK, hL, hT, h => by
   simp only [run] at h
   refine ypk (zap (K := { K with kx := (id, K.kn) :: K.kx }) (Q := zzj.inBlock id Q) ⟨fun ts σ hT hk => hK.kn ts σ hT hk, fun id' k ts σ hf hT hk => ?_, hK.kr, hK.kp⟩ hL hT h)
   replace hf : fnd ((id, K.kn) :: K.kx) id' = some k := hf
   rw [yzi] at hf
   show yrm (Nat.beq id' id) (Q .normal σ) (Q (.exit id') σ)
   split at hf
   · rename_i e
     injection hf with hf; subst hf; subst e
     rw [Nat.beq_refl]
     exact hK.kn ts σ hT hk
   · rename_i e
     have : Nat.beq id' id = false := by
       cases e' : Nat.beq id' id with
       | false => rfl
       | true => exact (e (Nat.eq_of_beq_eq_true e').symm).elim
     rw [this]
     exact hK.kx id' k ts σ hf hT hk
 | .loop a, ts, σ, K, Q, hK, hL, hT, h => by simp [run] at h
 | .exit id, ts, σ, K, Q, hK, hL, hT, h => by
   simp only [run] at h
   split at h
   · rename_i k hk; exact yrs (hK.kx id k ts σ hk hT h)
   · cases h
 | .ret, ts, σ, K, Q, hK, hL, hT, h => ytg (hK.kr ts σ hT h)
 | .lab l a, ts, σ, K, Q, hK, hL, hT, h => (hL.1 ts σ hT h).sat
 | .other c, ts, σ, K, Q, hK, hL, hT, h => by simp [run] at h
omit hD htbl in
theorem zk3 {l : Nat} : ∀ {c : AC} {K : Ks D.T R} {kl : TS D.T → Option R} {Q : zzj → St → Prop}, AC.at P D tbl J l c K kl = none → c.site P l Q = none
 | .seq a b, K, kl, Q, h => by
   simp only [AC.at] at h
   split at h
   · cases h
   · rename_i hn
     simp only [AC.site]
     rw [zk3 hn]
     exact zk3 h
 | .cond _ a b, K, kl, Q, h => by
   simp only [AC.at] at h
   split at h
   · cases h
   · rename_i hn
     simp only [AC.site]
     rw [zk3 hn]
     exact zk3 h
 | .block id a, K, kl, Q, h => zk3 (c := a) (K := { K with kx := (id, K.kn) :: K.kx }) (kl := fun _ => none) h
 | .loop a, K, kl, Q, h => zk3 (c := a) (K := { K with kn := kl }) (kl := fun _ => none) h
 | .lab l' a, K, kl, Q, h => by
   simp only [AC.at] at h
   split at h
   · cases h
   · rename_i e
     simp only [AC.site, e]
     exact zk3 (c := a) h
 | .skip, K, kl, Q, h => rfl
 | .region _ _ _, K, kl, Q, h => rfl
 | .exit _, K, kl, Q, h => rfl
 | .ret, K, kl, Q, h => rfl
 | .other _, K, kl, Q, h => rfl
theorem zj0 {l : Nat} : ∀ {c : AC} {K : Ks D.T R} {kl : TS D.T → Option R} {Q : zzj → St → Prop} {f : TS D.T → Option R}, KOk D F K Q r → (∀ b, c = .loop b → ∀ ts σ, TR D F ts σ → kl ts = some r → zyu P b.erase σ Q) → y1d P (LOk P D F J r) c Q → AC.at P D tbl J l c K kl = some f →
  ∃ a Q', c.site P l Q = some (a, Q') ∧ ∀ ts σ, TR D F ts σ → f ts = some r → a.Claim P σ Q'
 | .seq a b, K, kl, Q, f, hK, hkl, hL, h => by
   simp only [AC.at] at h
   split at h
   · rename_i g hg
     injection h with h; subst h
     obtain ⟨x, Q', h1, h2⟩ := zj0 (c := a) (K := { K with kn := fun ts => run P D tbl J b ts K }) (Q := zzj.then (fun σ => Sat P b.erase σ Q) Q) ⟨fun ts σ hT hk => zap hD htbl hK hL.2 hT hk, hK.kx, hK.kr, hK.kp⟩ (fun _ _ ts σ _ hk => by cases hk) hL.1 hg
     exact ⟨x, Q', by simp only [AC.site, h1], h2⟩
   · rename_i hn
     obtain ⟨x, Q', h1, h2⟩ := zj0 (c := b) hK (fun _ _ ts σ _ hk => by cases hk) hL.2 h
     refine ⟨x, Q', ?_, h2⟩
     simp only [AC.site]
     rw [zk3 hn]
     exact h1
 | .cond _ a b, K, kl, Q, f, hK, hkl, hL, h => by
   simp only [AC.at] at h
   split at h
   · rename_i g hg
     injection h with h; subst h
     obtain ⟨x, Q', h1, h2⟩ := zj0 (c := a) hK (fun _ _ ts σ _ hk => by cases hk) hL.1 hg
     exact ⟨x, Q', by simp only [AC.site, h1], h2⟩
   · rename_i hn
     obtain ⟨x, Q', h1, h2⟩ := zj0 (c := b) hK (fun _ _ ts σ _ hk => by cases hk) hL.2 h
     refine ⟨x, Q', ?_, h2⟩
     simp only [AC.site]
     rw [zk3 hn]
     exact h1
 | .block id a, K, kl, Q, f, hK, hkl, hL, h => by
   simp only [AC.at] at h
   refine zj0 (c := a) (K := { K with kx := (id, K.kn) :: K.kx }) (Q := zzj.inBlock id Q) ⟨fun ts σ hT hk => hK.kn ts σ hT hk, fun id' k ts σ hf hT hk => ?_, hK.kr, hK.kp⟩ (fun _ _ ts σ _ hk => by cases hk) hL h
   replace hf : fnd ((id, K.kn) :: K.kx) id' = some k := hf
   rw [yzi] at hf
   show yrm (Nat.beq id' id) (Q .normal σ) (Q (.exit id') σ)
   split at hf
   · rename_i e
     injection hf with hf; subst hf; subst e
     rw [Nat.beq_refl]
     exact hK.kn ts σ hT hk
   · rename_i e
     have : Nat.beq id' id = false := by
       cases e' : Nat.beq id' id with
       | false => rfl
       | true => exact (e (Nat.eq_of_beq_eq_true e').symm).elim
     rw [this]
     exact hK.kx id' k ts σ hf hT hk
 | .loop a, K, kl, Q, f, hK, hkl, hL, h => by
   simp only [AC.at] at h
   exact zj0 (c := a) (K := { K with kn := kl }) (Q := zzj.then (fun σ => zyu P a.erase σ Q) Q) ⟨fun ts σ hT hk => hkl a rfl ts σ hT hk, hK.kx, hK.kr, hK.kp⟩ (fun _ _ ts σ _ hk => by cases hk) hL h
 | .lab l' a, K, kl, Q, f, hK, hkl, hL, h => by
   simp only [AC.at] at h
   split at h
   · rename_i e
     have e := Nat.eq_of_beq_eq_true e
     subst e
     injection h with h; subst h
     refine ⟨a, Q, by simp only [AC.site, Nat.beq_refl], fun ts σ hT hf => ?_⟩
     unfold yr0 at hf
     split at hf
     · rename_i b
       exact zyu.round (zap hD htbl (K := { K with kn := J l' }) (Q := zzj.then (fun σ => zyu P b.erase σ Q) Q) ⟨fun ts σ hT hk => hL.1 ts σ hT hk, hK.kx, hK.kr, hK.kp⟩ hL.2 hT hf)
     · rename_i hne
       have := zap hD htbl hK hL.2 hT hf
       cases a <;> first | exact this | exact (hne _ rfl).elim
   · rename_i e
     obtain ⟨x, Q', h1, h2⟩ := zj0 (c := a) hK (fun b hb ts σ hT hk => by subst hb; exact hL.1 ts σ hT hk) hL.2 h
     exact ⟨x, Q', by simp only [AC.site, e]; exact h1, h2⟩
 | .skip, K, kl, Q, f, hK, hkl, hL, h => by cases h
 | .region _ _ _, K, kl, Q, f, hK, hkl, hL, h => by cases h
 | .exit _, K, kl, Q, f, hK, hkl, hL, h => by cases h
 | .ret, K, kl, Q, f, hK, hkl, hL, h => by cases h
 | .other _, K, kl, Q, f, hK, hkl, hL, h => by cases h
end
end Go.Ab


namespace Go.Ab
open Go
set_option linter.unusedVariables false
set_option linter.unusedSimpArgs false
set_option linter.unusedSectionVars false
section
variable {P : Program} {D : Dat} {F : Fr} {ρ : List Slot} {ts : TS D.T} {σ : St} {lv : Nat} {R : Type}
theorem yld {α : Type} : ∀ (l : List α) (k j : Nat) (a : α), fnd (yp5 l k) j = some a → k ≤ j ∧ l[j - k]? = some a
 | [], k, j, a, h => by simp [yp5, fnd] at h
 | b :: l, k, j, a, h => by
   simp only [yp5, yzi] at h
   split at h
   · rename_i e; injection h with h; subst h; subst e; simp
   · obtain ⟨h1, h2⟩ := yld l (k + 1) j a h
     refine ⟨by omega, ?_⟩
     rw [show j - k = (j - (k + 1)) + 1 by omega]
     simpa using h2
theorem ydp : ∀ (os : List OSh) {k : Nat} {x : HL D.T (z92 os)} {j : Nat}, k ≤ j → j < k + os.length → ∃ o, fnd (zaj D (fun k => k) os k x) j = some o ∧ o.live
 | [], k, x, j, h1, h2 => by simp at h2; omega
 | o :: os, k, x, j, h1, h2 => by
   show ∃ o', fnd ((k, zne D (fun k => k) o (HL.fst _ x)) :: zaj D (fun k => k) os (k + 1) (HL.snd _ x)) j = some o' ∧ o'.live
   rw [yzi]
   split
   · exact ⟨_, rfl, yda⟩
   · exact ydp os (by omega) (by simp only [List.length_cons] at h2; omega)
theorem yd0 : ∀ (os : List OSh) {k : Nat} {x : HL D.T (z92 os)} {j : Nat} {o : TO D.T}, (j, o) ∈ zaj D (fun k => k) os k x → fnd (zaj D (fun k => k) os k x) j = some o
 | [], k, x, j, o, h => by cases h
 | osh :: os, k, x, j, o, h => by
   replace h : (j, o) ∈ (k, zne D (fun k => k) osh (HL.fst _ x)) :: zaj D (fun k => k) os (k + 1) (HL.snd _ x) := h
   show fnd ((k, zne D (fun k => k) osh (HL.fst _ x)) :: zaj D (fun k => k) os (k + 1) (HL.snd _ x)) j = some o
   rw [yzi]
   rcases List.mem_cons.1 h with h | h
   · injection h with h1 h2; subst h1; subst h2; rw [if_pos rfl]
   · obtain ⟨j', h1, _, h3, _⟩ := zr3 os h
     rw [if_neg (by omega)]
     exact yd0 os h
theorem zpp (hD : D.Ok P) (hR : TRr D F ρ ts σ) : ∀ {rs : List ResultVar} {cs : List (TV D.T)}, yfc P D ts rs = some cs → ∃ vs, yjq P σ rs = some vs ∧ VRL D ρ F.lv cs vs
 | [], cs, h => by simp only [yfc, Option.some.injEq] at h; subst h; exact ⟨[], rfl, by simp only [VRL]⟩
 | .tmp t :: rs, cs, h => by
   simp only [yfc] at h
   split at h
   · rename_i v vs hv hvs
     injection h with h; subst h
     obtain ⟨us, h1, h2⟩ := zpp hD hR hvs
     exact ⟨σ.t.getD t .any :: us, by simp only [yjq, ysr, h1], by simp only [VRL]; exact ⟨_, _, rfl, hR.tmp hv, h2⟩⟩
   · cases h
 | .cell a t :: rs, cs, h => by
   simp only [yfc] at h
   split at h
   · rename_i p hp
     split at h
     · rename_i v vs hv hvs
       injection h with h; subst h
       obtain ⟨us, h1, h2⟩ := zpp hD hR hvs
       obtain ⟨u, h3, h4⟩ := y0l hD hR hv (hR.tmp hp)
       exact ⟨u :: us, by simp only [yjq, ysr, h3, h1], by simp only [VRL]; exact ⟨_, _, rfl, h4, h2⟩⟩
     · cases h
   · cases h
theorem yis {c : Code} {σ : St} {Q : zzj → St → Prop} (h : Sat P c σ fun e σ => ∃ τ, zqp σ τ ∧ (∀ v, e ≠ .panic v) ∧ Q e τ) : Sat P c σ Q := fun W0 g0 H0 W a g hB hS hG => by
 refine wp_mono (h W0 g0 H0 W a g hB hS hG) fun e a w ⟨g, σ, e', h1, h2, h3, τ, h4, h5, h6⟩ => ?_
 obtain ⟨g', k1, k2⟩ := h4 W0 g0 H0 w a g hB h2 h3
 refine ⟨g', τ, e', ?_, k1, k2, h6⟩
 cases h1 with
 | normal => exact .normal
 | exit id => exact .exit id
 | ret => exact .ret
 | panic v c hr => exact (h5 v rfl).elim
def EndQ (D : Dat) (F : Fr) (l : LSh) (pack : HL D.T l.tys → R) (r : R) (e : zzj) (σ : St) : Prop :=
 match e with
 | .normal | .ret => ∃ x, pack x = r ∧ TR D F (l.bld D x) σ
 | _ => False
theorem yon (hD : D.Ok P) {l : LSh} (hp : F.pin.length ≤ l.pin) (hp2 : l.pin ≤ l.os.length) {pack : HL D.T l.tys → R} {r : R} : KOk D F (yjd D l pack) (EndQ D F l pack r) r := by
 refine ⟨fun ts σ hT h => ?_, fun id k ts σ h => by simp [yjd, fnd] at h, fun ts σ hT h => ?_, fun z ts σ ρ v _ _ h => by simp [yjd] at h⟩
 ·obtain ⟨x, h1, h2⟩ := LSh.zj9 hD hp hp2 hT h
  injection h1 with h1
  exact ⟨x, h1, h2⟩
 ·obtain ⟨x, h1, h2⟩ := LSh.zj9 hD hp hp2 hT h
  injection h1 with h1
  exact ⟨x, h1, h2⟩
def Runs (P : Program) (D : Dat) (c : Code) (p : Nat) (args : List Sh) (aos : List OSh) (nt : Nat) (K : Ks D.T R) (go : HL D.T (Sh.z8q args ++ z92 aos) → Option R) : Prop :=
 ∀ F Q r, F.pin.length ≤ p → KOk D F K Q r → ∀ x σ, TR D F (entry D args aos nt x) σ → go x = some r → Sat P c σ Q
theorem zqz {args : List V} {n : Nat} (cs : List (TV D.T)) (h : VRL D ρ lv cs args) : ∀ (j : Nat) (x : TV D.T), fnd (yp5 cs 0) j = some x → ∃ v, (args ++ List.replicate n V.any)[j]? = some v ∧ VR D ρ lv x v := fun j x hj => by
 obtain ⟨_, h1⟩ := yld cs 0 j x hj
 obtain ⟨v, h2, h3⟩ := h.get j x (by simpa using h1)
 exact ⟨v, by rw [List.getElem?_append_left (List.getElem?_eq_some_iff.1 h2).1]; exact h2, h3⟩
theorem ytp (hD : D.Ok P) {e : Ent D} {fn : Func} {code : Code} {nt : Nat} {l : LSh} {pack : HL D.T l.tys → R} {un : R → HL D.T (Sh.z8q e.outs ++ z92 e.ros)} {go : HL D.T (Sh.z8q e.args ++ z92 e.aos) → Option R}
  (hf : P.funcs[e.f]? = some fn) (hb : fn.body = some code) (hnt : fn.ntmps = nt) (hent : ∀ args w, (callFunc e.f args).run P w = .ok (.enter e.f args) w) (hargs : e.args.length ≤ nt)
  (hgo : ∀ (R' : Type) (x : HL D.T (Sh.z8q e.args ++ z92 e.aos)) (k : HL D.T (Sh.z8q e.outs ++ z92 e.ros) → Option R') (kp : HL D.T (e.pan.tys ++ z92 e.pos) → Option R'), e.go x k kp = (go x).bind fun r => k (un r))
  (hpure : e.pure = false) (hren : e.ren = []) (hp1 : e.p ≤ l.pin) (hp2 : l.pin ≤ l.os.length) (hlen : l.os.length = e.ros.length)
  (hout : ∀ x, yfc P D (l.bld D x) fn.results.toList = some (z5c D (fun k => k) e.outs (HL.fst _ (un (pack x)))) ∧ (l.bld D x).o = zaj D (fun k => k) e.ros 0 (HL.snd _ (un (pack x))))
  (hrun : Runs P D code e.p e.args e.aos nt (yjd D l pack) go) : e.Ok P := fun R' x k kp r h => by
 rw [hpure]
 rw [hgo] at h
 obtain ⟨r0, h1, h2⟩ := y54 h
 refine .inl ⟨un r0, h2, fun lv L E ρ0 vargs k1 k2 k3 k4 => ?_⟩
 have hvl : vargs.length = e.args.length := by
  rw [← k2.length]
  have : ∀ (l : List Sh) (y : HL D.T (Sh.z8q l)), (z5c D (fun k => k) l y).length = l.length := fun l => by
   induction l with
   | nil => intro y; rfl
   | cons s l ih => intro y; show (zlb D (fun k => k) s (HL.fst _ y) :: z5c D (fun k => k) l (HL.snd _ y)).length = _; rw [List.length_cons, ih, List.length_cons]
  exact this _ _
 let F : Fr := ⟨lv, E, E, L, fun i => i < L.length ∧ ∀ (k : Nat) (sl0 : Slot), ρ0[k]? = some sl0 → sl0.k ≠ some i, ρ0.take e.p⟩
 have hobj : ∀ s o, fnd (zaj D (fun k => k) e.aos 0 (HL.snd _ x)) s = some o → ∃ sl, ρ0[s]? = some sl ∧ OR D ρ0 lv L sl o := fun s o ho => k3 s o (zcu ho)
 have hR0 : TRr D F ρ0 (entry D e.args e.aos nt x) ⟨vargs ++ List.replicate (nt - vargs.length) .any, ⟨lv, L, E⟩, [], E⟩ := by
  refine ⟨k1, by simp only [entry, List.length_append, List.length_replicate]; omega, zqz _ k2, hobj, fun s s' o o' sl sl' i a1 a2 l1 l2 r1 r2 => k4 s s' sl sl' i r1 r2, fun s o sl i a1 l1 r1 hk ho => ho.2 s sl r1 hk, rfl, rfl, rfl, rfl, fun i hi => ⟨hi.1, rfl⟩, fun j sl hj => ?_⟩
  simp only [F, List.getElem?_take] at hj
  split at hj
  ·exact hj
  ·cases hj
 refine ypy hf hb hnt hent (yis ((hrun F _ r0 (by simp only [F, List.length_take]; omega) (yon hD (by simp only [F, List.length_take]; omega) hp2) x _ hR0.tr h1).mono fun ex σ hq => ?_))
 have key : ∀ ex, (ex = .normal ∨ ex = .ret) → (∃ x, pack x = r0 ∧ TR D F (l.bld D x) σ) → ∃ τ, zqp σ τ ∧ (∀ v, ex ≠ .panic v) ∧ yu8 P fn (fun out H' => ∃ L' ρ', H' = ⟨lv, L', E⟩ ∧ Left D lv L ρ0 e.p L' ρ' e.ros (HL.snd _ (un r0)) ∧ (∀ q ∈ e.ren, ∀ sl, ρ0[q.1]? = some sl → ∃ sl', ρ'[q.2]? = some sl' ∧ sl'.v = sl.v) ∧ ∃ vs, out = .ret (zhx vs) ∧ VRL D ρ' lv (z5c D (fun k => k) e.outs (HL.fst _ (un r0))) vs) ex τ := fun ex hex ⟨y, hy, τ, ρ', w1, w2⟩ => by
  subst hy
  obtain ⟨o1, o2⟩ := hout y
  obtain ⟨vs, q1, q2⟩ := zpp hD w2 o1
  have hH : τ.H = ⟨lv, τ.H.L, E⟩ := y6y (F := F) τ.H w2.lv w2.E
  have hleft : Left D lv L ρ0 e.p τ.H.L ρ' e.ros (HL.snd _ (un (pack y))) := by
   have hlen' : ρ'.length = e.ros.length := by rw [w2.nx, ← hlen]; rfl
   have live : ∀ s sl, ρ'[s]? = some sl → ∃ o, fnd (l.bld D y).o s = some o ∧ o.live := fun s sl hs => by
    rw [o2]; exact ydp e.ros (Nat.zero_le _) (by rw [Nat.zero_add, ← hlen']; exact (List.getElem?_eq_some_iff.1 hs).1)
   refine ⟨hlen', fun j o hm => ?_, fun s s' sl sl' i r1 r2 c1 c2 => ?_, fun s sl i r1 c1 => ?_, fun i hi hno => w2.out i ⟨hi, hno⟩, fun j sl hj hs => ?_⟩
   ·exact w2.ob j o (by rw [o2]; exact yd0 e.ros hm)
   ·obtain ⟨o, a1, a2⟩ := live s sl r1
    obtain ⟨o', b1, b2⟩ := live s' sl' r2
    exact w2.inj s s' o o' sl sl' i a1 b1 a2 b2 r1 r2 c1 c2
   ·obtain ⟨o, a1, a2⟩ := live s sl r1
    have := w2.mine s o sl i a1 a2 r1 c1
    by_cases hlt : i < L.length
    ·right
     by_cases hex : ∃ (k : Nat) (sl0 : Slot), ρ0[k]? = some sl0 ∧ sl0.k = some i
     ·exact hex
     ·exact (this ⟨hlt, fun k sl0 e1 e2 => hex ⟨k, sl0, e1, e2⟩⟩).elim
    ·left; omega
   ·exact w2.pin j sl (by simp only [F, List.getElem?_take]; rw [if_pos hj]; exact hs)
  refine ⟨τ, w1, fun v e => by rcases hex with h | h <;> (rw [h] at e; cases e), ?_⟩
  rcases hex with rfl | rfl
  ·exact ⟨zhx vs, zhx vs, by simp only [zc3, q1, Option.map_some], w2.d, .refl _, τ.H.L, ρ', hH, hleft, (by rw [hren]; intro q hq; cases hq), vs, rfl, q2⟩
  ·exact ⟨zhx vs, zhx vs, by simp only [zc3, q1, Option.map_some], w2.d, .refl _, τ.H.L, ρ', hH, hleft, (by rw [hren]; intro q hq; cases hq), vs, rfl, q2⟩
 cases ex with
 | normal => exact key _ (.inl rfl) hq
 | ret => exact key _ (.inr rfl) hq
 | exit id => exact hq.elim
 | panic v => exact hq.elim
mutual
theorem VRn.lvl {lv' : Nat} : ∀ {x : TV D.T} {v : V}, VR D [] lv x v → VR D [] lv' x v
 | .own s, v, h => by simp only [VR] at h; obtain ⟨sl, h1, _⟩ := h; simp at h1
 | .osl s lo, v, h => by simp only [VR] at h; obtain ⟨sl, j, ver, h1, _⟩ := h; simp at h1
 | .ptr s off, v, h => by simp only [VR] at h; obtain ⟨sl, i, h1, _⟩ := h; simp at h1
 | .bp s off, v, h => by simp only [VR] at h; obtain ⟨sl, i, h1, _⟩ := h; simp at h1
 | .map s, v, h => by simp only [VR] at h; obtain ⟨sl, i, h1, _⟩ := h; simp at h1
 | .mc t es, v, h => by unfold VR at h ⊢; exact h
 | .ap s t i x off, v, h => by simp only [VR] at h; obtain ⟨sl, w, h1, _⟩ := h; simp at h1
 | .ref cs off, v, h => by simp only [VR] at h ⊢; obtain ⟨vs, h1, h2⟩ := h; exact ⟨vs, h1, VRLn.lvl h2⟩
 | .fn f a b, v, h => by simp only [VR] at h ⊢; obtain ⟨as, bs, h1, h2, h3⟩ := h; exact ⟨as, bs, h1, VRLn.lvl h2, VRLn.lvl h3⟩
 | .iface t x, v, h => by simp only [VR] at h ⊢; obtain ⟨y, h1, h2⟩ := h; exact ⟨y, h1, VRn.lvl h2⟩
 | .agg cs, v, h => by simp only [VR] at h ⊢; obtain ⟨vs, h1, h2⟩ := h; exact ⟨vs, h1, VRLn.lvl h2⟩
 | .tup cs, v, h => by simp only [VR] at h ⊢; obtain ⟨vs, h1, h2⟩ := h; exact ⟨vs, h1, VRLn.lvl h2⟩
 | .any, v, h => by simp only [VR]
 | .bool b, v, h => by simpa only [VR] using h
 | .int k n, v, h => by simpa only [VR] using h
 | .str b, v, h => by simpa only [VR] using h
 | .nilp, v, h => by simpa only [VR] using h
 | .nils, v, h => by simpa only [VR] using h
 | .mapn, v, h => by simpa only [VR] using h
 | .nilf, v, h => by simpa only [VR] using h
 | .nili, v, h => by simpa only [VR] using h
 | .sl t xs fl, v, h => by simpa only [VR] using h
theorem VRLn.lvl {lv' : Nat} : ∀ {cs : List (TV D.T)} {vs : List V}, VRL D [] lv cs vs → VRL D [] lv' cs vs
 | [], vs, h => by simpa only [VRL] using h
 | c :: cs, vs, h => by simp only [VRL] at h ⊢; obtain ⟨v, r, h1, h2, h3⟩ := h; exact ⟨v, r, h1, VRn.lvl h2, VRLn.lvl h3⟩
end
theorem DR.vs (hD : D.Ok P) {H : yz3} {Dm : Nat → Nat → Prop} {t : DTy} {x : t.S D.T} {v : V} (h : DR D t x v) :
  VS H Dm v (D.el t x) ∧ ∀ (j : Nat) (u u' : V), v.cells[j]? = some u → (D.el t x).cells[j]? = some u' → VS H Dm u u' := by
 have one : ∀ {t : DTy} {x : t.S D.T} {v : V}, v.cells = [v] → (D.el t x).cells = [D.el t x] → VS H Dm v (D.el t x) →
   VS H Dm v (D.el t x) ∧ ∀ (j : Nat) (u u' : V), v.cells[j]? = some u → (D.el t x).cells[j]? = some u' → VS H Dm u u' := fun {t x v} h1 h2 h => ⟨h, fun j u u' hu hu' => by
  rw [h1] at hu; rw [h2] at hu'
  cases j with
  | zero => simp at hu hu'; subst hu; subst hu'; exact h
  | succ j => simp at hu⟩
 induction h with
 | bool b => exact one rfl rfl (.keep _ (by simp [V.kin]))
 | int k n => exact one rfl rfl (.keep _ (by simp [V.kin]))
 | str s => exact one rfl rfl (.keep _ (by simp [V.kin]))
 | nat n => exact one (t := .nat) rfl rfl (.any _)
 | nil t => exact one rfl rfl (.nil _ _)
 | sl t xs ws full hl h ih =>
   refine one rfl rfl (.sl _ _ _ _ (by simp [hl]) (fun j a b ha hb => ?_) fun j a b q v u ha hb hv hu => ?_)
   · rw [List.getElem?_map, Option.map_eq_some_iff] at hb
     obtain ⟨x, hx, rfl⟩ := hb
     rw [(h j x a hx ha).cells hD, yja hD]
   · rw [List.getElem?_map, Option.map_eq_some_iff] at hb
     obtain ⟨x, hx, rfl⟩ := hb
     exact (ih j x a hx ha).2 q v u hv hu
 | st i x vs hl h ih =>
   have cell : ∀ (j : Nat) (u u' : V), vs[j]? = some u → (D.els (D.fl i) (D.get i x))[j]? = some u' → VS H Dm u u' := fun j u u' hu hu' => by
     rw [yi0, Option.map_eq_some_iff] at hu'
     obtain ⟨p, hp, rfl⟩ := hu'
     exact (ih j p u hp hu).1
   have e : D.el (.st i) x = .agg (D.els (D.fl i) (D.get i x)) := hD.enc i x
   rw [e]
   exact ⟨.agg _ _ (by rw [y2q, hl]) cell, fun j u u' hu hu' => cell j u u' hu hu'⟩
 | enc i x => exact ⟨.keep _ (hD.kin i x _), fun j u u' hu hu' => by
   rw [show D.el (.st i) x = D.enc i x from rfl, hu] at hu'
   injection hu' with hu'
   subst hu'
   exact .keep _ (zc5 (zxw (hD.kin i x _)) j u hu)⟩
theorem VR.toDR (hD : D.Ok P) {t : DTy} {x : t.S D.T} {v : V} (ht : t ≠ .nat) (h : VR D ρ lv (D.tv t x) v) : DR D t x v := by
 have leaf : ∀ {t : DTy} {x : t.S D.T} {v : V}, t ≠ .nat → (∀ i, t ≠ .st i) → VR D ρ lv (D.leaf t x) v → DR D t x v := fun {t x v} h1 h2 h => by
  cases t with
  | bool => simp only [Dat.leaf, VR] at h; subst h; exact .bool _
  | int k => simp only [Dat.leaf, VR] at h; subst h; exact .int _ _
  | str => simp only [Dat.leaf, VR] at h; subst h; exact .str _
  | nat => exact (h1 rfl).elim
  | sl t => simp only [Dat.leaf, VR] at h; exact h.1
  | st i => exact (h2 i rfl).elim
 cases t with
 | st i =>
   simp only [Dat.tv, VR] at h
   obtain ⟨vs, rfl, h⟩ := h
   refine .st i x vs (by rw [← h.length, zq3]) fun j p u hp hu => ?_
   have hm := hD.flat i p.1 (List.mem_of_getElem? (HL.yl3 _ _ _ _ hp).2)
   have := h.yb8 (j := j) (c := D.leaf p.1 p.2) (by rw [zib, hp]; rfl) hu
   obtain ⟨t, y⟩ := p
   refine leaf (fun e => ?_) (fun i e => ?_) this
   · subst e; exact hm.elim
   · subst e; exact hm.elim
 | nat => exact (ht rfl).elim
 | bool => exact leaf ht (by simp) h
 | int k => exact leaf ht (by simp) h
 | str => exact leaf ht (by simp) h
 | sl t => exact leaf ht (by simp) h
def ylz : List Sh → Bool
 | [] => true
 | .d t :: l => !decide (t = .nat) && ylz l
 | _ => false
def canon (D : Dat) : (l : List Sh) → HL D.T (Sh.z8q l) → List V
 | [], _ => []
 | .d t :: l, x => D.el t (HL.fst (Sh.tys (.d t)) x).1 :: canon D l (HL.snd (Sh.tys (.d t)) x)
 | s :: l, x => .any :: canon D l (HL.snd s.tys x)
theorem VRL.lvl {lv' : Nat} {cs : List (TV D.T)} {vs : List V} (h : VRL D [] lv cs vs) : VRL D [] lv' cs vs := VRLn.lvl h
theorem ydy (hD : D.Ok P) : ∀ {l : List Sh} {x : HL D.T (Sh.z8q l)}, ylz l = true → VRL D ρ lv (z5c D (fun k => k) l x) (canon D l x)
 | [], x, h => (by simp only [VRL] : VRL D ρ lv [] [])
 | .d t :: l, x, h => by
   simp only [ylz, Bool.and_eq_true] at h
   show VRL D ρ lv (D.tv t (HL.fst (Sh.tys (.d t)) x).1 :: z5c D (fun k => k) l (HL.snd (Sh.tys (.d t)) x)) (D.el t (HL.fst (Sh.tys (.d t)) x).1 :: canon D l (HL.snd (Sh.tys (.d t)) x))
   simp only [VRL]
   exact ⟨_, _, rfl, VR.tv hD (DR.el t _), ydy hD h.2⟩
theorem yju (hD : D.Ok P) {H : yz3} {Dm : Nat → Nat → Prop} : ∀ {l : List Sh} {x : HL D.T (Sh.z8q l)} {vs : List V}, ylz l = true → VRL D ρ lv (z5c D (fun k => k) l x) vs → VSL H Dm vs (canon D l x)
 | [], x, vs, h, hv => by
   replace hv : VRL D ρ lv [] vs := hv
   simp only [VRL] at hv; subst hv; exact .nil
 | .d t :: l, x, vs, h, hv => by
   simp only [ylz, Bool.and_eq_true, Bool.not_eq_true', decide_eq_false_iff_not] at h
   replace hv : VRL D ρ lv (D.tv t (HL.fst (Sh.tys (.d t)) x).1 :: z5c D (fun k => k) l (HL.snd (Sh.tys (.d t)) x)) vs := hv
   simp only [VRL] at hv
   obtain ⟨v, r, rfl, h1, h2⟩ := hv
   exact .cons ((VR.toDR hD h.1 h1).vs hD).1 (yju hD h.2 h2)
theorem yr4 {H : yz3} {Dm : Nat → Nat → Prop} {vs us : List V} (h : VSL H Dm vs us) : VS H Dm (zhx vs) (zhx us) := by
 cases h with
 | nil => exact .yr2 .nil
 | cons h1 r =>
   cases r with
   | nil => exact h1
   | cons h2 r => exact .yr2 (.cons h1 (.cons h2 r))
theorem yte (hD : D.Ok P) {e : Ent D} {fn : Func} {code : Code} {nt : Nat} {l : LSh} {pack : HL D.T l.tys → R} {un : R → HL D.T (Sh.z8q e.outs ++ z92 e.ros)} {go : HL D.T (Sh.z8q e.args ++ z92 e.aos) → Option R}
  (hf : P.funcs[e.f]? = some fn) (hb : fn.body = some code) (hnt : fn.ntmps = nt) (hent : ∀ args w, (callFunc e.f args).run P w = .ok (.enter e.f args) w) (hargs : e.args.length ≤ nt)
  (hgo : ∀ (R' : Type) (x : HL D.T (Sh.z8q e.args ++ z92 e.aos)) (k : HL D.T (Sh.z8q e.outs ++ z92 e.ros) → Option R') (kp : HL D.T (e.pan.tys ++ z92 e.pos) → Option R'), e.go x k kp = (go x).bind fun r => k (un r))
  (hpure : e.pure = true) (hren : e.ren = []) (haos : e.aos = []) (hros : e.ros = []) (houts : ylz e.outs = true) (hp2 : l.pin ≤ l.os.length)
  (hout : ∀ x, yfc P D (l.bld D x) fn.results.toList = some (z5c D (fun k => k) e.outs (HL.fst _ (un (pack x)))))
  (hrun : Runs P D code e.p e.args e.aos nt (yjd D l pack) go) : e.Ok P := fun R' x k kp r h => by
 rw [hpure]
 rw [hgo] at h
 obtain ⟨r0, h1, h2⟩ := y54 h
 refine ⟨un r0, h2, haos, hros, hren, fun lv0 vargs k2 => ⟨canon D e.outs (HL.fst _ (un r0)), fun ρ lv => ydy hD houts, ?_⟩⟩
 have hvl : vargs.length = e.args.length := by
  rw [← k2.length]
  have : ∀ (l : List Sh) (y : HL D.T (Sh.z8q l)), (z5c D (fun k => k) l y).length = l.length := fun l => by
   induction l with
   | nil => intro y; rfl
   | cons s l ih => intro y; show (zlb D (fun k => k) s (HL.fst _ y) :: z5c D (fun k => k) l (HL.snd _ y)).length = _; rw [List.length_cons, ih, List.length_cons]
  exact this _ _
 refine ytc hf hb hnt hent fun lv E => ?_
 let F : Fr := ⟨lv + 1, E, E, [], fun i => False, []⟩
 have hnob : ∀ s (o : TO D.T), fnd (zaj D (fun k => k) e.aos 0 (HL.snd _ x)) s = some o → False := fun s o ho => by
  obtain ⟨j, _, hlt, _⟩ := zr3 e.aos (zcu ho)
  rw [haos] at hlt; simp at hlt
 have k2' : VRL D [] (lv + 1) (z5c D (fun k => k) e.args (HL.fst _ x)) vargs := VRL.lvl k2
 have hR0 : TRr D F [] (entry D e.args e.aos nt x) ⟨vargs ++ List.replicate (nt - vargs.length) .any, ⟨lv + 1, [], E⟩, [], E⟩ := by
  refine ⟨by simp only [entry, haos]; rfl, by simp only [entry, List.length_append, List.length_replicate]; omega, zqz _ k2', fun s o ho => (hnob s o ho).elim, fun s s' o o' sl sl' i a1 => (hnob s o a1).elim, fun s o sl i a1 => (hnob s o a1).elim, rfl, rfl, rfl, rfl, fun i hi => hi.elim, fun j sl hj => by simp [F] at hj⟩
 refine yis ((hrun F _ r0 (by simp [F]) (yon hD (by simp [F]) hp2) x _ hR0.tr h1).mono fun ex σ hq => ?_)
 have key : ∀ ex, (ex = .normal ∨ ex = .ret) → (∃ x, pack x = r0 ∧ TR D F (l.bld D x) σ) → ∃ τ, zqp σ τ ∧ (∀ v, ex ≠ .panic v) ∧ Ends P fn lv E (zhx (canon D e.outs (HL.fst _ (un r0)))) ex τ := fun ex hex ⟨y, hy, τ, ρ', w1, w2⟩ => by
  subst hy
  obtain ⟨vs, q1, q2⟩ := zpp hD w2 (hout y)
  have hv := yr4 (yju hD (H := τ.H) (Dm := outer lv) houts q2)
  refine ⟨τ, w1, fun v e => by rcases hex with h | h <;> (rw [h] at e; cases e), ?_⟩
  rcases hex with rfl | rfl
  ·exact ⟨zhx vs, by simp only [zc3, q1, Option.map_some], w2.d, w2.E, hv⟩
  ·exact ⟨zhx vs, by simp only [zc3, q1, Option.map_some], w2.d, w2.E, hv⟩
 cases ex with
 | normal => exact key _ (.inl rfl) hq
 | ret => exact key _ (.inr rfl) hq
 | exit id => exact hq.elim
 | panic v => exact hq.elim
structure FI (D : Dat) where
 R : Type
 ent : Nat → Ent D
 c : AC
 K : Ks D.T R
 p : Nat
 args : List Sh
 aos : List OSh
 nt : Nat
 zjm : Nat → List (Nat × Lb D R)
 go : Nat → HL D.T (Sh.z8q args ++ z92 aos) → Option R
def ymf {α : Type} (φ : Nat → α → Prop) : List (Nat × α) → Prop
 | [] => True
 | p :: l => φ p.1 p.2 ∧ ymf φ l
theorem ymf.get {α : Type} {φ : Nat → α → Prop} : ∀ {l : List (Nat × α)} {j : Nat} {a : α}, ymf φ l → (j, a) ∈ l → φ j a
 | p :: l, j, a, h, hm => by
   rcases List.mem_cons.1 hm with hm | hm
   · subst hm; exact h.1
   · exact ymf.get h.2 hm
noncomputable def ymp (P : Program) (D : Dat) {R : Type} (tbl : List (Ent D)) (J : Nat → TS D.T → Option R) (l : Nat) (c : AC) (K : Ks D.T R) (ts : TS D.T) : Option R :=
 match AC.at P D tbl J l c K (fun _ => none) with
 | some g => g ts
 | none => none
structure FI.Good (P : Program) (D : Dat) (tbl : Nat → List (Ent D)) (f : FI D) : Prop where
 nodup : f.c.labels.Nodup
 zero : ∀ x, f.go 0 x = none
 lzero : ∀ l lb x, fnd (f.zjm 0) l = some lb → lb.go x = none
 pins : ∀ n l lb, fnd (f.zjm n) l = some lb → f.p ≤ lb.sh.pin ∧ lb.sh.pin ≤ lb.sh.os.length
 step : ∀ n x, f.go (n + 1) x = run P D (tbl n) (jump D (f.zjm n)) f.c (entry D f.args f.aos f.nt x) f.K
 lstep : ∀ n l lb x, fnd (f.zjm (n + 1)) l = some lb → lb.go x = ymp P D (tbl n) (jump D (f.zjm n)) l f.c f.K (lb.sh.bld D x)
 ok : ∀ n, Runs P D f.c.erase f.p f.args f.aos f.nt f.K (f.go n) → (f.ent n).Ok P
def FI.y1d (P : Program) (D : Dat) (f : FI D) (n : Nat) : Prop :=
 ∀ F Q r, F.pin.length ≤ f.p → KOk D F f.K Q r → ∀ l a Q', f.c.site P l Q = some (a, Q') → ∀ ts σ, TR D F ts σ → jump D (f.zjm n) l ts = some r → a.Claim P σ Q'
theorem FI.Good.zjm (hD : D.Ok P) {tbl : Nat → List (Ent D)} {f : FI D} (h : f.Good P D tbl) : ∀ n, (∀ m, m < n → ∀ e ∈ tbl m, e.Ok P) → f.y1d P D n
 | 0, _ => fun F Q r hp hK l a Q' hs ts σ hT hj => by
   unfold jump at hj
   split at hj
   · rename_i lb hlb
     obtain ⟨p1, p2⟩ := h.pins 0 l lb hlb
     obtain ⟨x, h1, _⟩ := LSh.zj9 hD (by omega) p2 hT hj
     rw [h.lzero l lb x hlb] at h1; cases h1
   · cases hj
 | n + 1, ht => fun F Q r hp hK l a Q' hs ts σ hT hj => by
   have ih := FI.Good.zjm hD h n fun m hm => ht m (by omega)
   unfold jump at hj
   split at hj
   · rename_i lb hlb
     obtain ⟨p1, p2⟩ := h.pins (n + 1) l lb hlb
     obtain ⟨x, h1, h2⟩ := LSh.zj9 hD (by omega) p2 hT hj
     rw [h.lstep n l lb x hlb] at h1
     unfold ymp at h1
     split at h1
     · rename_i g hg
       obtain ⟨a', Q'', e1, e2⟩ := zj0 hD (ht n (by omega)) hK (fun b _ ts σ _ hk => by cases hk) (zjs (P := P) (φ := LOk P D F (jump D (f.zjm n)) r) h.nodup fun l a Q' hs ts σ hT hj => ih F Q r hp hK l a Q' hs ts σ hT hj) hg
       rw [hs] at e1; injection e1 with e1; injection e1 with e1 e3; subst e1; subst e3
       exact e2 _ σ h2 h1
     · cases h1
   · cases hj
theorem FI.Good.runs (hD : D.Ok P) {tbl : Nat → List (Ent D)} {f : FI D} (h : f.Good P D tbl) : ∀ n, (∀ m, m < n → ∀ e ∈ tbl m, e.Ok P) → Runs P D f.c.erase f.p f.args f.aos f.nt f.K (f.go n)
 | 0, _ => fun F Q r hp hK x σ hT hg => by rw [h.zero] at hg; cases hg
 | n + 1, ht => fun F Q r hp hK x σ hT hg => by
   rw [h.step] at hg
   have ih := h.zjm hD n fun m hm => ht m (by omega)
   exact zap hD (ht n (by omega)) hK (zjs (P := P) (φ := LOk P D F (jump D (f.zjm n)) r) h.nodup fun l a Q' hs ts σ hT hj => ih F Q r hp hK l a Q' hs ts σ hT hj) hT hg
theorem ring (hD : D.Ok P) {fs : List (FI D)} {base : Nat → List (Ent D)} (hb : ∀ n, ∀ e ∈ base n, e.Ok P) (h : ∀ f ∈ fs, f.Good P D fun n => fs.map (·.ent n) ++ base n) : ∀ n, ∀ f ∈ fs, (f.ent n).Ok P := fun n => by
 induction n using Nat.strongRecOn with
 | ind n ih =>
   intro f hf
   refine (h f hf).ok n ((h f hf).runs hD n fun m hm e he => ?_)
   rcases List.mem_append.1 he with he | he
   · obtain ⟨g, hg, rfl⟩ := List.mem_map.1 he
     exact ih m hm g hg
   · exact hb m e he
end
end Go.Ab


namespace Go.Ab
open Go
set_option linter.unusedVariables false
set_option linter.unusedSectionVars false
section
variable {P : Program} {D : Dat} {R : Type}
def FI.of (D : Dat) (f nt p : Nat) (args : List Sh) (aos : List OSh) (outs : List Sh) (ros : List OSh) (pure : Bool) (l : LSh) {R : Type} (pack : HL D.T l.tys → R) (un : R → HL D.T (Sh.z8q outs ++ z92 ros))
  (go : Nat → HL D.T (Sh.z8q args ++ z92 aos) → Option R) (zjm : Nat → List (Nat × Lb D R)) (c : AC) : FI D :=
 { R := R, ent := fun n => { f := f, p := p, args := args, aos := aos, outs := outs, ros := ros, pan := .nilp, pos := ros, pure := pure, go := fun x k _ => (go n x).bind fun r => k (un r) },
   c := c, K := yjd D l pack, p := p, args := args, aos := aos, nt := nt, zjm := zjm, go := go }
def tb (l : List (FI D)) (n : Nat) : List (Ent D) := l.map (·.ent n)
def FOk (P : Program) (f : FI D) : Prop := ∀ n, (f.ent n).Ok P
def OkL (P : Program) : List (FI D) → Prop
 | [] => True
 | f :: l => FOk P f ∧ OkL P l
def yj9 (P : Program) (tbl : Nat → List (Ent D)) : List (FI D) → Prop
 | [] => True
 | f :: l => f.Good P D tbl ∧ yj9 P tbl l
theorem OkL.get : ∀ {l : List (FI D)} {f : FI D}, OkL P l → f ∈ l → FOk P f
 | g :: l, f, h, hm => by
   rcases List.mem_cons.1 hm with rfl | hm
   · exact h.1
   · exact OkL.get h.2 hm
theorem OkL.of : ∀ {l : List (FI D)}, (∀ f ∈ l, FOk P f) → OkL P l
 | [], h => trivial
 | f :: l, h => ⟨h f List.mem_cons_self, OkL.of fun g hg => h g (List.mem_cons_of_mem _ hg)⟩
theorem yj9.get {tbl : Nat → List (Ent D)} : ∀ {l : List (FI D)} {f : FI D}, yj9 P tbl l → f ∈ l → f.Good P D tbl
 | g :: l, f, h, hm => by
   rcases List.mem_cons.1 hm with rfl | hm
   · exact h.1
   · exact yj9.get h.2 hm
theorem z9e (hD : D.Ok P) {fs bs : List (FI D)} (hb : OkL P bs) (h : yj9 P (tb (fs ++ bs)) fs) : OkL P fs :=
 OkL.of fun f hf n => ring hD (base := fun n => bs.map (·.ent n)) (fun n e he => by
  obtain ⟨b, hm, rfl⟩ := List.mem_map.1 he
  exact hb.get hm n) (fun g hg => by
  have := h.get hg
  have e : (tb (fs ++ bs)) = fun n => fs.map (·.ent n) ++ bs.map (·.ent n) := by funext n; simp [tb]
  rw [e] at this
  exact this) n f hf
def chkB (p nt : Nat) (args outs : List Sh) (aos ros : List OSh) (pure : Bool) (l : LSh) (c : AC) : Bool :=
 Nat.ble args.length nt && Nat.ble p l.pin && Nat.ble l.pin l.os.length &&
 (match pure with
  | true => aos.isEmpty && ros.isEmpty && ylz outs
  | false => Nat.beq l.os.length ros.length)
def yoj (p : Nat) : List (Nat × Lb D R) → Bool
 | [] => true
 | (_, lb) :: r => Nat.ble p lb.sh.pin && Nat.ble lb.sh.pin lb.sh.os.length && yoj p r
theorem ydt {p : Nat} : ∀ {l : List (Nat × Lb D R)}, yoj p l = true → ymf (fun _ lb => p ≤ lb.sh.pin ∧ lb.sh.pin ≤ lb.sh.os.length) l
 | [], h => trivial
 | (_, lb) :: r, h => by
   simp only [yoj, Bool.and_eq_true, Nat.ble_eq] at h
   exact ⟨h.1, ydt h.2⟩
theorem FI.zz4 {hD : D.Ok P} {f nt p : Nat} {args : List Sh} {aos : List OSh} {outs : List Sh} {ros : List OSh} {pure : Bool} {l : LSh} {pack : HL D.T l.tys → R} {un : R → HL D.T (Sh.z8q outs ++ z92 ros)}
  {go : Nat → HL D.T (Sh.z8q args ++ z92 aos) → Option R} {zjm : Nat → List (Nat × Lb D R)} {c : AC} {tbl : Nat → List (Ent D)} {fn : Func}
  (hf : P.funcs[f]? = some fn) (hnt : fn.ntmps = nt) (hent : ∀ args w, (callFunc f args).run P w = .ok (.enter f args) w)
  (hb : fn.body = some c.erase) (hnd : c.labels.Nodup) (hchk : chkB p nt args outs aos ros pure l c = true) (hp : ∀ n, yoj p (zjm n) = true)
  (hout : ∀ x, yfc P D (l.bld D x) fn.results.toList = some (z5c D (fun k => k) outs (HL.fst _ (un (pack x)))))
  (hz : ∀ x, go 0 x = none) (hlz : ymf (fun _ lb => ∀ x, lb.go x = none) (zjm 0))
  (hs : ∀ n x, go (n + 1) x = run P D (tbl n) (jump D (zjm n)) c (entry D args aos nt x) (yjd D l pack))
  (hls : ∀ n, ymf (fun j lb => ∀ x, lb.go x = ymp P D (tbl n) (jump D (zjm n)) j c (yjd D l pack) (lb.sh.bld D x)) (zjm (n + 1)))
  (hros : ∀ x, pure = true ∨ (l.bld D x).o = zaj D (fun k => k) ros 0 (HL.snd _ (un (pack x)))) :
  (FI.of D f nt p args aos outs ros pure l pack un go zjm c).Good P D tbl where
 nodup := hnd
 zero := hz
 lzero := fun j lb x h => hlz.get (zcu h) x
 pins := fun n j lb h => (ydt (hp n)).get (zcu h)
 step := hs
 lstep := fun n j lb x h => (hls n).get (zcu h) x
 ok := fun n h => by
  simp only [chkB, Bool.and_eq_true, Nat.ble_eq] at hchk
  obtain ⟨⟨⟨h1, h2⟩, h3⟩, h4⟩ := hchk
  cases pure with
  | true =>
    simp only [Bool.and_eq_true, List.isEmpty_iff] at h4
    obtain ⟨⟨rfl, rfl⟩, h6⟩ := h4
    exact yte (l := l) (pack := pack) (un := un) (go := go n) (code := c.erase) hD hf hb hnt hent h1 (fun _ _ _ _ => rfl) rfl rfl rfl rfl h6 h3 hout h
  | false =>
    exact ytp (l := l) (pack := pack) (un := un) (go := go n) (code := c.erase) hD hf hb hnt hent h1 (fun _ _ _ _ => rfl) rfl rfl h2 h3 (Nat.eq_of_beq_eq_true h4) (fun x => ⟨hout x, (hros x).resolve_left (by simp)⟩) h
end
end Go.Ab


namespace Go.Ab
open Go
set_option linter.unusedVariables false
set_option linter.unusedSimpArgs false
set_option linter.unusedSectionVars false
section
variable {P : Program} {D : Dat} {F : Fr} {ρ : List Slot} {ts : TS D.T} {σ : St} {lv : Nat} {R X : Type}
def yp0 (lv : Nat) (L : List (Option zz7)) (E : Nat → Nat → Option zz7) (ρ0 : List Slot) (p : Nat) : Fr :=
 ⟨lv, E, E, L, fun i => i < L.length ∧ ∀ (k : Nat) (sl0 : Slot), ρ0[k]? = some sl0 → sl0.k ≠ some i, ρ0.take p⟩
theorem y04 : ∀ (l : List Sh) (y : HL D.T (Sh.z8q l)), (z5c D (fun k => k) l y).length = l.length
 | [], _ => rfl
 | s :: l, y => by
   show (zlb D (fun k => k) s (HL.fst _ y) :: z5c D (fun k => k) l (HL.snd _ y)).length = _
   rw [List.length_cons, y04 l, List.length_cons]
structure yqu (D : Dat) (lv : Nat) (L : List (Option zz7)) (ρ0 : List Slot) (args : List Sh) (aos : List OSh) (x : HL D.T (Sh.z8q args ++ z92 aos)) (vargs : List V) : Prop where
 len : ρ0.length = aos.length
 args : VRL D ρ0 lv (z5c D (fun k => k) args (HL.fst _ x)) vargs
 ob : ∀ j o, (j, o) ∈ zaj D (fun k => k) aos 0 (HL.snd _ x) → ∃ sl, ρ0[j]? = some sl ∧ OR D ρ0 lv L sl o
 inj : ∀ (s s' : Nat) (sl sl' : Slot) (i : Nat), ρ0[s]? = some sl → ρ0[s']? = some sl' → sl.k = some i → sl'.k = some i → s = s'
theorem yqu.entry {L : List (Option zz7)} {E : Nat → Nat → Option zz7} {ρ0 : List Slot} {args : List Sh} {aos : List OSh} {x : HL D.T (Sh.z8q args ++ z92 aos)} {vargs : List V} (h : yqu D lv L ρ0 args aos x vargs) (p : Nat) {nt : Nat} (hargs : args.length ≤ nt) :
  TRr D (yp0 lv L E ρ0 p) ρ0 (entry D args aos nt x) ⟨vargs ++ List.replicate (nt - vargs.length) .any, ⟨lv, L, E⟩, [], E⟩ := by
 have hvl : vargs.length = args.length := by rw [← h.args.length]; exact y04 _ _
 refine ⟨h.len, by simp only [Ab.entry, List.length_append, List.length_replicate]; omega, zqz _ h.args, fun s o ho => h.ob s o (zcu ho), fun s s' o o' sl sl' i a1 a2 l1 l2 r1 r2 => h.inj s s' sl sl' i r1 r2, fun s o sl i a1 l1 r1 hk ho => ho.2 s sl r1 hk, rfl, rfl, rfl, rfl, fun i hi => ⟨hi.1, rfl⟩, fun j sl hj => ?_⟩
 simp only [yp0, List.getElem?_take] at hj
 split at hj
 ·exact hj
 ·cases hj
def yux (D : Dat) (lv : Nat) : (m : Option Sh) → HL D.T (yor m) → zvu → Prop
 | none, _, am => am = .ret
 | some s, x, am => ∃ v, am = .pan v false ∧ VR D [] lv (zlb D (fun k => k) s x) v
def yqn.Ok (P : Program) (de : yqn D) : Prop := ∀ x mx y, de.go x mx = some y → ∀ (lv : Nat) (L : List (Option zz7)) (E : Nat → Nat → Option zz7) (ρ0 : List Slot) (vargs : List V), yqu D lv L ρ0 de.args de.aos x vargs →
 ∀ (am : zvu), yux D lv de.m mx am → ∀ (W : World) (g : Gh) (cargs : Array Value) (u : FrameMode), Good W g ⟨lv, L, E⟩ → zpn W g ⟨lv, L, E⟩ vargs cargs → ynm W g ⟨lv, L, E⟩ am u →
  (∀ w, (callFunc de.f cargs).run P w = .ok (.enter de.f cargs) w) ∧ CallsD P de.f cargs u W (fun e u' W' => ∃ v L' g' ρ', e = .returned v ∧ Step W g ⟨lv, L, E⟩ W' g' ⟨lv, L', E⟩ ∧ Good W' g' ⟨lv, L', E⟩ ∧ settle u' = .returning ∧ Left D lv L ρ0 de.aos.length L' ρ' de.ros y)
def yoc (P : Program) : List (yqn D) → Prop
 | [] => True
 | d :: l => d.Ok P ∧ yoc P l
theorem yoc.get : ∀ {l : List (yqn D)}, yoc P l → ∀ d ∈ l, d.Ok P
 | d :: l, h, e, he => by
   rcases List.mem_cons.1 he with rfl | he
   · exact h.1
   · exact yoc.get h.2 e he
end
theorem yz7 {P : Program} {D : Dat} (hD : D.Ok P) {f : FI D} {bs : List (FI D)} (hb : OkL P bs) (h : f.Good P D (tb bs)) : OkL P [f] :=
 ⟨fun n => h.ok n (h.runs hD n fun m _ e he => by
  obtain ⟨b, hm, rfl⟩ := List.mem_map.1 he
  exact hb.get hm m), trivial⟩
end Go.Ab


namespace Go.Ab
open Go
set_option linter.unusedVariables false
theorem ylx {α : Type} (l : List α) (k : Nat) : ix l (k : Int) = l[k]? := by simp [ix]
theorem wrk {k : Nat} (h : k ≤ 4611686018427387904) : IntKind.i64.wrap ((k : Int) + 1) = ((k + 1 : Nat) : Int) := by rw [wr1 h]; rfl
theorem kz5 {α : Type} {l : List α} {k : Nat} (h : k < l.length) : ix l (k : Int) = some l[k] := by rw [ylx, List.getElem?_eq_getElem h]
noncomputable def eqB {α : Type} (a b : α) : Bool := @decide (a = b) (Classical.propDecidable _)
theorem z8d {α : Type} {a b : α} : eqB a b = true ↔ a = b := @decide_eq_true_iff _ (Classical.propDecidable _)
theorem yzm {α : Type} {a b : α} : eqB a b = false ↔ a ≠ b := @decide_eq_false_iff_not _ (Classical.propDecidable _)
@[simp] theorem z9w {α : Type} (a : α) : eqB a a = true := z8d.2 rfl
theorem down {len : Nat} {Q : Nat → Prop} (h0 : Q len) (hs : ∀ k, k < len → Q (k + 1) → Q k) : ∀ k, k ≤ len → Q k := by
 intro k hk
 obtain ⟨m, rfl⟩ : ∃ m, k = len - m := ⟨len - k, by omega⟩
 induction m with
 | zero => exact h0
 | succ m ih =>
   by_cases h : m < len
   · refine hs _ (by omega) ?_
     rw [show len - (m + 1) + 1 = len - m by omega]
     exact ih (by omega)
   · rw [show len - (m + 1) = len - m by omega]; exact ih (by omega)
end Go.Ab


namespace Go.Ab
open Go
set_option linter.unusedVariables false
set_option linter.unusedSimpArgs false
def Ev {α : Type} (f : Nat → Option α) (r : α) : Prop := ∃ n, ∀ m, n ≤ m → f m = some r
section
variable {α β : Type} {r : α}
theorem Ev.get {f : Nat → Option α} (h : Ev f r) : ∃ n, f n = some r := by obtain ⟨n, hn⟩ := h; exact ⟨n, hn n (Nat.le_refl _)⟩
theorem Ev.succ {f g : Nat → Option α} (h : ∀ n, f (n + 1) = g n) (hg : Ev g r) : Ev f r := by
 obtain ⟨n, hn⟩ := hg
 refine ⟨n + 1, fun m hm => ?_⟩
 obtain ⟨q, rfl⟩ : ∃ q, m = q + 1 := ⟨m - 1, by omega⟩
 rw [h]; exact hn q (by omega)
theorem Ev.same {f g : Nat → Option α} (h : ∀ n, f n = g n) (hg : Ev g r) : Ev f r := by
 obtain ⟨n, hn⟩ := hg
 exact ⟨n, fun m hm => by rw [h]; exact hn m hm⟩
theorem Ev.pure {o : Option α} (h : o = some r) : Ev (fun _ => o) r := ⟨0, fun _ _ => h⟩
theorem Ev.bind {a : Nat → Option β} {k : Nat → β → Option α} {y : β} (ha : Ev a y) (hk : Ev (fun n => k n y) r) : Ev (fun n => (a n).bind (k n)) r := by
 obtain ⟨n, hn⟩ := ha
 obtain ⟨q, hq⟩ := hk
 exact ⟨max n q, fun m hm => by show (a m).bind (k m) = _; rw [hn m (by omega)]; exact hq m (by omega)⟩
theorem Ev.t {c : Bool} {a b : Nat → Option α} (hc : c = true) (ha : Ev a r) : Ev (fun n => if c = true then a n else b n) r := by subst hc; exact ha
theorem Ev.f {c : Bool} {a b : Nat → Option α} (hc : c = false) (ha : Ev b r) : Ev (fun n => if c = true then a n else b n) r := by subst hc; exact ha
theorem Ev.cond {c : Bool} {a b : Nat → Option α} (ht : c = true → Ev a r) (hf : c = false → Ev b r) : Ev (fun n => if c = true then a n else b n) r := by
 cases c
 ·exact hf rfl
 ·exact ht rfl
theorem Ev.to {f : Nat → Option α} {r' : α} (h : Ev f r') (e : r' = r) : Ev f r := e ▸ h
end
section
variable {α β γ : Type} {xs : List α}
end
end Go.Ab


namespace Go.Ab
open Go
set_option linter.unusedVariables false
set_option linter.unusedSimpArgs false
section
variable {α β : Type} {r : α}
theorem Ev.zgz {f g : Nat → Option α} (h : ∀ n, f (n + 1) = g n) : Ev f r ↔ Ev g r :=
 ⟨fun ⟨n, hn⟩ => ⟨n, fun m hm => by rw [← h]; exact hn _ (by omega)⟩, Ev.succ h⟩
theorem evS (f : Nat → Option α) (r : α) {g : Nat → Option α} (h : ∀ n, f (n + 1) = g n) : Ev f r ↔ Ev g r := Ev.zgz h
theorem Ev.kz0 {a : Nat → Option β} {k : Nat → β → Option α} {y : β} (ha : Ev a y) : Ev (fun n => (a n).bind (k n)) r ↔ Ev (fun n => k n y) r :=
 ⟨fun h => by
  obtain ⟨n, hn⟩ := h; obtain ⟨q, hq⟩ := ha
  refine ⟨max n q, fun m hm => ?_⟩
  have := hn m (by omega)
  simp only [hq m (by omega)] at this
  exact this, Ev.bind ha⟩
theorem Ev.kz2 {o : Option β} {k : Nat → β → Option α} {y : β} (ho : o = some y) : Ev (fun n => o.bind (k n)) r ↔ Ev (fun n => k n y) r := by subst ho; exact Iff.rfl
theorem Ev.kz1 {a b : Nat → Option α} {c : Bool} (hc : c = true) : Ev (fun n => pIf c (a n) (b n)) r ↔ Ev a r := by subst hc; exact Iff.rfl
theorem Ev.zz2 {a b : Nat → Option α} {c : Bool} (hc : c = false) : Ev (fun n => pIf c (a n) (b n)) r ↔ Ev b r := by subst hc; exact Iff.rfl
theorem Ev.pif {a b : Nat → Option α} {c : Bool} : Ev (fun n => pIf c (a n) (b n)) r ↔ if c = true then Ev a r else Ev b r := by cases c <;> exact Iff.rfl
theorem Ev.zz0 {x : α} : Ev (fun _ => some x) r ↔ x = r := ⟨fun ⟨n, h⟩ => by have := h n (Nat.le_refl _); injection this, fun h => ⟨0, fun _ _ => by rw [h]⟩⟩
end
theorem wI {x : Int} (h : -9223372036854775808 ≤ x ∧ x ≤ 9223372036854775807) : IntKind.i64.wrap x = x := IntWalk.i64_in _ h
theorem wU {x : Int} (h : 0 ≤ x ∧ x ≤ 18446744073709551615) : IntKind.u64.wrap x = x := IntWalk.u64_in _ h
theorem wUn {x : Int} (h : -18446744073709551616 ≤ x ∧ x < 0) : IntKind.u64.wrap x = x + 18446744073709551616 := by
 unfold IntKind.wrap
 simp only [IntKind.bits, IntKind.signed, Bool.false_and, Bool.false_eq_true, if_false]
 omega
theorem y2t {a b : Nat} : mxI (a : Int) (b : Int) = ((max a b : Nat) : Int) := by unfold mxI; split <;> omega
end Go.Ab


namespace Go.Ab
open Go
set_option linter.unusedVariables false
set_option linter.unusedSimpArgs false
section
variable {α σ γ : Type}
theorem zak {L : Nat → Int → Option γ} {xs : List α} {p : α → Bool} {fail r : γ}
  (he : Ev (fun n => L n (xs.length : Int)) r)
  (hs : ∀ k (h : k < xs.length) v, Ev (fun n => L n ((k + 1 : Nat) : Int)) v → Ev (fun n => L n (k : Int)) (if p xs[k] = true then v else fail)) :
  Ev (fun n => L n 0) (if xs.all p = true then r else fail) := by
 have : ∀ k, k ≤ xs.length → Ev (fun n => L n (k : Int)) (if (xs.drop k).all p = true then r else fail) :=
  down (by simpa using he) fun k hk ih => by
   have h := hs k hk _ ih
   rw [← List.getElem_cons_drop (h := hk), List.all_cons]
   by_cases hp : p xs[k] = true
   ·rw [if_pos hp] at h; simpa [hp] using h
   ·rw [if_neg hp] at h
    have hp' : p xs[k] = false := by simpa using hp
    simpa [hp'] using h
 simpa using this 0 (Nat.zero_le _)
theorem zmq {L : Nat → Int → Option γ} {xs : List α} {p : α → Bool} {got r : γ}
  (he : Ev (fun n => L n (xs.length : Int)) r)
  (hs : ∀ k (h : k < xs.length) v, Ev (fun n => L n ((k + 1 : Nat) : Int)) v → Ev (fun n => L n (k : Int)) (if p xs[k] = true then got else v)) :
  Ev (fun n => L n 0) (if xs.any p = true then got else r) := by
 have : ∀ k, k ≤ xs.length → Ev (fun n => L n (k : Int)) (if (xs.drop k).any p = true then got else r) :=
  down (by simpa using he) fun k hk ih => by
   have h := hs k hk _ ih
   rw [← List.getElem_cons_drop (h := hk), List.any_cons]
   by_cases hp : p xs[k] = true
   ·rw [if_pos hp] at h; simpa [hp] using h
   ·rw [if_neg hp] at h
    have hp' : p xs[k] = false := by simpa using hp
    simpa [hp'] using h
 simpa using this 0 (Nat.zero_le _)
theorem zpe {L : Nat → Int → Option γ} {len : Nat}
  (he : ∃ v, Ev (fun n => L n (len : Int)) v)
  (hs : ∀ k, k < len → ∀ v, Ev (fun n => L n ((k + 1 : Nat) : Int)) v → ∃ w, Ev (fun n => L n (k : Int)) w) :
  ∃ v, Ev (fun n => L n 0) v := by
 have : ∀ k, k ≤ len → ∃ v, Ev (fun n => L n (k : Int)) v := down he fun k hk ⟨v, ih⟩ => hs k hk v ih
 simpa using this 0 (Nat.zero_le _)
theorem zq5 {L : Nat → Int → Option γ} {xs ys : List α} {fail r : γ} (hlen : xs.length = ys.length)
  (he : Ev (fun n => L n (xs.length : Int)) r)
  (hs : ∀ k (h : k < xs.length) (h' : k < ys.length) v, Ev (fun n => L n ((k + 1 : Nat) : Int)) v → Ev (fun n => L n (k : Int)) (if eqB xs[k] ys[k] = true then v else fail)) :
  Ev (fun n => L n 0) (if eqB xs ys = true then r else fail) := by
 have : ∀ k, k ≤ xs.length → Ev (fun n => L n (k : Int)) (if eqB (xs.drop k) (ys.drop k) = true then r else fail) :=
  down (by rw [List.drop_length, hlen, List.drop_length]; simpa [hlen] using he) fun k hk ih => by
   have hk' : k < ys.length := by omega
   have h := hs k hk hk' _ ih
   rw [← List.getElem_cons_drop (h := hk), ← List.getElem_cons_drop (h := hk')]
   by_cases hp : xs[k] = ys[k]
   ·rw [hp, z9w, if_pos rfl] at h
    rw [hp]
    have e : eqB (ys[k] :: xs.drop (k + 1)) (ys[k] :: ys.drop (k + 1)) = eqB (xs.drop (k + 1)) (ys.drop (k + 1)) := by
     by_cases q : xs.drop (k + 1) = ys.drop (k + 1)
     ·rw [q, z9w, z9w]
     ·rw [yzm.2 q, yzm.2 (fun h => q (by injection h))]
    rw [e]; exact h
   ·rw [yzm.2 hp] at h
    rw [yzm.2 (by intro q; injection q with q1 q2; exact hp q1)]
    exact h
 simpa using this 0 (Nat.zero_le _)
theorem zvw {L : Nat → Int → σ → Option γ} {xs : List α} {f : σ → α → σ} {I : Nat → σ → Prop} {v : γ} {s0 : σ} (h0 : I 0 s0)
  (he : I xs.length (xs.foldl f s0) → Ev (fun n => L n (xs.length : Int) (xs.foldl f s0)) v)
  (hs : ∀ k (h : k < xs.length) s, I k s → I (k + 1) (f s xs[k]) ∧ (Ev (fun n => L n ((k + 1 : Nat) : Int) (f s xs[k])) v → Ev (fun n => L n (k : Int) s) v)) :
  Ev (fun n => L n 0 s0) v := by
 have : ∀ m k, k + m = xs.length → ∀ s, I k s → (xs.drop k).foldl f s = xs.foldl f s0 → Ev (fun n => L n (k : Int) s) v := fun m => by
  induction m with
  | zero =>
    intro k hk s hi hf
    have hkl : k = xs.length := by omega
    subst hkl
    rw [List.drop_length] at hf
    simp only [List.foldl_nil] at hf
    rw [hf]; exact he (hf ▸ hi)
  | succ m ih =>
    intro k hk s hi hf
    have hlt : k < xs.length := by omega
    obtain ⟨h1, h2⟩ := hs k hlt s hi
    refine h2 (ih (k + 1) (by omega) _ h1 ?_)
    rw [← List.getElem_cons_drop (h := hlt)] at hf
    exact hf
 simpa using this xs.length 0 (by omega) s0 h0 (by simp)
end
end Go.Ab


namespace Go.Ab
open Go
set_option linter.unusedVariables false
set_option linter.unusedSimpArgs false
def isLet (c : UInt8) : Bool := decide (97 ≤ c.toNat) && decide (c.toNat ≤ 122)
def ydx (c : UInt8) : Bool := decide (48 ≤ c.toNat) && decide (c.toNat ≤ 57)
def zfc (c : UInt8) : Bool := isLet c || c == 45 || ydx c
def zje (s : List UInt8) : Bool := match s with
 | [] => false
 | c :: t => isLet c && t.all zfc && decide (s.length ≤ 40)
def parts (b : UInt8) : List UInt8 → List (List UInt8)
 | [] => [[]]
 | c :: t => if c == b then [] :: parts b t else match parts b t with
   | h :: r => (c :: h) :: r
   | [] => [[c]]
def steps (s : List UInt8) : List (List UInt8) := if s == [] then [] else parts 47 s
end Go.Ab


namespace Go.Ab
open Go
set_option linter.unusedVariables false
set_option linter.unusedSimpArgs false
theorem yse {s : List UInt8} {k : Nat} (h : k < s.length) (ha : s[k].toNat < 128) : zjy s k = (s[k].toNat, 1) := by
 have h' : k < (ByteArray.mk s.toArray).size := by simpa [ByteArray.size] using h
 have e : (ByteArray.mk s.toArray)[k] = s[k] := rfl
 have := decode_ascii ⟨s.toArray⟩ k h' (by rw [e]; exact ha)
 rw [e] at this
 exact this
theorem yp7 {s : List UInt8} {k : Nat} (h : k < s.length) (ha : 128 ≤ s[k].toNat) : 128 ≤ (zjy s k).1 ∧ 1 ≤ (zjy s k).2 := by
 have h' : k < (ByteArray.mk s.toArray).size := by simpa [ByteArray.size] using h
 have e : (ByteArray.mk s.toArray)[k] = s[k] := rfl
 exact decode_high ⟨s.toArray⟩ k h' (by rw [e]; exact ha)
end Go.Ab

