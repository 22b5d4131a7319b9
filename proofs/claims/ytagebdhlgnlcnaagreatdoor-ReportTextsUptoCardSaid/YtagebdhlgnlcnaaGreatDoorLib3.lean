/-
  REGIONS THAT DRAW THEIR ORDER: quiet operations and single effects, any two of which either stand in an order or commute.
-/
import Derived.Test.YtagebdhlgnlcnaaGreatDoorLib2
import Derived.Recover
namespace Go.Ab
open Go
set_option linter.unusedSimpArgs false
set_option linter.unusedVariables false
section
variable {P : Program} {ops : Array Oper} {md : Region.Mode}
structure Info where
 eff : Bool
 K : Nat → Prop
 W : Nat → Prop
 call : Bool := false
def Same (K : Nat → Prop) (H H' : Heap) : Prop := ∀ i, K i → H'.L[i]? = H.L[i]?
theorem Same.refl (K : Nat → Prop) (H : Heap) : Same K H H := fun _ _ => rfl
theorem Same.trans {K : Nat → Prop} {A B C : Heap} (h : Same K A B) (k : Same K B C) : Same K A C := fun i hi => (k i hi).trans (h i hi)
theorem Same.symm {K : Nat → Prop} {A B : Heap} (h : Same K A B) : Same K B A := fun i hi => (h i hi).symm
def effB (op : Op) : Bool := match op with
 | .alloc _ | .box _ _ | .store _ _ _ => true
 | .call c => (match c.callee with
   | .builtin .append => true
   | .builtin .unsafeString => true
   | _ => false)
 | _ => false
theorem hMore_congr {H : Heap} {ρ ρ' : Operand → V} {o : Op} (h : ∀ x ∈ o.operands, ρ x = ρ' x) : hMore P H ρ o = hMore P H ρ' o := by
 cases o
 case makeSlice t n c => simp only [hMore, h n (by simp [Op.operands]), h c (by simp [Op.operands])]
 case convert s d x => simp only [hMore, h x (by simp [Op.operands])]
 case binOp op t x y _ => simp only [hMore, h x (by simp [Op.operands]), h y (by simp [Op.operands])]
 case call c =>
  simp only [hMore]
  split
  ·split
   ·rename_i x ha
    rw [h x (by simp [Op.operands, Call.operands]; right; rw [← Array.mem_toList_iff, ha]; simp)]
   ·rfl
  ·split
   ·rename_i p n pt it ha ht
    rw [h p (by simp [Op.operands, Call.operands]; right; rw [← Array.mem_toList_iff, ha]; simp), h n (by simp [Op.operands, Call.operands]; right; rw [← Array.mem_toList_iff, ha]; simp)]
   ·rfl
  ·rfl
 all_goals rfl
def QP (P : Program) (H : Heap) (ρ : Operand → V) (o : Oper) (v : V) : Prop := pv P H ρ o.op = some v ∨ (∃ c f args, o.op = .call c ∧ target ρ c = some (f, args) ∧ HCall P f args H v H) ∨ hMore P H ρ o.op = some (v, H) ∨ (∃ t n c, o.op = .makeSlice t n c ∧ pMakeData P t (ρ n) (ρ c) = some v) ∨ ∃ c s x t u, o.op = .call c ∧ c.callee = .builtin .append ∧ c.args.toList = [s, x] ∧ c.argTypes.toList = [t, u] ∧ pAppData P t u (ρ s) (ρ x) = some v
theorem QP_congr {H : Heap} {ρ ρ' : Operand → V} {o : Oper} {v : V} (h : ∀ x ∈ o.op.operands, ρ x = ρ' x) (hq : QP P H ρ o v) : QP P H ρ' o v := by
 rcases hq with hq | ⟨c, f, args, h1, h2, h3⟩ | hq | ⟨t, n, c, h1, h2⟩ | ⟨c, s, x, t, u, h1, h2, h3, h4, h5⟩
 ·exact .inl (by rw [← pv_congr h]; exact hq)
 ·exact .inr (.inl ⟨c, f, args, h1, by rw [← target_congr (ρ := ρ) (fun x hx => h x (by rw [h1]; exact hx))]; exact h2, h3⟩)
 ·exact .inr (.inr (.inl (by rw [← hMore_congr h]; exact hq)))
 ·exact .inr (.inr (.inr (.inl ⟨t, n, c, h1, by rw [← h n (by rw [h1]; simp [Op.operands]), ← h c (by rw [h1]; simp [Op.operands])]; exact h2⟩)))
 ·exact .inr (.inr (.inr (.inr ⟨c, s, x, t, u, h1, h2, h3, h4, by
   rw [← h s (by rw [h1]; simp [Op.operands, Call.operands]; right; rw [← Array.mem_toList_iff, h3]; simp), ← h x (by rw [h1]; simp [Op.operands, Call.operands]; right; rw [← Array.mem_toList_iff, h3]; simp)]; exact h5⟩)))
def Eff2 (P : Program) (H : Heap) (ρ : Operand → V) (op : Op) (v : V) (H' : Heap) : Prop := ox P H ρ op = some (v, H') ∨ hMore P H ρ op = some (v, H')
theorem ox_congr {H : Heap} {ρ ρ' : Operand → V} {o : Op} (he : effB o = true) (h : ∀ x ∈ o.operands, ρ x = ρ' x) : ox P H ρ o = ox P H ρ' o := by
 cases o
 case alloc t => rfl
 case box t x => simp only [ox, h x (by simp [Op.operands])]
 case store t a x => simp only [ox, h x (by simp [Op.operands]), h a (by simp [Op.operands])]
 case call c =>
  simp only [effB] at he
  split at he
  ·rename_i hc
   simp only [ox, hc]
   split
   ·rename_i s x t u ha ht
    rw [h s (by simp [Op.operands, Call.operands]; right; rw [← Array.mem_toList_iff, ha]; simp), h x (by simp [Op.operands, Call.operands]; right; rw [← Array.mem_toList_iff, ha]; simp)]
   ·rfl
  ·rename_i hc
   simp only [ox, hc, pv, pBuiltin]
  ·cases he
 all_goals cases he
theorem eff2_congr {H H' : Heap} {ρ ρ' : Operand → V} {o : Op} {v : V} (he : effB o = true) (h : ∀ x ∈ o.operands, ρ x = ρ' x) (hx : Eff2 P H ρ o v H') : Eff2 P H ρ' o v H' :=
 hx.imp (fun q => by rw [← ox_congr he h]; exact q) (fun q => by rw [← hMore_congr h]; exact q)
def MV (P : Program) (ops : Array Oper) (S : Heap → Prop) (c : Info) (σ : St) (o : Oper) (v : V) (H' : Heap) : Prop :=
 (wantedV ops σ o = some false ∧ v = .tup [] ∧ H' = σ.H) ∨
 (wantedV ops σ o = some true ∧ S σ.H ∧
  ((c.eff = false ∧ H' = σ.H ∧ ∀ H'', S H'' → Same c.K σ.H H'' → QP P H'' σ.ev o v) ∨
   (c.eff = true ∧ effB o.op = true ∧ Eff2 P σ.H σ.ev o.op v H' ∧ S H' ∧ ∀ i, ¬ c.W i → H'.L[i]? = σ.H.L[i]?)))
def moved (σ : St) (o : Oper) (v : V) (H' : Heap) : St := ({ σ with H := H' } : St).put o.dst v
theorem moved_ev {σ : St} {o : Oper} {v : V} {H' : Heap} {x : Operand} (h : ∀ d, o.dst = some d → x ≠ .tmp d) : (moved σ o v H').ev x = σ.ev x :=
 (ev_put (σ := { σ with H := H' }) h).trans (by cases x <;> rfl)
theorem moved_H {σ : St} {o : Oper} {v : V} {H' : Heap} : (moved σ o v H').H = H' := put_H
theorem moved_wanted {σ : St} {o oj : Oper} {v : V} {H' : Heap} (h : ∀ d, o.dst = some d → d ∉ oj.looksAt ops) : wantedV ops (moved σ o v H') oj = wantedV ops σ oj :=
 (wantedV_put (σ := { σ with H := H' }) h).trans rfl
theorem moved_comm {σ : St} {oi oj : Oper} {v u : V} {A B C : Heap} (h : ∀ d, oi.dst = some d → oj.dst ≠ some d) : moved (moved σ oi v A) oj u C = moved (moved σ oj u B) oi v C := by
 have e1 : ∀ (o : Oper) (w : V) (H : Heap), ({ moved σ o w H with H := C } : St) = ({ σ with H := C } : St).put o.dst w := fun o w H => by unfold moved; cases o.dst <;> rfl
 unfold moved at e1 ⊢
 rw [e1, e1]
 exact put_comm v u h
theorem mv_comm {S : Heap → Prop} {ci cj : Info} {oi oj : Oper} (hap : oi.apart ops oj = true) (hee : ¬ (ci.eff = true ∧ cj.eff = true)) (hij : ci.eff = false → cj.eff = true → ∀ x, ci.K x → ¬ cj.W x) (hji : cj.eff = false → ci.eff = true → ∀ x, cj.K x → ¬ ci.W x)
  {σ : St} {v u : V} {H1 H2 : Heap} (h1 : MV P ops S ci σ oi v H1) (h2 : MV P ops S cj (moved σ oi v H1) oj u H2) :
  ∃ H1', MV P ops S cj σ oj u H1' ∧ MV P ops S ci (moved σ oj u H1') oi v H2 := by
 obtain ⟨a1, a2, a3⟩ := Oper.apart_spec hap
 have evj : ∀ {w : V} {H : Heap}, ∀ x ∈ oj.op.operands, (moved σ oi w H).ev x = σ.ev x := fun {w H} x hx => moved_ev fun d hd => looks_operands (a1 d hd) x hx
 have evi : ∀ {w : V} {H : Heap}, ∀ x ∈ oi.op.operands, (moved σ oj w H).ev x = σ.ev x := fun {w H} x hx => moved_ev fun d hd => looks_operands (a3 d hd) x hx
 have wj : ∀ {w : V} {H : Heap}, wantedV ops (moved σ oi w H) oj = wantedV ops σ oj := moved_wanted a1
 have wi : ∀ {w : V} {H : Heap}, wantedV ops (moved σ oj w H) oi = wantedV ops σ oi := moved_wanted a3
 unfold MV at h1 h2 ⊢
 rw [wj, moved_H] at h2
 simp only [wi, moved_H]
 rcases h1 with ⟨b1, rfl, rfl⟩ | ⟨b1, bs, ⟨b2, rfl, b3⟩ | ⟨b2, b3, b4, b5, b6⟩⟩
 ·rcases h2 with ⟨d1, rfl, rfl⟩ | ⟨d1, ds, ⟨d2, rfl, d3⟩ | ⟨d2, d3, d4, d5, d6⟩⟩
  ·exact ⟨σ.H, .inl ⟨d1, rfl, rfl⟩, .inl ⟨b1, rfl, rfl⟩⟩
  ·exact ⟨σ.H, .inr ⟨d1, ds, .inl ⟨d2, rfl, fun H'' k1 k2 => QP_congr evj (d3 H'' k1 k2)⟩⟩, .inl ⟨b1, rfl, rfl⟩⟩
  ·exact ⟨H2, .inr ⟨d1, ds, .inr ⟨d2, d3, eff2_congr d3 evj d4, d5, d6⟩⟩, .inl ⟨b1, rfl, rfl⟩⟩
 ·rcases h2 with ⟨d1, rfl, rfl⟩ | ⟨d1, ds, ⟨d2, rfl, d3⟩ | ⟨d2, d3, d4, d5, d6⟩⟩
  ·exact ⟨σ.H, .inl ⟨d1, rfl, rfl⟩, .inr ⟨b1, bs, .inl ⟨b2, rfl, fun H'' k1 k2 => QP_congr (fun x hx => (evi x hx).symm) (b3 H'' k1 k2)⟩⟩⟩
  ·exact ⟨σ.H, .inr ⟨d1, ds, .inl ⟨d2, rfl, fun H'' k1 k2 => QP_congr evj (d3 H'' k1 k2)⟩⟩, .inr ⟨b1, bs, .inl ⟨b2, rfl, fun H'' k1 k2 => QP_congr (fun x hx => (evi x hx).symm) (b3 H'' k1 k2)⟩⟩⟩
  ·refine ⟨H2, .inr ⟨d1, ds, .inr ⟨d2, d3, eff2_congr d3 evj d4, d5, d6⟩⟩, .inr ⟨b1, d5, .inl ⟨b2, rfl, fun H'' k1 k2 => QP_congr (fun x hx => (evi x hx).symm) (b3 H'' k1 (Same.trans (fun x hx => d6 x (hij b2 d2 x hx)) k2))⟩⟩⟩
 ·rcases h2 with ⟨d1, rfl, rfl⟩ | ⟨d1, ds, ⟨d2, rfl, d3⟩ | ⟨d2, d3, d4, d5, d6⟩⟩
  ·exact ⟨σ.H, .inl ⟨d1, rfl, rfl⟩, .inr ⟨b1, bs, .inr ⟨b2, b3, eff2_congr b3 (fun x hx => (evi x hx).symm) b4, b5, b6⟩⟩⟩
  ·have hs : Same cj.K σ.H H2 := fun x hx => b6 x (hji d2 b2 x hx)
   exact ⟨σ.H, .inr ⟨d1, bs, .inl ⟨d2, rfl, fun H'' k1 k2 => QP_congr evj (d3 H'' k1 (hs.symm.trans k2))⟩⟩, .inr ⟨b1, bs, .inr ⟨b2, b3, eff2_congr b3 (fun x hx => (evi x hx).symm) b4, b5, b6⟩⟩⟩
  ·exact (hee ⟨b2, d2⟩).elim
def MC (P : Program) (ops : Array Oper) (S : Heap → Prop) (c : Info) (σ : St) (o : Oper) (K : V → Heap → Prop) (Kp : V → St → Prop) : Prop :=
 c.eff = true ∧ c.call = true ∧ wantedV ops σ o = some true ∧ ∃ cl f args Post, o.op = .call cl ∧ target σ.ev cl = some (f, args) ∧ HRel P f args σ.H Post ∧
  (∀ v H', Post (.ret v) H' → S H' ∧ (∀ i, ¬ c.W i → H'.L[i]? = σ.H.L[i]?) ∧ K v H') ∧ ∀ v H', Post (.pan v) H' → Kp v { σ with H := H' }
theorem MC.imp {S : Heap → Prop} {c : Info} {σ : St} {o : Oper} {K K' : V → Heap → Prop} {Kp : V → St → Prop} (h : MC P ops S c σ o K Kp) (hk : ∀ v H', S H' → (∀ i, ¬ c.W i → H'.L[i]? = σ.H.L[i]?) → K v H' → K' v H') : MC P ops S c σ o K' Kp := by
 obtain ⟨h1, h2, h3, cl, f, args, Post, h4, h5, h6, h7, h8⟩ := h
 exact ⟨h1, h2, h3, cl, f, args, Post, h4, h5, h6, fun v H' hp => by obtain ⟨a, b, c⟩ := h7 v H' hp; exact ⟨a, b, hk v H' a b c⟩, h8⟩
inductive Dep (md : Region.Mode) (ops : Array Oper) (a : Nat) : Nat → Prop where
 | one (b : Nat) (o : Oper) (e : Edge) (ho : ops[b]? = some o) (he : e ∈ o.after) (hb : Region.binds md e = true) (hon : e.on = a) : Dep md ops a b
 | more (b : Nat) (o : Oper) (e : Edge) (ho : ops[b]? = some o) (he : e ∈ o.after) (hb : Region.binds md e = true) (h : Dep md ops a e.on) : Dep md ops a b
def Free (md : Region.Mode) (ops : Array Oper) (i j : Nat) : Prop := ¬ Dep md ops i j ∧ ¬ Dep md ops j i
def Down (md : Region.Mode) (ops : Array Oper) (listed : Array Bool) : Prop := ∀ b o, ops[b]? = some o → listed.getD b false = true → ∀ e ∈ o.after, Region.binds md e = true → listed.getD e.on false = true
theorem Down.dep {listed : Array Bool} (h : Down md ops listed) {a b : Nat} (hd : Dep md ops a b) : listed.getD b false = true → listed.getD a false = true := by
 induction hd with
 | one b o e ho he hb hon => intro hl; subst hon; exact h b o ho hl e he hb
 | more b o e ho he hb _ ih => intro hl; exact ih (h b o ho hl e he hb)
theorem Down.ready {listed : Array Bool} (h : Down md ops listed) {a b : Nat} (hb : b ∈ Region.ready md ops listed) (hd : Dep md ops a b) : listed.getD a false = true := by
 obtain ⟨_, o', ho', hall⟩ := mem_ready.1 hb
 cases hd with
 | one _ o e ho he hb hon => rw [ho'] at ho; injection ho with ho; subst ho; subst hon; exact hall e he hb
 | more _ o e ho he hb hd => rw [ho'] at ho; injection ho with ho; subst ho; exact h.dep hd (hall e he hb)
theorem Down.set {listed : Array Bool} (h : Down md ops listed) {k : Nat} (hk : k ∈ Region.ready md ops listed) : Down md ops (listed.setIfInBounds k true) := fun b o ho hl e he hb => by
 obtain ⟨_, o', ho', hall⟩ := mem_ready.1 hk
 have up : ∀ j, listed.getD j false = true → (listed.setIfInBounds k true).getD j false = true := fun j hj => by
  by_cases hjk : k = j
  ·subst hjk
   rcases Nat.lt_or_ge k listed.size with q | q
   ·simp [Array.getD_eq_getD_getElem?, q]
   ·simp [Array.getD_eq_getD_getElem?, Array.getElem?_eq_none q] at hj
  ·rw [getD_set_ne false hjk]; exact hj
 refine up _ ?_
 by_cases hbk : k = b
 ·subst hbk
  rw [ho'] at ho; injection ho with ho; subst ho
  exact hall e he hb
 ·rw [getD_set_ne false hbk] at hl
  exact h b o ho hl e he hb
def PairOk (md : Region.Mode) (ops : Array Oper) (i j : Nat) (ci cj : Info) : Prop := Free md ops i j → (¬ (ci.eff = true ∧ cj.eff = true)) ∧ (ci.eff = false → cj.eff = true → ∀ x, ci.K x → ¬ cj.W x) ∧ (cj.eff = false → ci.eff = true → ∀ x, cj.K x → ¬ ci.W x)
def GP (md : Region.Mode) (ops : Array Oper) (prev : List (Nat × Info)) (j : Nat) (c : Info) : Prop := ∀ p ∈ prev, PairOk md ops p.1 j p.2 c
section
variable (P ops) (md) (S : Heap → Prop) (G : Nat → Info → Prop) (Kp : V → St → Prop)
def GoA (i : Nat) (K : St → Prop) (σ : St) : Prop :=
 match ops[i]? with
 | none => K σ
 | some o => ∃ c, G i c ∧ ((∃ v H', c.call = false ∧ MV P ops S c σ o v H' ∧ K (moved σ o v H')) ∨ MC P ops S c σ o (fun v H' => K (moved σ o v H')) Kp)
def AM (R : St → Prop) : Nat → Array Bool → St → Prop
 | 0, listed, σ => Region.ready md ops listed = [] ∧ R σ
 | fuel + 1, listed, σ => (Region.ready md ops listed = [] → R σ) ∧ ∀ i ∈ Region.ready md ops listed, GoA P ops S G Kp i (AM R fuel (listed.setIfInBounds i true)) σ
end
variable {S : Heap → Prop} {G G' : Nat → Info → Prop} {Kp : V → St → Prop}
theorem MV.goA {i : Nat} {o : Oper} {v : V} {σ : St} {c : Info} {H' : Heap} (hi : ops[i]? = some o) (hc : G i c) (hcl : c.call = false) (hy : MV P ops S c σ o v H') {K : St → Prop} (h : K (moved σ o v H')) : GoA P ops S G Kp i K σ := by
 unfold GoA
 simp only [hi]
 exact ⟨c, hc, .inl ⟨v, H', hcl, hy, h⟩⟩
theorem AM.mono (hg : ∀ j c, G' j c → G j c) {R : St → Prop} : ∀ (fuel : Nat) (listed : Array Bool) (σ : St), AM P ops md S G' Kp R fuel listed σ → AM P ops md S G Kp R fuel listed σ
 | 0, _, _, h => h
 | fuel + 1, listed, σ, h => ⟨h.1, fun i hi => by
   have h1 := h.2 i hi
   unfold GoA at h1 ⊢
   split
   · rename_i ho; simp only [ho] at h1; exact AM.mono hg fuel _ _ h1
   · rename_i o ho
     simp only [ho] at h1
     obtain ⟨c, h0, ⟨v, H', hc, h2, h3⟩ | hm⟩ := h1
     · exact ⟨c, hg _ _ h0, .inl ⟨v, H', hc, h2, AM.mono hg fuel _ _ h3⟩⟩
     · exact ⟨c, hg _ _ h0, .inr (hm.imp fun v H' _ _ k => AM.mono hg fuel _ _ k)⟩⟩
theorem wpOp_of_GoA {W0 : World} {g0 : Gh} {H0 : Heap} {i : Nat} {σ : St} {K : St → Prop} {K' : Act → World → Prop} {Q' : Exit → Act → World → Prop}
  (hk : ∀ W a g σ, K σ → (σ.e0 = H0.E ∧ Step W0 g0 H0 W g σ.H) → GoodSt W a g σ → K' a W) (hkp : ∀ W a g σ v c, Kp v σ → (σ.e0 = H0.E ∧ Step W0 g0 H0 W g σ.H) → GoodSt W a g σ → Rel W g σ.H v c → Q' (.panic [{ v := c, recovered := false }]) a W)
  {W : World} {a : Act} {g : Gh} (hh : GoA P ops S G Kp i K σ) (hS : σ.e0 = H0.E ∧ Step W0 g0 H0 W g σ.H) (hG : GoodSt W a g σ) : wpOp P ops Q' i K' a W := by
 unfold GoA at hh
 unfold wpOp
 split
 ·rename_i ho; simp only [ho] at hh; exact hk W a g σ hh hS hG
 ·rename_i o ho
  simp only [ho] at hh
  obtain ⟨c0, _, hh⟩ := hh
  have he0 : ∀ {v : V} {H' : Heap}, (moved σ o v H').e0 = σ.e0 := fun {v H'} => by unfold moved; cases o.dst <;> rfl
  rcases hh with ⟨v, H', _, hy, hkk⟩ | ⟨_, _, hw, cl, f, args, Post, hop, ht, hc, hret, hpan⟩
  ·have fin : ∀ c W' g', Step W g σ.H W' g' H' → Good W' g' H' → Rel W' g' H' v c → K' (a.put o.dst c) W' := fun c W' g' s1 s2 s3 =>
    hk W' _ g' _ hkk (by rw [moved_H, he0]; exact ⟨hS.1, hS.2.trans s1⟩) (hG.next s1 s2 s3 o.dst)
   rcases hy with ⟨hw, rfl, rfl⟩ | ⟨hw, hs, ⟨_, rfl, hv⟩ | ⟨_, _, hv, _, _⟩⟩
   ·rw [wantedV_sound hG hw, if_neg (by simp)]
    exact fin undef W g (.refl _ _ _) hG.good (.tup [] #[] rfl (by simp))
   ·rw [wantedV_sound hG hw, if_pos rfl]
    left
    unfold Oper.wp
    rcases hv σ.H hs (.refl _ _) with hv | ⟨c, f, args, hop, ht, hcl⟩ | hv | ⟨t, n, cz, hop, hv⟩ | ⟨cc, s, x, t, u, hop, hcal, hargs, htys, hv⟩
    ·obtain ⟨c, W', h1, h2, h3⟩ := pv_sound (P := P) hG.good (r := a.eval) hG.ev hv
     rw [h1]
     exact fin c W' g h2.step (hG.good.grow h2) h3
    ·obtain ⟨cargs, k1, k2⟩ := target_sound (P := P) (ty := o.type) hG.ev ht
     have hex : (execOp a.eval o).run P W = (callFunc f cargs).run P W := by
      rw [← k2 W]; unfold execOp; rw [hop]
     rcases hcl W g cargs hG.good k1 with ⟨e1, e2⟩ | ⟨c, W', g', e1, e2, e3, e4⟩
     ·rw [hex, e1]
      refine e2.mono fun e W' ⟨c, g', he, s1, s2, s3⟩ => ?_
      subst he
      exact fin c W' g' s1 s2 s3
     ·rw [hex, e1]
      exact fin c W' g' e2 e3 e4
    ·obtain ⟨c, W', g', h1, h2, h3, h4⟩ := more_sound (P := P) hG.good hG.ev hv
     rcases h1 with h1 | ⟨h1, h1'⟩
     ·rw [h1]; exact fin c W' g' h2 h3 h4
     ·rw [h1]; subst h1'; exact fin _ W' g' h2 h3 h4
    ·obtain ⟨c, W', g', h1, h2, h3, h4⟩ := sound_makeData (P := P) hG.good hv (hG.ev n) (hG.ev cz)
     have hex : (execOp a.eval o).run P W = (do pure (.value (← Instr.makeSlice t (a.eval n) (a.eval cz))) : Sem Next).run P W := by unfold execOp; rw [hop]
     rw [hex]
     rcases h1 with h1 | ⟨h1, h1'⟩
     ·rw [h1]; exact fin c W' g' h2 h3 h4
     ·rw [h1]; subst h1'; exact fin _ W' g' h2 h3 h4
    ·obtain ⟨c, W', g', h1, h2, h3, h4⟩ := sound_appData (P := P) (ty := o.type) hG.good hv (hG.ev s) (hG.ev x)
     have hex : (execOp a.eval o).run P W = (do pure (.value (← Builtin.append_ #[t, u] o.type #[a.eval s, a.eval x])) : Sem Next).run P W := by
      obtain ⟨callee, args, argTypes⟩ := cc
      simp only at hcal hargs htys
      subst hcal
      obtain rfl := array_of_toList hargs
      obtain rfl := array_of_toList htys
      unfold execOp; rw [hop]
      simp [resolve, invoke, builtin]
     rw [hex]
     rcases h1 with h1 | ⟨h1, h1'⟩
     ·rw [h1]; exact fin c W' g' h2 h3 h4
     ·rw [h1]; subst h1'; exact fin _ W' g' h2 h3 h4
   ·rw [wantedV_sound hG hw, if_pos rfl]
    left
    unfold Oper.wp
    obtain ⟨c, W', g', h1, h2, h3, h4⟩ := hv.elim (fun q => ox_sound (P := P) hG.good hG.ev q) (fun q => more_sound (P := P) hG.good hG.ev q)
    rcases h1 with h1 | ⟨h1, h1'⟩
    ·rw [h1]; exact fin c W' g' h2 h3 h4
    ·rw [h1]; subst h1'; exact fin _ W' g' h2 h3 h4
  ·rw [wantedV_sound hG hw, if_pos rfl]
   left
   unfold Oper.wp
   obtain ⟨cargs, k1, k2⟩ := target_sound (P := P) (ty := o.type) hG.ev ht
   have hex : (execOp a.eval o).run P W = (callFunc f cargs).run P W := by
    rw [← k2 W]; unfold execOp; rw [hop]
   obtain ⟨e1, e2⟩ := hc W g cargs hG.good k1
   rw [hex, e1]
   refine e2.mono fun e W' ⟨o', H', g', p1, p2, p3, p4⟩ => ?_
   cases o' with
   | ret r =>
     obtain ⟨c', he, hr'⟩ := p4
     subst he
     exact hk W' (a.put o.dst c') g' _ (hret r H' p1).2.2 (by rw [moved_H, he0]; exact ⟨hS.1, hS.2.trans p2⟩) (hG.next p2 p3 hr' o.dst)
   | pan v =>
     obtain ⟨c', he, hr'⟩ := p4
     subst he
     have hn := hG.next p2 p3 (.any undef) none
     exact hkp W' a g' { σ with H := H' } v c' (hpan v H' p1) ⟨hS.1, hS.2.trans p2⟩ hn hr'
theorem wpAny_of_AM {W0 : World} {g0 : Gh} {H0 : Heap} {R : St → Prop} {Q' : Exit → Act → World → Prop} (hR : ∀ W a g σ, R σ → (σ.e0 = H0.E ∧ Step W0 g0 H0 W g σ.H) → GoodSt W a g σ → Q' .normal a W)
  (hkp : ∀ W a g σ v c, Kp v σ → (σ.e0 = H0.E ∧ Step W0 g0 H0 W g σ.H) → GoodSt W a g σ → Rel W g σ.H v c → Q' (.panic [{ v := c, recovered := false }]) a W) :
  ∀ (fuel : Nat) (listed : Array Bool) (σ : St) (W : World) (a : Act) (g : Gh), AM P ops md S G Kp R fuel listed σ → (σ.e0 = H0.E ∧ Step W0 g0 H0 W g σ.H) → GoodSt W a g σ → wpAny P md ops Q' fuel listed a W
 | 0, _, σ, W, a, g, h, hS, hG => ⟨h.1, hR W a g σ h.2 hS hG⟩
 | fuel + 1, listed, σ, W, a, g, h, hS, hG => ⟨fun h0 => hR W a g σ (h.1 h0) hS hG, fun i hi => wpOp_of_GoA (fun W a g σ' hk hS hG => wpAny_of_AM hR hkp fuel _ σ' W a g hk hS hG) hkp (h.2 i hi) hS hG⟩
theorem mc_comm {ci cj : Info} {oi oj : Oper} (hap : oi.apart ops oj = true) (hci : ci.eff = false) (hij : ∀ x, ci.K x → ¬ cj.W x) (hkp : ∀ v (σ : St) t', Kp v σ → t'.length = σ.t.length → Kp v { σ with t := t' })
  {σ : St} {v : V} {H1 : Heap} (h1 : MV P ops S ci σ oi v H1) {K : V → Heap → Prop} (h2 : MC P ops S cj (moved σ oi v H1) oj K Kp) : H1 = σ.H ∧
  MC P ops S cj σ oj (fun u H' => MV P ops S ci (moved σ oj u H') oi v H' ∧ K u H') Kp := by
 obtain ⟨a1, a2, a3⟩ := Oper.apart_spec hap
 have evj : ∀ {w : V} {H : Heap}, ∀ x ∈ oj.op.operands, (moved σ oi w H).ev x = σ.ev x := fun {w H} x hx => moved_ev fun d hd => looks_operands (a1 d hd) x hx
 have evi : ∀ {w : V} {H : Heap}, ∀ x ∈ oi.op.operands, (moved σ oj w H).ev x = σ.ev x := fun {w H} x hx => moved_ev fun d hd => looks_operands (a3 d hd) x hx
 have hH : H1 = σ.H := by
  rcases h1 with ⟨_, _, h⟩ | ⟨_, _, ⟨_, h, _⟩ | ⟨h, _⟩⟩
  ·exact h
  ·exact h
  ·rw [hci] at h; cases h
 subst hH
 refine ⟨rfl, ?_⟩
 obtain ⟨b1, b2, b3, cl, f, args, Post, b4, b5, b6, b7, b8⟩ := h2
 rw [moved_wanted a1] at b3
 rw [target_congr (ρ' := σ.ev) (fun x hx => evj x (by rw [b4]; exact hx))] at b5
 rw [moved_H] at b6 b7
 refine ⟨b1, b2, b3, cl, f, args, Post, b4, b5, b6, fun u H' hp => ?_, fun u H' hp => ?_⟩
 ·obtain ⟨c1, c2, c3⟩ := b7 u H' hp
  refine ⟨c1, c2, ?_, c3⟩
  unfold MV at h1 ⊢
  rw [moved_wanted a3, moved_H]
  rcases h1 with ⟨d1, d2, _⟩ | ⟨d1, d2, ⟨d3, _, d4⟩ | ⟨h, _⟩⟩
  ·exact .inl ⟨d1, d2, rfl⟩
  ·exact .inr ⟨d1, c1, .inl ⟨d3, rfl, fun H'' k1 k2 => QP_congr (fun x hx => (evi x hx).symm) (d4 H'' k1 (Same.trans (fun x hx => c2 x (hij x hx)) k2))⟩⟩
  ·rw [hci] at h; cases h
 ·have := hkp u _ σ.t (b8 u H' hp) (by unfold moved; cases oi.dst <;> simp [St.put])
  have e : ({ ({ moved σ oi v σ.H with H := H' } : St) with t := σ.t } : St) = { σ with H := H' } := by unfold moved; cases oi.dst <;> rfl
  rw [e] at this; exact this
theorem AM_first (hkp : ∀ v (σ : St) t', Kp v σ → t'.length = σ.t.length → Kp v { σ with t := t' }) {R : St → Prop} {i : Nat} {oi : Oper} {ci : Info} (hi : ops[i]? = some oi) (hci : G i ci) (hcc : ci.call = false) (hg : ∀ j c, G' j c → G j c ∧ PairOk md ops i j ci c) :
  ∀ (fuel : Nat) (listed : Array Bool) (σ : St), Down md ops listed →
   (∀ j oj, ops[j]? = some oj → j ≠ i → listed.getD j true = false → (∀ e ∈ oj.after, Region.binds md e = true → e.on ≠ i) → oi.apart ops oj = true) →
   i ∈ Region.ready md ops listed → ∀ v H', MV P ops S ci σ oi v H' → AM P ops md S G' Kp R fuel (listed.setIfInBounds i true) (moved σ oi v H') → AM P ops md S G Kp R (fuel + 1) listed σ := by
 intro fuel
 induction fuel with
 | zero =>
   intro listed σ _ _ hr v H' hy H
   refine ⟨fun h => (by rw [h] at hr; cases hr), fun j hj => ?_⟩
   by_cases hji : j = i
   · subst hji; exact hy.goA hi hci hcc (AM.mono (fun j c h => (hg j c h).1) _ _ _ H)
   · have := ready_mono hj hji
     rw [H.1] at this
     cases this
 | succ fuel ih =>
   intro listed σ hdown hfree hr v H' hy H
   refine ⟨fun h => (by rw [h] at hr; cases hr), fun j hj => ?_⟩
   by_cases hji : j = i
   · subst hji; exact hy.goA hi hci hcc (AM.mono (fun j c h => (hg j c h).1) _ _ _ H)
   · have h1 := H.2 j (ready_mono hj hji)
     obtain ⟨hjun, oj, hoj, hall⟩ := mem_ready.1 hj
     obtain ⟨hun, oi', hoi', hall'⟩ := mem_ready.1 hr
     rw [hi] at hoi'; injection hoi' with hoi'; subst hoi'
     have hnot : ∀ e ∈ oj.after, Region.binds md e = true → e.on ≠ i := fun e he hb heq => by
       have h1 := hall e he hb
       rw [heq, getD_both hun] at h1
       cases h1
     have hnot' : ∀ e ∈ oi.after, Region.binds md e = true → e.on ≠ j := fun e he hb heq => by
       have h1 := hall' e he hb
       rw [heq, getD_both hjun] at h1
       cases h1
     have hfr : Free md ops i j := ⟨fun hd => (by have := hdown.ready hj hd; rw [getD_both hun] at this; cases this), fun hd => (by have := hdown.ready hr hd; rw [getD_both hjun] at this; cases this)⟩
     have hap := hfree j oj hoj hji hjun hnot
     have hfree' : ∀ k ok, ops[k]? = some ok → k ≠ i → (listed.setIfInBounds j true).getD k true = false →
         (∀ e ∈ ok.after, Region.binds md e = true → e.on ≠ i) → oi.apart ops ok = true := fun k ok hk hki hun hno => by
       refine hfree k ok hk hki ?_ hno
       by_cases hjk : j = k
       · subst hjk; exact hjun
       · rw [getD_set_ne true hjk] at hun; exact hun
     unfold GoA at h1 ⊢
     simp only [hoj] at h1 ⊢
     obtain ⟨cj, hcj, ⟨u, H2, hjc, hm, hk⟩ | hm⟩ := h1
     · obtain ⟨hgj, hpair⟩ := hg j cj hcj
       obtain ⟨p1, p2, p3⟩ := hpair hfr
       obtain ⟨H1', q1, q2⟩ := mv_comm hap p1 p2 p3 hy hm
       refine ⟨cj, hgj, .inl ⟨u, H1', hjc, q1, ih (listed.setIfInBounds j true) _ (hdown.set hj) hfree' (ready_mono hr (Ne.symm hji)) v H2 q2 ?_⟩⟩
       rw [Array.setIfInBounds_comm _ _ hji]
       rw [moved_comm (B := H1') (Oper.apart_spec hap).2.1] at hk
       exact hk
     · obtain ⟨hgj, hpair⟩ := hg j cj hcj
       obtain ⟨p1, p2, p3⟩ := hpair hfr
       have hie : ci.eff = false := by
         cases he : ci.eff with
         | false => rfl
         | true => exact (p1 ⟨he, hm.1⟩).elim
       obtain ⟨rfl, q⟩ := mc_comm (Kp := Kp) hap hie (p2 hie hm.1) hkp hy hm
       refine ⟨cj, hgj, .inr (q.imp fun u H2 _ _ ⟨q2, hk⟩ => ih (listed.setIfInBounds j true) _ (hdown.set hj) hfree' (ready_mono hr (Ne.symm hji)) v H2 q2 ?_)⟩
       rw [Array.setIfInBounds_comm _ _ hji]
       rw [moved_comm (B := H2) (Oper.apart_spec hap).2.1] at hk
       exact hk
def schedB (md : Region.Mode) (ops : Array Oper) : List Nat → Array Bool → Bool
 | [], listed => (Region.ready md ops listed).isEmpty
 | k :: r, listed => (Region.ready md ops listed).contains k && Region.free md ops listed k && schedB md ops r (listed.setIfInBounds k true)
def PathOk (P : Program) (ops : Array Oper) (md : Region.Mode) (S : Heap → Prop) (Kp : V → St → Prop) (R : St → Prop) : List Nat → List (Nat × Info) → St → Prop
 | [], _, σ => R σ
 | k :: ks, prev, σ => ∃ o c, ops[k]? = some o ∧ GP md ops prev k c ∧ ((∃ v H', c.call = false ∧ MV P ops S c σ o v H' ∧ PathOk P ops md S Kp R ks ((k, c) :: prev) (moved σ o v H')) ∨
   ((∀ j ∈ ks, ¬ Free md ops k j) ∧ MC P ops S c σ o (fun v H' => PathOk P ops md S Kp R ks ((k, c) :: prev) (moved σ o v H')) Kp))
theorem AM_lex (hkp : ∀ v (σ : St) t', Kp v σ → t'.length = σ.t.length → Kp v { σ with t := t' }) {R : St → Prop} : ∀ (l : List Nat) (prev : List (Nat × Info)) (listed : Array Bool) (σ : St), Down md ops listed → (∀ j, listed.getD j true = false → j ∈ l) →
  schedB md ops l listed = true → PathOk P ops md S Kp R l prev σ → AM P ops md S (GP md ops prev) Kp R l.length listed σ
 | [], _, listed, σ, _, _, hB, h => ⟨by simpa [schedB] using hB, h⟩
 | k :: l, prev, listed, σ, hdown, hlow, hB, h => by
   obtain ⟨o, c, h0, hc0, h⟩ := h
   simp only [schedB, Bool.and_eq_true] at hB
   obtain ⟨⟨hr, hf⟩, hB'⟩ := hB
   have hr : k ∈ Region.ready md ops listed := by simpa using hr
   have hlow' : ∀ j, (listed.setIfInBounds k true).getD j true = false → j ∈ l := fun j hj => by
     by_cases hjk : k = j
     · subst hjk
       by_cases hlt : k < listed.size
       · simp [Array.getD_eq_getD_getElem?, hlt] at hj
       · simp [Array.getD_eq_getD_getElem?, Array.getElem?_eq_none (Nat.le_of_not_lt hlt)] at hj
     · rw [getD_set_ne true hjk] at hj
       rcases List.mem_cons.1 (hlow j hj) with e | e
       · exact (hjk e.symm).elim
       · exact e
   have rest : ∀ σ', PathOk P ops md S Kp R l ((k, c) :: prev) σ' → AM P ops md S (GP md ops ((k, c) :: prev)) Kp R l.length (listed.setIfInBounds k true) σ' := fun σ' hrest =>
     AM_lex hkp l _ _ _ (hdown.set hr) hlow' hB' hrest
   rcases h with ⟨v, H', hc, hy, hrest⟩ | ⟨hlate, hm⟩
   · exact AM_first (G := GP md ops prev) (G' := GP md ops ((k, c) :: prev)) hkp h0 hc0 hc (fun j c' h' => ⟨fun p hp => h' p (List.mem_cons_of_mem _ hp), h' _ List.mem_cons_self⟩) l.length listed σ hdown (Region.free_spec h0 hf) hr v H' hy (rest _ hrest)
   · refine ⟨fun h => (by rw [h] at hr; cases hr), fun j hj => ?_⟩
     by_cases hjk : j = k
     · subst hjk
       unfold GoA
       simp only [h0]
       exact ⟨c, hc0, .inr (hm.imp fun v H' _ _ hk => AM.mono (fun j' c' h' p hp => h' p (List.mem_cons_of_mem _ hp)) _ _ _ (rest _ hk))⟩
     · exfalso
       obtain ⟨hjun, oj, hoj, hall⟩ := mem_ready.1 hj
       obtain ⟨hun, oi', hoi', hall'⟩ := mem_ready.1 hr
       refine hlate j ?_ ⟨fun hd => (by have := hdown.ready hj hd; rw [getD_both hun] at this; cases this), fun hd => (by have := hdown.ready hr hd; rw [getD_both hjun] at this; cases this)⟩
       rcases List.mem_cons.1 (hlow j hjun) with e | e
       · exact (hjk e).elim
       · exact e
theorem sat_comm {id : Nat} {σ : St} {Q : AExit → St → Prop} (hm : P.follows .mixedOrders = true) (l : List Nat) (hB : schedB .any ops l (Array.replicate ops.size false) = true) (hl : l.length = ops.size) (hall : ∀ j, j < ops.size → j ∈ l)
  (h : PathOk P ops .any S (fun v σ => ∀ t', t'.length = σ.t.length → Q (.panic v) { σ with t := t' }) (Q .normal) l [] σ) :
  Sat P (.region id ops true) σ Q := fun W0 g0 H0 W a g _ hS hG => by
 refine wp_region_any hm ?_
 have hG' := hG.drawn (W.drawn + 1)
 have hS' : σ.e0 = H0.E ∧ Step W0 g0 H0 { W with drawn := W.drawn + 1 } g σ.H := ⟨hS.1, hS.2.trans (Grow.drawn W _).step⟩
 have := AM_lex (P := P) (md := .any) (R := Q .normal) (fun v σ t' h ht => fun t'' ht'' => h t'' (ht''.trans ht)) l [] (Array.replicate ops.size false) σ (fun b o _ hb => by rw [getD_replicate_false] at hb; cases hb) (fun j hj => by
  rcases Nat.lt_or_ge j ops.size with q | q
  ·exact hall j q
  ·simp [Array.getD_eq_getD_getElem?, Array.getElem?_eq_none (xs := Array.replicate ops.size false) (i := j) (by simpa using q)] at hj) hB h
 rw [hl] at this
 exact wpAny_of_AM (Q' := Lift W0 g0 H0 Q) (fun W a g τ hτ hS hG => ⟨g, τ, .normal, .normal, hS, hG, hτ⟩) (fun W a g τ v c hτ hS hG hr => ⟨g, τ, .panic v, .panic v c hr, hS, hG, hτ τ.t rfl⟩) _ _ σ _ a g this hS' hG'
theorem pLoad_ptr_same {H H' : Heap} {t l i off : Nat} (h : H'.get l i = H.get l i) : pLoad P H' t (.ptr l i off) = pLoad P H t (.ptr l i off) := by simp only [pLoad, h]
theorem pLoad_ref_same {H H' : Heap} {t : Nat} {cs : List V} {off : Nat} : pLoad P H' t (.ref cs off) = pLoad P H t (.ref cs off) := rfl
theorem pLoad_ap_same {H H' : Heap} {t l i ver idx off : Nat} (h : H'.get l i = H.get l i) : pLoad P H' t (.ap l i ver idx off) = pLoad P H t (.ap l i ver idx off) := by simp only [pLoad, aelem, h]
theorem pIndexAddr_hs_same {H H' : Heap} {t l i ver off n : Nat} {full : Bool} {y : V} (h : H'.get l i = H.get l i) : pIndexAddr P H' t (.hs l i ver off n full) y = pIndexAddr P H t (.hs l i ver off n full) y := by simp only [pIndexAddr, h]
theorem pLen_hs_same {H H' : Heap} {t l i ver off n : Nat} {full : Bool} (h : H'.get l i = H.get l i) : pLen P H' t (.hs l i ver off n full) = pLen P H t (.hs l i ver off n full) := by simp only [pLen, h]
def V.plain : V → Bool
 | .hs .. | .map .. => false
 | _ => true
theorem pLen_plain {H H' : Heap} {t : Nat} {x : V} (h : x.plain = true) : pLen P H' t x = pLen P H t x := by cases x <;> first | rfl | cases h
theorem pIndexAddr_plain {H H' : Heap} {t : Nat} {x y : V} (h : x.plain = true) : pIndexAddr P H' t x y = pIndexAddr P H t x y := by cases x <;> first | rfl | cases h
theorem pSlice_plain {H H' : Heap} {t : Nat} {x : V} {a b c : Option V} (h : x.plain = true) : pSlice P H' t x a b c = pSlice P H t x a b c := by cases x <;> first | rfl | cases h
end
def edgeB (all : List Oper) (i j : Nat) : Bool := match all[j]? with
 | some o => o.after.toList.any fun e => Region.binds .any e && Nat.beq e.on i
 | none => false
def depB (all : List Oper) : Nat → Nat → Nat → Bool
 | 0, i, j => edgeB all i j
 | n + 1, i, j => edgeB all i j || (match all[j]? with
   | some o => o.after.toList.any fun e => Region.binds .any e && depB all n i e.on
   | none => false)
def ordB (all : List Oper) (i j : Nat) : Bool := depB all 3 i j || depB all 3 j i
theorem depB_dep {ops : Array Oper} : ∀ (n : Nat) {i j : Nat}, depB ops.toList n i j = true → Dep .any ops i j := fun n => by
 have edge : ∀ {i j : Nat}, edgeB ops.toList i j = true → Dep .any ops i j := fun {i j} h => by
  unfold edgeB at h
  split at h
  ·rename_i o ho
   rw [List.any_eq_true] at h
   obtain ⟨e, he, hb⟩ := h
   simp only [Bool.and_eq_true] at hb
   exact .one j o e (by simpa using ho) (by simpa using he) hb.1 (Nat.eq_of_beq_eq_true hb.2)
  ·cases h
 induction n with
 | zero => intro i j h; exact edge h
 | succ n ih =>
   intro i j h
   simp only [depB, Bool.or_eq_true] at h
   rcases h with h | h
   · exact edge h
   · split at h
     · rename_i o ho
       rw [List.any_eq_true] at h
       obtain ⟨e, he, hb⟩ := h
       simp only [Bool.and_eq_true] at hb
       exact .more j o e (by simpa using ho) (by simpa using he) hb.1 (ih hb.2)
     · cases h
theorem ordB_free {ops : Array Oper} {i j : Nat} (h : ordB ops.toList i j = true) : ¬ Free .any ops i j := fun hf => by
 unfold ordB at h
 rw [Bool.or_eq_true] at h
 rcases h with h | h
 ·exact hf.1 (depB_dep 3 h)
 ·exact hf.2 (depB_dep 3 h)
end Go.Ab


namespace Go.Ab
open Go
set_option linter.unusedVariables false
set_option linter.unusedSimpArgs false
inductive AMode where
 | ret
 | pan (v : V) (recovered : Bool)
def AMode.value : AMode → V
 | .pan v false => v
 | _ => .nili
theorem LetsOut.mono {Q Q' : Exit → Act → World → Prop} (hq : ∀ e a w, Q e a w → Q' e a w) (h : LetsOut Q) : LetsOut Q' := by
 obtain ⟨a, w, h⟩ := h; exact ⟨a, w, hq _ _ _ h⟩
def MRel (W : World) (g : Gh) (H : Heap) : AMode → FrameMode → Prop
 | .ret, u => u = .returning
 | .pan v r, u => ∃ c, u = .panicking [{ v := c, recovered := r }] ∧ Rel W g H v c
theorem MRel.mono {W : World} {g : Gh} {H : Heap} {m : AMode} {u : FrameMode} (h : MRel W g H m u) {W' : World} {g' : Gh} {H' : Heap} (s : Step W g H W' g' H') : MRel W' g' H' m u := by
 cases m with
 | ret => exact h
 | pan v r => obtain ⟨c, h1, h2⟩ := h; exact ⟨c, h1, h2.mono s⟩
theorem MRel.run {W : World} {g : Gh} {H : Heap} {m : AMode} {u : FrameMode} (h : MRel W g H m u) : u ≠ .run := by
 cases m with
 | ret => subst h; simp
 | pan v r => obtain ⟨c, h1, h2⟩ := h; subst h1; simp
def LiftS (W0 : World) (g0 : Gh) (H0 : Heap) (c₀ : Frame) (cs : List Frame) (Q : AExit → St → Prop) (m' : AMode) (e : Exit) (a : Act) (cs' : List Frame) (W : World) : Prop :=
 ∃ g σ e' u', ERel W g σ.H e e' ∧ (σ.e0 = H0.E ∧ Step W0 g0 H0 W g σ.H) ∧ GoodSt W a g σ ∧ cs' = { c₀ with mode := u' } :: cs ∧ MRel W g σ.H m' u' ∧ Q e' σ
theorem LiftS.out {W0 : World} {g0 : Gh} {H0 : Heap} {c₀ : Frame} {cs : List Frame} {Q : AExit → St → Prop} {m' : AMode} {a : Act} {cs' : List Frame} {W : World} : ¬ LiftS W0 g0 H0 c₀ cs Q m' .outgrown a cs' W := fun ⟨_, _, _, _, h, _⟩ => by cases h
section
variable {P : Program}
end
end Go.Ab


namespace Go.Ab
open Go
set_option linter.unusedVariables false
def pIf {α : Type} (b : Bool) (x y : Option α) : Option α := match b with | true => x | false => y
theorem pIf_ite {α : Type} (b : Bool) (x y : Option α) : pIf b x y = if b then x else y := by cases b <;> rfl
def pBind {α β : Type} (o : Option α) (k : α → Option β) : Option β := o.bind k
def pOp {α : Type} (o : Oper) (x : Option α) : Option α := x
inductive Res (X R : Type) where
 | ok (r : R)
 | pan (x : X)
inductive DTy where
 | bool
 | int (k : IntKind)
 | str
 | nat
 | sl (t : DTy)
 | st (i : Nat)
 deriving DecidableEq
def DTy.S (T : Nat → Type) : DTy → Type
 | .bool => Bool
 | .int _ => Int
 | .str => List UInt8
 | .nat => Nat
 | .sl t => List (t.S T)
 | .st i => T i
def HL (T : Nat → Type) : List DTy → Type
 | [] => Unit
 | t :: l => t.S T × HL T l
def HL.app {T : Nat → Type} : {a b : List DTy} → HL T a → HL T b → HL T (a ++ b)
 | [], _, _, y => y
 | _ :: _, _, x, y => (x.1, HL.app x.2 y)
def HL.fst {T : Nat → Type} : (a : List DTy) → {b : List DTy} → HL T (a ++ b) → HL T a
 | [], _, _ => ()
 | _ :: a, _, x => (x.1, HL.fst a x.2)
def HL.snd {T : Nat → Type} : (a : List DTy) → {b : List DTy} → HL T (a ++ b) → HL T b
 | [], _, x => x
 | _ :: a, _, x => HL.snd a x.2
structure Dat where
 T : Nat → Type
 fl : Nat → List DTy
 get : ∀ i, T i → HL T (fl i)
 make : ∀ i, HL T (fl i) → T i
 enc : ∀ i, T i → V
 ty : Nat → Option DTy
inductive TV (T : Nat → Type) : Type where
 | any
 | bool (b : Bool)
 | int (k : IntKind) (n : Int)
 | str (s : List UInt8)
 | nilp
 | nils
 | mapn
 | nilf
 | nili
 | sl (t : DTy) (xs : List (t.S T)) (fl : Nat)
 | own (s : Nat)
 | osl (s : Nat) (lo : Int)
 | ptr (s off : Nat)
 | bp (s off : Nat)
 | ref (cs : List (TV T)) (off : Nat)
 | ap (s : Nat) (t : DTy) (i : Int) (x : t.S T) (off : Nat)
 | map (s : Nat)
 | fn (f : Nat) (first caps : List (TV T))
 | iface (t : Nat) (v : TV T)
 | agg (cs : List (TV T))
 | tup (vs : List (TV T))
inductive TO (T : Nat → Type) : Type where
 | cells (cs : List (TV T))
 | acc (ty : Nat) (t : DTy) (xs : List (t.S T)) (w : Bool)
 | siter (s : List UInt8) (pos : Nat)
 | bld (ty : Nat) (b : Option Nat)
 | gone
structure TS (T : Nat → Type) where
 t : List (Nat × TV T)
 o : List (Nat × TO T)
 nx : Nat
 nt : Nat
 d : List (Nat × List (TV T)) := []
def fnd {α : Type} : List (Nat × α) → Nat → Option α
 | [], _ => none
 | (i, a) :: r, j => match Nat.beq i j with
   | true => some a
   | false => fnd r j
section
variable {T : Nat → Type}
def TV.cells : TV T → List (TV T)
 | .agg cs => cs
 | v => [v]
def TV.leaf : TV T → Bool
 | .any | .agg _ | .tup _ => false
 | _ => true
def TV.solid : TV T → Bool
 | .agg _ => true
 | v => v.leaf
def TV.ofLeaf : Value → TV T
 | .bool b => .bool b
 | .int k n => .int k n
 | .string s => .str s.data.toList
 | .pointer none => .nilp
 | .slice none 0 0 => .nils
 | .map none => .mapn
 | .nilFunc => .nilf
 | .nilIface => .nili
 | _ => .any
def TV.ofC : Value → TV T
 | .agg cs => if cs.toList.all (·.oneCell') then .agg (cs.toList.map TV.ofLeaf) else .any
 | .tuple cs => .tup (cs.toList.map TV.ofLeaf)
 | .iface t v => .iface t (TV.ofLeaf v)
 | v => TV.ofLeaf v
def TS.ev (ts : TS T) : Operand → Option (TV T)
 | .tmp t => fnd ts.t t
 | .const v => some (TV.ofC v)
 | .func f => some (.fn f [] [])
 | .global _ => none
def TS.evs (ts : TS T) : List Operand → Option (List (TV T))
 | [] => some []
 | x :: xs => match ts.ev x, ts.evs xs with
   | some v, some vs => some (v :: vs)
   | _, _ => none
inductive FR (α : Type) where
 | ok (a : α)
 | frz (s : Nat)
 | bad
def FR.of {α : Type} : Option α → FR α
 | some a => .ok a
 | none => .bad
end
section
variable (D : Dat)
def Dat.len : DTy → Nat
 | .st i => (D.fl i).length
 | _ => 1
def Dat.el : (t : DTy) → t.S D.T → V
 | .bool, b => .bool b
 | .int k, n => .int k n
 | .str, s => .str s
 | .nat, _ => .any
 | .sl t, xs => .sl (D.len t) (List.map (Dat.el t) xs) false
 | .st i, x => D.enc i x
def Dat.els : (l : List DTy) → HL D.T l → List V
 | [], _ => []
 | t :: l, x => D.el t x.1 :: Dat.els l x.2
def Dat.leaf : (t : DTy) → t.S D.T → TV D.T
 | .bool, b => .bool b
 | .int k, n => .int k n
 | .str, s => .str s
 | .nat, _ => .any
 | .sl t, xs => .sl t xs 0
 | .st _, _ => .any
def Dat.leaves : (l : List DTy) → HL D.T l → List (TV D.T)
 | [], _ => []
 | t :: l, x => D.leaf t x.1 :: Dat.leaves l x.2
def Dat.tv : (t : DTy) → t.S D.T → TV D.T
 | .st i, x => .agg (D.leaves (D.fl i) (D.get i x))
 | .bool, b => .bool b
 | .int k, n => .int k n
 | .str, s => .str s
 | .nat, _ => .any
 | .sl t, xs => .sl t xs 0
def lcast {T : Nat → Type} (a b : DTy) (x : List (a.S T)) : Option (List (b.S T)) :=
 if h : a = b then some (h ▸ x) else none
def asLeaf : (t : DTy) → TV D.T → FR (t.S D.T)
 | .bool, .bool b => .ok b
 | .int k, .int k' n => if k = k' then .ok n else .bad
 | .str, .str s => .ok s
 | .sl t, .sl t' xs _ => FR.of (lcast t' t xs)
 | .sl _, .nils => .ok []
 | .sl _, .own s => .frz s
 | _, _ => .bad
def asLeaves : (l : List DTy) → List (TV D.T) → FR (HL D.T l)
 | [], [] => .ok ()
 | t :: l, v :: vs => match asLeaf D t v with
   | .ok x => match asLeaves l vs with
     | .ok xs => .ok (x, xs)
     | .frz s => .frz s
     | .bad => .bad
   | .frz s => .frz s
   | .bad => .bad
 | _, _ => .bad
def asD : (t : DTy) → TV D.T → FR (t.S D.T)
 | .st i, .agg cs => match asLeaves D (D.fl i) cs with
   | .ok x => .ok (D.make i x)
   | .frz s => .frz s
   | .bad => .bad
 | .st _, _ => .bad
 | t, v => asLeaf D t v
def asDs (t : DTy) : List (TV D.T) → FR (List (t.S D.T))
 | [] => .ok []
 | v :: vs => match asD D t v with
   | .ok x => match asDs t vs with
     | .ok xs => .ok (x :: xs)
     | .frz s => .frz s
     | .bad => .bad
   | .frz s => .frz s
   | .bad => .bad
end
section
variable {T : Nat → Type} (P : Program)
def tRd (t : Nat) (cs : List (TV T)) (off : Nat) : Option (TV T) :=
 match P.underlying t with
 | none => none
 | some (.struct _) | some (.array _ _) => if off + P.cellsOf t ≤ cs.length then some (.agg ((cs.drop off).take (P.cellsOf t))) else none
 | some _ => cs[off]?
def tFieldAddr (s f : Nat) (x : TV T) : Option (TV T) :=
 match fieldOff P s f with
 | none => none
 | some o => match x with
   | .ref cs off => some (.ref cs (off + o))
   | .ptr s off => some (.ptr s (off + o))
   | .ap s t i x off => some (.ap s t i x (off + o))
   | .bp s off => some (.bp s (off + o))
   | _ => none
def tField (s f : Nat) (x : TV T) : Option (TV T) :=
 match P.underlying s with
 | some (.struct fs) => match fs[f]? with
   | some y => match x with
     | .agg cs => tRd P y.type cs y.offset
     | _ => none
   | none => none
 | _ => none
def tExtract (i : Nat) : TV T → Option (TV T)
 | .tup vs => vs[i]?
 | _ => none
def tNil : TV T → Option (TV T)
 | .ptr s off => some (.ptr s off)
 | .ref cs off => some (.ref cs off)
 | .ap s t i x off => some (.ap s t i x off)
 | .bp s off => some (.bp s off)
 | .fn f a b => some (.fn f a b)
 | _ => none
def tUn (op : UnOp) (x : TV T) : Option (TV T) :=
 match op, x with
 | .neg, .int k n => some (.int k (k.wrap (0 - n)))
 | .not, .bool b => some (.bool (!b))
 | .xor, .int k n => some (.int k (bits .xor k (if k.signed then -1 else k.max) n))
 | _, _ => none
def tConvert (s d : Nat) (x : TV T) : Option (TV T) :=
 match x with
 | .int _ n => match P.underlying s, P.underlying d with
   | some _, some (.int k) => some (.int k (k.wrap n))
   | _, _ => none
 | .str a => match P.underlying s, P.underlying d with
   | some _, some .string => some (.str a)
   | _, _ => none
 | _ => none
def tTypeAssert (x : TV T) (asserted : Nat) (ok : Bool) : Option (TV T) :=
 match P.underlying asserted, x with
 | some (.interface _), _ => none
 | some _, .iface t v => if t = asserted then some (if ok then .tup [v, .bool true] else v) else none
 | _, _ => none
def tMinMax (max : Bool) : List (TV T) → Option (TV T)
 | [.int k x, .int _ y] => some (.int k (match max with | true => mxI x y | false => mnI x y))
 | [.int k x, .int _ y, .int _ z] => some (.int k (match max with | true => mxI (mxI x y) z | false => mnI (mnI x y) z))
 | _ => none
def tsplice (cs : List (TV T)) (off : Nat) (xs : List (TV T)) : List (TV T) := cs.take off ++ xs ++ cs.drop (off + xs.length)
def tFill (place : Nat → Option (Nat × Nat)) (cells : List (TV T)) : List (Nat × TV T) → Option (List (TV T))
 | [] => some cells
 | (i, x) :: rest => match place i with
   | none => none
   | some (off, size) => if x.solid && x.cells.length == size && decide (off + size ≤ cells.length) then tFill place (tsplice cells off x.cells) rest else none
def tParts (ts : TS T) : List (Nat × Operand) → Option (List (Nat × TV T))
 | [] => some []
 | (i, x) :: r => match ts.ev x, tParts ts r with
   | some v, some vs => some ((i, v) :: vs)
   | _, _ => none
def tZero (t : Nat) : Option (TV T) := ((P.info? t).bind (·.zero)).map TV.ofC
def tBuild (t : Nat) (ps : List (Nat × TV T)) : Option (TV T) :=
 match tZero (T := T) P t with
 | some (.agg z) => match P.underlying t with
   | some (.struct fs) => match fieldPlaces P fs.toList with
     | some places => (tFill (fun i => places[i]?) z ps).map .agg
     | none => none
   | some (.array _ e) => if (P.info? e).isSome then (tFill (fun i => some (i * P.cellsOf e, P.cellsOf e)) z ps).map .agg else none
   | _ => none
 | _ => none
def TV.odd : TV T → Bool
 | .int _ _ | .str _ | .any => false
 | _ => true
mutual
def tEqv : Nat → Nat → TV T → TV T → Option Bool
 | 0, _, _, _ => none
 | d + 1, t, x, y =>
   match x, y with
   | .bool a, .bool b => match P.underlying t with | some .bool => some (a == b) | _ => none
   | .int k a, .int k' b => match P.underlying t with | some (.int _) => if k = k' then some (a == b) else none | _ => none
   | .str a, .str b => match P.underlying t with | some .string => some (a == b) | _ => none
   | .agg xs, .agg ys => match P.underlying t with | some (.struct fs) => if P.stoodInHeld t then none else tEqFs d fs.toList xs ys | _ => none
   | .nilp, .nilp => match P.underlying t with | some (.pointer _) => some true | _ => none
   | .nilp, .ptr _ _ | .nilp, .ref _ _ => match P.underlying t with | some (.pointer _) => some false | _ => none
   | .ptr _ _, .nilp | .ref _ _, .nilp => match P.underlying t with | some (.pointer _) => some false | _ => none
   | .mapn, .mapn => match P.underlying t with | some (.map _ _) => some true | _ => none
   | .nilf, .nilf => match P.underlying t with | some (.func ..) => some true | _ => none
   | .nilf, .fn _ _ _ | .fn _ _ _, .nilf => match P.underlying t with | some (.func ..) => some false | _ => none
   | .nili, .iface _ _ | .iface _ _, .nili => match P.underlying t with | some (.interface _) => some false | _ => none
   | _, _ => none
def tEqFs : Nat → List Field → List (TV T) → List (TV T) → Option Bool
 | 0, _, _, _ => none
 | _, [], _, _ => some true
 | d + 1, f :: fs, xs, ys =>
   if f.name = "_" then tEqFs d fs xs ys else
   match tRd P f.type xs f.offset, tRd P f.type ys f.offset with
   | some a, some b => match tEqv d f.type a b, tEqFs d fs xs ys with
     | some r, some s => some (r && s)
     | _, _ => none
   | _, _ => none
end
def tPlainEq (t : Nat) (x y : TV T) : Bool :=
 match x, y with
 | .agg _, .agg _ => !P.eqGuardType P.depth t
 | .nili, .nili => false
 | .any, _ | _, .any => false
 | _, _ => true
def shl (k : IntKind) (a b : Int) : Option Int := if b < 0 then none else some (k.wrap (a * 2 ^ (min b.toNat k.bits)))
def shr (k : IntKind) (a b : Int) : Option Int := if b < 0 then none else some (a.fdiv (2 ^ (min b.toNat k.bits)))
def tBin {R : Type} (op : BinOp) (t : Nat) (x y : TV T) (k : TV T → Option R) : Option R :=
 match x, y with
 | .int i a, .int i' b => match op with
   | .shl => pBind (shl i a b) fun z => k (.int i z)
   | .shr => pBind (shr i a b) fun z => k (.int i z)
   | _ => if i = i' then (match op with
     | .add => k (.int i (i.wrap (a + b)))
     | .sub => k (.int i (i.wrap (a - b)))
     | .mul => k (.int i (i.wrap (a * b)))
     | .quo => pBind (quo i a b) fun z => k (.int i z)
     | .rem => pBind (rem i a b) fun z => k (.int i z)
     | .eql => k (.bool (a == b))
     | .neq => k (.bool (a != b))
     | .lss => k (.bool (decide (a < b)))
     | .leq => k (.bool (decide (a ≤ b)))
     | .gtr => k (.bool (decide (a > b)))
     | .geq => k (.bool (decide (a ≥ b)))
     | .and => k (.int i (bits .and i a b))
     | .or => k (.int i (bits .or i a b))
     | .xor => k (.int i (bits .xor i a b))
     | .andNot => k (.int i (bits .andNot i a b))
     | _ => none) else none
 | .str a, .str b => match op with
   | .add => pBind (cat a b) fun z => k (.str z)
   | .eql => k (.bool (a == b))
   | .neq => k (.bool (!(a == b)))
   | .lss => k (.bool (Op.bytesLess a b))
   | .leq => k (.bool (Op.bytesLess a b || a == b))
   | .gtr => k (.bool (!(Op.bytesLess a b || a == b)))
   | .geq => k (.bool (!Op.bytesLess a b))
   | _ => none
 | x, y => match op with
   | .eql => if x.odd && tPlainEq P t x y then (match tEqv P 24 t x y with | some r => k (.bool r) | none => none) else none
   | .neq => if x.odd && tPlainEq P t x y then (match tEqv P 24 t x y with | some r => k (.bool (!r)) | none => none) else none
   | _ => none
end
section
variable (P : Program) (D : Dat)
def bufT {T : Nat → Type} : Option Nat → TV T
 | none => .nils
 | some s => .own s
def bytesI (s : List UInt8) : List Int := s.map fun b => ((b.toNat : Nat) : Int)
def strI : List Int → Option (List UInt8)
 | [] => some []
 | x :: r => match x, strI r with
   | .ofNat m, some s => match Nat.ble m 255 with
     | true => some (m.toUInt8 :: s)
     | false => none
   | _, _ => none
def tLoad (ts : TS D.T) (t : Nat) : TV D.T → Option (TV D.T)
 | .ref cs off => tRd P t cs off
 | .ptr s off => match fnd ts.o s with
   | some (.cells cs) => tRd P t cs off
   | _ => none
 | .ap s τ i x off => match fnd ts.o s with
   | some (.acc _ _ _ _) => tRd P t (D.tv τ x).cells off
   | _ => none
 | .bp s off => match fnd ts.o s with
   | some (.bld _ b) => tRd P t [.any, bufT b] off
   | _ => none
 | _ => none
def tLen (ts : TS D.T) (t : Nat) (x : TV D.T) : Option (TV D.T) :=
 match x with
 | .str s => match P.underlying t with | some .string => some (.int .i64 s.length) | _ => none
 | .nils => match P.underlying t with | some (.slice _) => some (.int .i64 0) | _ => none
 | .sl _ xs _ => match P.underlying t with | some (.slice _) => some (.int .i64 xs.length) | _ => none
 | .own s => match P.underlying t, fnd ts.o s with
   | some (.slice _), some (.acc _ _ xs _) => some (.int .i64 xs.length)
   | _, _ => none
 | .agg _ => match P.underlying t with | some (.array n _) => some (.int .i64 n) | _ => none
 | _ => none
def tBuildSlice (t len : Nat) (ps : List (Nat × TV D.T)) : FR (TV D.T) :=
 match P.underlying t with
 | some (.slice e) => match zeroV P e, D.ty e with
   | some z, some τ =>
     if z.solid && z.cells.length == P.cellsOf e && decide (0 < P.cellsOf e) && (P.info? e).isSome && ps.length == len && (ps.map (·.1) == List.range len) && ps.all (fun p => p.2.solid && p.2.cells.length == P.cellsOf e) && decide (len * P.cellsOf e ≤ 2 ^ 24) && D.len τ == P.cellsOf e then
       (match asDs D τ (ps.map (·.2)) with
       | .ok xs => .ok (.sl τ xs (if len = 0 then 2 else 1))
       | .frz s => .frz s
       | .bad => .bad)
     else .bad
   | _, _ => .bad
 | _ => .bad
def tP1 (ts : TS D.T) (op : Op) : FR (TV D.T) :=
 match op with
 | .move x => .of (ts.ev x)
 | .assign x => .of (ts.ev x)
 | .load t a => match ts.ev a with | some a => .of (tLoad P D ts t a) | none => .bad
 | .nilCheck x => match ts.ev x with | some x => .of (tNil x) | none => .bad
 | .unOp o _ x => match ts.ev x with | some x => .of (tUn o x) | none => .bad
 | .convert s d x => match ts.ev x with | some x => .of (tConvert P s d x) | none => .bad
 | .makeInterface t x => match ts.ev x with | some x => if P.concrete t then .ok (.iface t x) else .bad | none => .bad
 | .makeFunc (.func f) first caps => match ts.evs first.toList, ts.evs caps.toList with
   | some a, some b => .ok (.fn f a b)
   | _, _ => .bad
 | .fieldAddr s x f => match ts.ev x with | some x => .of (tFieldAddr P s f x) | none => .bad
 | .field s x f => match ts.ev x with | some x => .of (tField P s f x) | none => .bad
 | .typeAssert x _ u ok => match ts.ev x with | some x => .of (tTypeAssert P x u ok) | none => .bad
 | .extract x i => match ts.ev x with | some x => .of (tExtract i x) | none => .bad
 | .build t ps => match tParts ts ps.toList with | some ps => .of (tBuild P t ps) | none => .bad
 | .buildSlice t len ps => match tParts ts ps.toList with | some ps => tBuildSlice P D t len ps | none => .bad
 | .call c => match c.callee with
   | .builtin .len => match c.args.toList, c.argTypes.toList with
     | [x], [t] => match ts.ev x with | some x => .of (tLen P D ts t x) | none => .bad
     | _, _ => .bad
   | .builtin .min => match ts.evs c.args.toList with | some l => .of (tMinMax false l) | none => .bad
   | .builtin .max => match ts.evs c.args.toList with | some l => .of (tMinMax true l) | none => .bad
   | _ => .bad
 | _ => .bad
def idxSplit {R : Type} : Nat → Int → (Nat → Option R) → Option R
 | 0, _, _ => none
 | 1, _, f => f 0
 | m + 2, n, f => pIf (n == Int.ofNat (m + 1)) (f (m + 1)) (idxSplit (m + 1) n f)
def inR (len : Nat) (n : Int) : Option Unit := if 0 ≤ n ∧ n < (len : Int) then some () else none
def strB (P : Program) (e : Nat) : Bool := match P.underlying e with
 | some .string => true
 | _ => false
def tIdxArr {T : Nat → Type} {R : Type} (P : Program) (len e : Nat) (x : TV T) (k : TV T → Option R) (n : Nat) : Option R :=
 if n < len ∧ (P.underlying e).isSome then (match x with
  | .ref cs off => k (.ref cs (off + n * P.cellsOf e))
  | .ptr s off => k (.ptr s (off + n * P.cellsOf e))
  | .ap s t i x off => k (.ap s t i x (off + n * P.cellsOf e))
  | _ => none) else none
def tIndexAddr {R : Type} (ts : TS D.T) (t : Nat) (x i : TV D.T) (k : TV D.T → Option R) : Option R :=
 match i with
 | .int _ n => match P.underlying t with
   | some (.slice e) => if (P.underlying e).isSome then (match x with
     | .sl τ xs _ => if D.len τ = P.cellsOf e then pBind (ix xs n) fun y => k (.ref (D.tv τ y).cells 0) else none
     | .own s => match fnd ts.o s with
       | some (.acc _ τ xs _) => if D.len τ = P.cellsOf e then pBind (ix xs n) fun y => k (.ap s τ n y 0) else none
       | _ => none
     | _ => none) else none
   | some (.array len e) => match strB P e with
     | true => pBind (inR len n) fun _ => idxSplit len n (tIdxArr P len e x k)
     | false => (match n with
       | .ofNat n => tIdxArr P len e x k n
       | _ => none)
   | _ => none
 | _ => none
def tIndex {R : Type} (t : Nat) (x i : TV D.T) (k : TV D.T → Option R) : Option R :=
 match i with
 | .int _ n => match x with
   | .str s => match P.underlying t with
     | some .string => pBind (ix s n) fun b => k (.int .u8 b.toNat)
     | _ => none
   | .agg cs => match P.underlying t with
     | some (.array len e) => match D.ty e with
       | some τ => if cs.length = len ∧ P.cellsOf e = 1 ∧ (P.underlying e).isSome ∧ (P.underlying e).any (fun d => !TypeDesc.isAgg d) then (match asLeaves D (List.replicate cs.length τ) cs with
         | .ok _ => match asDs D τ cs with
           | .ok xs => pBind (ix xs n) fun y => k (D.leaf τ y)
           | _ => none
         | _ => none) else none
       | none => none
     | _ => none
   | _ => none
 | _ => none
def tBnd (d : Int) : Option (TV D.T) → Option Int
 | none => some d
 | some (.int _ x) => some x
 | _ => none
def tSlice {R : Type} (t : Nat) (x : TV D.T) (lo hi : Option (TV D.T)) (k : TV D.T → Option R) (kf : Nat → Option R) : Option R :=
 match x with
 | .str s => match P.underlying t with
   | some .string => match tBnd D 0 lo, tBnd D s.length hi with
     | some l, some h => pBind (sub s l h) fun y => k (.str y)
     | _, _ => none
   | _ => none
 | .sl τ xs fl => match P.underlying t with
   | some (.slice e) => if D.len τ = P.cellsOf e ∧ (P.underlying e).isSome then (match tBnd D 0 lo, tBnd D xs.length hi with
       | some l, some h => pBind (sub xs l h) fun y => k (.sl τ y (match hi with | none => min fl 1 | some _ => 0))
       | _, _ => none) else none
   | _ => none
 | .own s => kf s
 | _ => none
def oev (ts : TS D.T) : Option Operand → Option (Option (TV D.T))
 | none => some none
 | some x => (ts.ev x).map some
def cutO {α : Type} (xs : List α) (a : Int) : Option Unit := if 0 ≤ a ∧ a ≤ xs.length ∧ 0 < xs.length then some () else none
def tCut {R : Type} (ts : TS D.T) (t : Nat) (x lo : TV D.T) (k : TV D.T → Option R) (kf : Option R) : Option R :=
 match x, lo with
 | .own s, .int .i64 a => match P.underlying t, fnd ts.o s with
   | some (.slice e), some (.acc _ τ xs true) => if D.len τ = P.cellsOf e ∧ (P.underlying e).isSome then pBind (cutO xs a) fun _ => k (.osl s a) else none
   | _, _ => none
 | _, _ => kf
def tP {R : Type} (ts : TS D.T) (op : Op) (k : TV D.T → Option R) (kf : Nat → Option R) : Option R :=
 match op with
 | .pick c a b => match ts.ev c, ts.ev a, ts.ev b with
   | some (.bool t), some x, some y => pIf t (k x) (k y)
   | _, _, _ => none
 | .binOp o t x y _ => match ts.ev x, ts.ev y with
   | some x, some y => tBin P o t x y k
   | _, _ => none
 | .indexAddr t x i => match ts.ev x, ts.ev i with
   | some x, some i => tIndexAddr P D ts t x i k
   | _, _ => none
 | .index t x i => match ts.ev x, ts.ev i with
   | some x, some i => tIndex P D t x i k
   | _, _ => none
 | .slice t x lo hi mx => match ts.ev x, oev D ts lo, oev D ts hi, mx with
   | some x, some lo, some hi, none => tSlice P D t x lo hi k kf
   | _, _, _, _ => none
 | op => match tP1 P D ts op with
   | .ok v => k v
   | .frz s => kf s
   | .bad => none
mutual
def TV.ren (s s' : Nat) : TV D.T → TV D.T
 | .own j => if j = s then .own s' else .own j
 | .agg cs => .agg (TV.renL s s' cs)
 | .tup cs => .tup (TV.renL s s' cs)
 | v => v
def TV.renL (s s' : Nat) : List (TV D.T) → List (TV D.T)
 | [] => []
 | v :: vs => TV.ren s s' v :: TV.renL s s' vs
end
mutual
def TV.frz (s : Nat) (t : DTy) (xs : List (t.S D.T)) : TV D.T → TV D.T
 | .own j => if j = s then .sl t xs 0 else .own j
 | .agg cs => .agg (TV.frzL s t xs cs)
 | .tup cs => .tup (TV.frzL s t xs cs)
 | v => v
def TV.frzL (s : Nat) (t : DTy) (xs : List (t.S D.T)) : List (TV D.T) → List (TV D.T)
 | [] => []
 | v :: vs => TV.frz s t xs v :: TV.frzL s t xs vs
end
def TO.map (f : TV D.T → TV D.T) : TO D.T → TO D.T
 | .cells cs => .cells (cs.map f)
 | .bld ty (some s) => match f (.own s) with
   | .own s' => .bld ty (some s')
   | _ => .gone
 | o => o
def TS.mapV (ts : TS D.T) (f : TV D.T → TV D.T) : TS D.T :=
 { ts with t := ts.t.map fun p => (p.1, f p.2), o := ts.o.map fun p => (p.1, TO.map D f p.2), d := ts.d.map fun p => (p.1, p.2.map f) }
def TS.freeze (ts : TS D.T) (s : Nat) : Option (TS D.T) :=
 match ts.d, fnd ts.o s with
 | [], some (.acc _ t xs _) => let ts' := ts.mapV D (TV.frz D s t xs); some { ts' with o := (s, .gone) :: ts'.o }
 | _, _ => none
def TS.put (ts : TS D.T) (dst : Option Nat) (v : TV D.T) : Option (TS D.T) :=
 match dst with
 | none => some ts
 | some d => if d < ts.nt then some { ts with t := (d, v) :: ts.t } else none
def TS.new (ts : TS D.T) (o : TO D.T) : TS D.T := { ts with o := (ts.nx, o) :: ts.o, nx := ts.nx + 1 }
def TS.set (ts : TS D.T) (s : Nat) (o : TO D.T) : TS D.T := { ts with o := (s, o) :: ts.o }
def tStore {R : Type} (ts : TS D.T) (t : Nat) (a x : TV D.T) (k : TV D.T → TS D.T → Option R) (kf : Nat → Option R) : Option R :=
 if x.solid && (P.info? t).isSome && x.cells.length == P.cellsOf t then
  match a with
  | .ptr s off => match fnd ts.o s with
    | some (.cells cs) => if off + x.cells.length ≤ cs.length then k .any (ts.set D s (.cells (tsplice cs off x.cells))) else none
    | _ => none
  | .ap s τ i y off => match fnd ts.o s with
    | some (.acc ty τ' xs true) => if τ = τ' ∧ τ ≠ .nat ∧ off + x.cells.length ≤ (D.tv τ y).cells.length then
        (match asD D τ' (match D.tv τ y with | .agg cs => .agg (tsplice cs off x.cells) | _ => x) with
        | .ok z => let ts' := (ts.mapV D (TV.ren D s ts.nx)).new D (.acc ty τ' (xs.set i.toNat z) true); k .any (ts'.set D s .gone)
        | .frz s => kf s
        | .bad => none) else none
    | _ => none
  | .bp s 1 => match fnd ts.o s, x with
    | some (.bld ty b), .own q => k .any (ts.set D s (.bld ty (some q)))
    | _, _ => none
  | _ => none
 else none
def tSrc (ts : TS D.T) (τ : DTy) : TV D.T → Option (List (τ.S D.T))
 | .nils => some []
 | .sl t xs _ => lcast t τ xs
 | .own s => match fnd ts.o s with
   | some (.acc _ t xs _) => lcast t τ xs
   | _ => none
 | .str s => match τ with
   | .int .u8 => some (bytesI s)
   | _ => none
 | _ => none
def tDst (ts : TS D.T) (e : Nat) (τ : DTy) : TV D.T → Option (List (τ.S D.T) × Bool × Option Nat)
 | .nils => some ([], true, none)
 | .sl t xs 1 => if τ = .int .u8 then none else (lcast t τ xs).map fun xs => (xs, false, none)
 | .sl t xs 2 => if τ = .int .u8 then none else (lcast t τ xs).map fun xs => (xs, true, none)
 | .own s => match fnd ts.o s with
   | some (.acc e' t xs w) => if e' = e then (lcast t τ xs).map fun xs => (xs, w, some s) else none
   | _ => none
 | _ => none
def tAppend {R : Type} (ts : TS D.T) (t u : Nat) (s x : TV D.T) (k : TV D.T → TS D.T → Option R) : Option R :=
 match P.underlying t, P.underlying u with
 | some (.slice e), some du =>
   match P.info? e, D.ty e with
   | some i, some τ =>
     match i.zero with
     | some z => if notInt du && decide (0 < i.size) && decide (i.bytes ≤ 524288) && z.cells.size == i.size && D.len τ == i.size then
         (match tSrc D ts τ x, tDst D ts e τ s with
         | some ys, some (xs, w, old) => pBind (ext xs ys) fun zs =>
           k (.own ts.nx) (match old with | none => ts.new D (.acc e τ zs w) | some s => (ts.new D (.acc e τ zs w)).set D s .gone)
         | _, _ => none) else none
     | none => none
   | _, _ => none
 | _, _ => none
def tCopy {R : Type} (ts : TS D.T) (t : Nat) (d s : TV D.T) (k : TV D.T → TS D.T → Option R) : Option R :=
 match d, s with
 | .osl s a, .osl s' b => if s = s' then (match P.underlying t, fnd ts.o s with
   | some (.slice e), some (.acc ty τ xs true) => if D.len τ = P.cellsOf e ∧ (P.info? e).isSome then
       pBind (shiftO xs a b) fun ys => k .any (((ts.mapV D (TV.ren D s ts.nx)).new D (.acc ty τ ys true)).set D s .gone) else none
   | _, _ => none) else none
 | _, _ => none
def tNext {R : Type} (ts : TS D.T) (x : TV D.T) (str : Bool) (k : TV D.T → TS D.T → Option R) : Option R :=
 match x, str with
 | .ptr s 0, true => match fnd ts.o s with
   | some (.siter l pos) => pIf (decide (pos < l.length)) (k (.tup [.bool true, .int .i64 pos, .int .i32 (decL l pos).1]) (ts.set D s (.siter l (pos + (decL l pos).2)))) (k (.tup [.bool false]) ts)
   | _ => none
 | _, _ => none
def tOp {R : Type} (ts : TS D.T) (op : Op) (k : TV D.T → TS D.T → Option R) (kf : Nat → Option R) : Option R :=
 match op with
 | .alloc t => match tZero (T := D.T) P t with
   | some z => if z.solid then k (.ptr ts.nx 0) (ts.new D (.cells z.cells)) else none
   | none => none
 | .box _ x => match ts.ev x with
   | some v => if v.solid then k (.ptr ts.nx 0) (ts.new D (.cells v.cells)) else none
   | none => none
 | .store t a x => match ts.ev a, ts.ev x with
   | some a, some x => tStore P D ts t a x k kf
   | _, _ => none
 | .range t x => match ts.ev x with
   | some (.str s) => match P.underlying t with
     | some .string => k (.ptr ts.nx 0) (ts.new D (.siter s 0))
     | _ => none
   | _ => none
 | .next i b => match ts.ev i with
   | some i => tNext D ts i b k
   | none => none
 | op => match op with
   | .call c => match c.callee, c.args.toList, c.argTypes.toList with
     | .builtin .append, [s, x], [t, u] => match ts.ev s, ts.ev x with
       | some s, some x => tAppend P D ts t u s x k
       | _, _ => none
     | .builtin .copy, [d, s], [t, u] => match ts.ev d, ts.ev s with
       | some d, some s => tCopy P D ts t d s k
       | _, _ => none
     | _, _, _ => tP P D ts op (fun v => k v ts) kf
   | op => tP P D ts op (fun v => k v ts) kf
end
inductive Sh where
 | any
 | d (t : DTy)
 | own (k : Nat)
 | ptr (k off : Nat)
 | bp (k : Nat)
 | nilp
 | nilf
 | nili
 | nils
 | fn (f : Nat) (a b : List Sh)
 | iface (t : Nat) (s : Sh)
 | agg (cs : List Sh)
 | tup (cs : List Sh)
 | ref (cs : List Sh) (off : Nat)
inductive OSh where
 | cells (cs : List Sh)
 | st (i : Nat)
 | acc (ty : Nat) (t : DTy) (w : Bool)
 | siter
 | bld (ty k : Nat)
mutual
def Sh.tys : Sh → List DTy
 | .d t => [t]
 | .fn _ a b => Sh.tysL a ++ Sh.tysL b
 | .iface _ s => s.tys
 | .agg cs => Sh.tysL cs
 | .tup cs => Sh.tysL cs
 | .ref cs _ => Sh.tysL cs
 | _ => []
def Sh.tysL : List Sh → List DTy
 | [] => []
 | s :: l => s.tys ++ Sh.tysL l
end
end Go.Ab


namespace Go.Ab
open Go
set_option linter.unusedVariables false
inductive Src (T : Nat → Type) where
 | slot (s : Nat)
 | nil
abbrev Bnds (T : Nat → Type) := List (Nat × Src T)
section
variable {T : Nat → Type}
def Src.isSlot (s : Nat) : Src T → Bool
 | .slot s' => s' == s
 | _ => false
def bindS (n k s : Nat) (M : Bnds T) : Option (Bnds T) :=
 match fnd M k with
 | some (.slot s') => if s' = s then some M else none
 | some _ => none
 | none => if k < n ∧ M.all (fun p => !p.2.isSlot s) then some ((k, .slot s) :: M) else none
def bindN (n k : Nat) (M : Bnds T) : Option (Bnds T) :=
 match fnd M k with
 | some .nil => some M
 | some _ => none
 | none => if k < n then some ((k, .nil) :: M) else none
def frU (o : Option (Bnds T)) : FR (Bnds T × Unit) :=
 match o with
 | some M => .ok (M, ())
 | none => .bad
end
def OSh.tys : OSh → List DTy
 | .cells cs => Sh.tysL cs
 | .st i => [.st i]
 | .acc _ t _ => [.sl t]
 | .siter => [.str, .nat]
 | .bld _ _ => []
def tysO : List OSh → List DTy
 | [] => []
 | o :: l => o.tys ++ tysO l
def tysT : List (Nat × Sh) → List DTy
 | [] => []
 | p :: l => p.2.tys ++ tysT l
section
variable (D : Dat)
mutual
def fitV (n : Nat) : (sh : Sh) → TV D.T → Bnds D.T → FR (Bnds D.T × HL D.T sh.tys)
 | .any, _, M => .ok (M, ())
 | .d t, v, M => match asD D t v with
   | .ok x => .ok (M, (x, ()))
   | .frz s => .frz s
   | .bad => .bad
 | .own k, .own s, M => frU (bindS n k s M)
 | .own k, .nils, M => frU (bindN n k M)
 | .ptr k off, .ptr s off', M => if off = off' then frU (bindS n k s M) else .bad
 | .bp k, .bp s 0, M => frU (bindS n k s M)
 | .nilp, .nilp, M => .ok (M, ())
 | .nilf, .nilf, M => .ok (M, ())
 | .nili, .nili, M => .ok (M, ())
 | .nils, .nils, M => .ok (M, ())
 | .fn f a b, .fn f' a' b', M => if f = f' then (match fitL n a a' M with
   | .ok (M, x) => match fitL n b b' M with
     | .ok (M, y) => .ok (M, HL.app x y)
     | .frz s => .frz s
     | .bad => .bad
   | .frz s => .frz s
   | .bad => .bad) else .bad
 | .iface t s, .iface t' v, M => if t = t' then fitV n s v M else .bad
 | .agg cs, .agg vs, M => fitL n cs vs M
 | .tup cs, .tup vs, M => fitL n cs vs M
 | .ref cs off, .ref vs off', M => if off = off' then fitL n cs vs M else .bad
 | _, _, _ => .bad
def fitL (n : Nat) : (l : List Sh) → List (TV D.T) → Bnds D.T → FR (Bnds D.T × HL D.T (Sh.tysL l))
 | [], [], M => .ok (M, ())
 | sh :: l, v :: vs, M => match fitV n sh v M with
   | .ok (M, x) => match fitL n l vs M with
     | .ok (M, y) => .ok (M, HL.app x y)
     | .frz s => .frz s
     | .bad => .bad
   | .frz s => .frz s
   | .bad => .bad
 | _, _, _ => .bad
end
mutual
def bldV (m : Nat → Nat) : (sh : Sh) → HL D.T sh.tys → TV D.T
 | .any, _ => .any
 | .d t, x => D.tv t x.1
 | .own k, _ => .own (m k)
 | .ptr k off, _ => .ptr (m k) off
 | .bp k, _ => .bp (m k) 0
 | .nilp, _ => .nilp
 | .nilf, _ => .nilf
 | .nili, _ => .nili
 | .nils, _ => .nils
 | .fn f a b, x => .fn f (bldL m a (HL.fst _ x)) (bldL m b (HL.snd _ x))
 | .iface t s, x => .iface t (bldV m s x)
 | .agg cs, x => .agg (bldL m cs x)
 | .tup cs, x => .tup (bldL m cs x)
 | .ref cs off, x => .ref (bldL m cs x) off
def bldL (m : Nat → Nat) : (l : List Sh) → HL D.T (Sh.tysL l) → List (TV D.T)
 | [], _ => []
 | sh :: l, x => bldV m sh (HL.fst _ x) :: bldL m l (HL.snd _ x)
end
def fitO (n : Nat) (ts : TS D.T) : (o : OSh) → Src D.T → Bnds D.T → FR (Bnds D.T × HL D.T o.tys)
 | .cells cs, .slot s, M => match fnd ts.o s with
   | some (.cells vs) => fitL D n cs vs M
   | _ => .bad
 | .st i, .slot s, M => match fnd ts.o s with
   | some (.cells vs) => match asLeaves D (D.fl i) vs with
     | .ok x => .ok (M, (D.make i x, ()))
     | .frz s => .frz s
     | .bad => .bad
   | _ => .bad
 | .acc ty t w, .slot s, M => match fnd ts.o s with
   | some (.acc ty' t' xs w') => if ty = ty' ∧ (w = true → w' = true) then (match lcast t' t xs with | some xs => .ok (M, (xs, ())) | none => .bad) else .bad
   | _ => .bad
 | .acc _ _ _, .nil, M => .ok (M, ([], ()))
 | .siter, .slot s, M => match fnd ts.o s with
   | some (.siter l pos) => .ok (M, (l, (pos, ())))
   | _ => .bad
 | .bld ty k, .slot s, M => match fnd ts.o s with
   | some (.bld ty' b) => if ty = ty' then (match b with
     | some q => frU (bindS n k q M)
     | none => frU (bindN n k M)) else .bad
   | _ => .bad
 | _, _, _ => .bad
def fitOs (n : Nat) (ts : TS D.T) : (os : List OSh) → Nat → Bnds D.T → FR (Bnds D.T × HL D.T (tysO os))
 | [], _, M => .ok (M, ())
 | o :: os, k, M => match fnd M k with
   | some src => match fitO D n ts o src M with
     | .ok (M, x) => match fitOs n ts os (k + 1) M with
       | .ok (M, y) => .ok (M, HL.app x y)
       | .frz s => .frz s
       | .bad => .bad
     | .frz s => .frz s
     | .bad => .bad
   | none => .bad
def fitTs (n : Nat) (ts : TS D.T) : (l : List (Nat × Sh)) → Bnds D.T → FR (Bnds D.T × HL D.T (tysT l))
 | [], M => .ok (M, ())
 | p :: l, M => match fnd ts.t p.1 with
   | some v => match fitV D n p.2 v M with
     | .ok (M, x) => match fitTs n ts l M with
       | .ok (M, y) => .ok (M, HL.app x y)
       | .frz s => .frz s
       | .bad => .bad
     | .frz s => .frz s
     | .bad => .bad
   | none => .bad
def bldO (m : Nat → Nat) : (o : OSh) → HL D.T o.tys → TO D.T
 | .cells cs, x => .cells (bldL D m cs x)
 | .st i, x => .cells (D.leaves (D.fl i) (D.get i x.1))
 | .acc ty t w, x => .acc ty t x.1 w
 | .siter, x => .siter x.1 x.2.1
 | .bld ty k, _ => .bld ty (some (m k))
def bldOs (m : Nat → Nat) : (os : List OSh) → Nat → HL D.T (tysO os) → List (Nat × TO D.T)
 | [], _, _ => []
 | o :: os, k, x => (m k, bldO D m o (HL.fst _ x)) :: bldOs m os (k + 1) (HL.snd _ x)
def bldT (m : Nat → Nat) : (l : List (Nat × Sh)) → HL D.T (tysT l) → List (Nat × TV D.T)
 | [], _ => []
 | p :: l, x => (p.1, bldV D m p.2 (HL.fst _ x)) :: bldT m l (HL.snd _ x)
end
structure LSh where
 ts : List (Nat × Sh)
 os : List OSh
 pin : Nat
 nt : Nat
def LSh.tys (l : LSh) : List DTy := tysT l.ts ++ tysO l.os
section
variable (D : Dat)
def LSh.bld (l : LSh) (x : HL D.T l.tys) : TS D.T :=
 ⟨bldT D (fun k => k) l.ts (HL.fst _ x), bldOs D (fun k => k) l.os 0 (HL.snd _ x), l.os.length, l.nt, []⟩
def pins {T : Nat → Type} : Nat → Bnds T
 | 0 => []
 | n + 1 => (n, .slot n) :: pins n
def LSh.fit (l : LSh) (ts : TS D.T) : FR (HL D.T l.tys) :=
 if ts.nt = l.nt ∧ ts.d.isEmpty = true then (match fitTs D l.os.length ts l.ts (pins l.pin) with
  | .ok (M, x) => match fitOs D l.os.length ts l.os 0 M with
    | .ok (_, y) => .ok (HL.app x y)
    | .frz s => .frz s
    | .bad => .bad
  | .frz s => .frz s
  | .bad => .bad) else .bad
def LSh.enter {R : Type} (l : LSh) (k : HL D.T l.tys → Option R) : Nat → TS D.T → Option R
 | 0, _ => none
 | f + 1, ts => match l.fit D ts with
   | .ok x => k x
   | .frz s => match ts.freeze D s with
     | some ts' => LSh.enter l k f ts'
     | none => none
   | .bad => none
structure Ent where
 f : Nat
 p : Nat
 args : List Sh
 aos : List OSh
 outs : List Sh
 ros : List OSh
 pan : Sh
 pos : List OSh
 pure : Bool
 go : {R : Type} → HL D.T (Sh.tysL args ++ tysO aos) → (HL D.T (Sh.tysL outs ++ tysO ros) → Option R) → (HL D.T (pan.tys ++ tysO pos) → Option R) → Option R
 /-- what is turned in place: the number of what was given, that of what is left (of the same value) -/
 ren : List (Nat × Nat) := []
def Ent.fit (e : Ent D) (vs : List (TV D.T)) (ts : TS D.T) : FR (Bnds D.T × HL D.T (Sh.tysL e.args ++ tysO e.aos)) :=
 match fitL D e.aos.length e.args vs [] with
 | .ok (M, x) => match fitOs D e.aos.length ts e.aos 0 M with
   | .ok (M, y) => .ok (M, HL.app x y)
   | .frz s => .frz s
   | .bad => .bad
 | .frz s => .frz s
 | .bad => .bad
def outSlot (M : Bnds D.T) (p nx k : Nat) : Nat :=
 if k < p then (match fnd M k with | some (.slot s) => s | _ => 0) else nx + (k - p)
def goneAll : Bnds D.T → List (Nat × TO D.T)
 | [] => []
 | (_, .slot s) :: l => (s, .gone) :: goneAll l
 | (_, .nil) :: l => goneAll l
def afterCall (M : Bnds D.T) (p : Nat) (ts : TS D.T) (os : List OSh) (y : HL D.T (tysO os)) : TS D.T :=
 { ts with o := bldOs D (outSlot D M p ts.nx) os 0 y ++ (goneAll D M ++ ts.o), nx := ts.nx + (os.length - p) }
def renAfter (M : Bnds D.T) (p nx : Nat) : List (Nat × Nat) → TS D.T → TS D.T
 | [], ts => ts
 | q :: l, ts => match fnd M q.1 with
   | some (.slot s) => renAfter M p nx l (ts.mapV D (TV.ren D s (outSlot D M p nx q.2)))
   | _ => renAfter M p nx l ts
def tupT : List (TV D.T) → TV D.T
 | [v] => v
 | vs => .tup vs
def pCall {R : Type} (f : Nat) (vs : List (TV D.T)) (ts : TS D.T) (k kp : TV D.T → TS D.T → Option R) (kf : Nat → Option R) : Option R := none
def tCall {R : Type} (f : Nat) (vs : List (TV D.T)) (ts : TS D.T) (k kp : TV D.T → TS D.T → Option R) (kf : Nat → Option R) : List (Ent D) → Option R
 | [] => pCall D f vs ts k kp kf
 | e :: r => match Nat.beq e.f f with
   | false => tCall f vs ts k kp kf r
   | true => match e.fit D vs ts with
     | .bad => tCall f vs ts k kp kf r
     | .frz s => kf s
     | .ok (M, x) => if e.p ≤ e.aos.length ∧ e.p ≤ e.ros.length ∧ e.p ≤ e.pos.length ∧ (List.range e.p).all (fun k => match fnd M k with | some (.slot _) => true | _ => false) then
         e.go x (fun y => k (tupT D (bldL D (outSlot D M e.p ts.nx) e.outs (HL.fst _ y))) (renAfter D M e.p ts.nx e.ren (afterCall D M e.p ts e.ros (HL.snd _ y))))
           (fun y => kp (bldV D (outSlot D M e.p ts.nx) e.pan (HL.fst _ y)) (afterCall D M e.p ts e.pos (HL.snd _ y)))
         else none
end
section
variable (P : Program) (D : Dat) (tbl : List (Ent D))
def tOne {R : Type} (op : Op) (k kp : TV D.T → TS D.T → Option R) : Nat → TS D.T → Option R
 | 0, _ => none
 | fuel + 1, ts =>
   let kf := fun s => match ts.freeze D s with
     | some ts' => tOne op k kp fuel ts'
     | none => none
   match op with
   | .call c => match c.callee with
     | .value x => match ts.ev x, ts.evs c.args.toList with
       | some (.fn f a b), some vs => tCall D f (a ++ vs ++ b) ts k kp kf tbl
       | _, _ => none
     | _ => tOp P D ts op k kf
   | .panic x => match ts.ev x with
     | some (.iface t v) => kp (.iface t v) ts
     | _ => none
   | .defer c => match c.callee with
     | .value x => match ts.ev x, ts.evs c.args.toList with
       | some (.fn f a b), some vs => k .any { ts with d := (f, a ++ vs ++ b) :: ts.d }
       | _, _ => none
     | _ => none
   | .binOp o t x y _ => match ts.ev x, ts.ev y with
     | some .nili, some .nili => (match isC x || isC y, P.underlying t with
       | true, some (.interface _) => (match o with
         | .eql => k (.bool true) ts
         | .neq => k (.bool false) ts
         | _ => none)
       | _, _ => none)
     | _, _ => tOp P D ts op k kf
   | .alloc t => match zeroV P t, P.info? t with
     | some (.agg [.nilp, .nils]), some i => (match isBld P t && Nat.beq i.size 2 with
       | true => k (.bp ts.nx 0) (ts.new D (.bld t none))
       | false => tOp P D ts op k kf)
     | _, _ => tOp P D ts op k kf
   | .convert s d x => match ts.ev x with
     | some (.sl (.int .u8) xs _) => (match P.underlying s, P.underlying d with
       | some (.slice e), some .string => (match P.underlying e with
         | some (.int .u8) => pBind (strI xs) fun y => k (.str y) ts
         | _ => none)
       | _, _ => none)
     | _ => tOp P D ts op k kf
   | _ => tOp P D ts op k kf
def tGuard {R : Type} (all : List Oper) (o : Oper) (ts : TS D.T) (go skip : TS D.T → Option R) : Option R :=
 match o.guard with
 | none => go ts
 | some (j, want) => match (all[j]?).bind (·.dst) with
   | none => none
   | some d => match fnd ts.t d with
     | some (.bool b) => pIf b (if want then go { ts with t := (d, .bool true) :: ts.t } else skip { ts with t := (d, .bool true) :: ts.t })
         (if want then skip { ts with t := (d, .bool false) :: ts.t } else go { ts with t := (d, .bool false) :: ts.t })
     | some (.tup _) => skip ts
     | _ => none
def cpB (all : List Oper) (o : Oper) : Option (Nat × Operand × Operand) := match o.op, o.dst with
 | .slice t x (some lo) none none, some d => if all.any (fun q => match q.op with
   | .call c => (match c.callee with
     | .builtin .copy => c.args.toList.any fun a => (match a with
       | .tmp i => Nat.beq i d
       | _ => false)
     | _ => false)
   | _ => false) then some (t, x, lo) else none
 | _, _ => none
def tPC {R : Type} (all : List Oper) (o : Oper) (k : TV D.T → Option R) (ts : TS D.T) : Option R := match cpB all o with
 | some (t, x, lo) => (match ts.ev x, ts.ev lo with
   | some x, some lo => tCut P D ts t x lo k (tP P D ts o.op k fun _ => none)
   | _, _ => none)
 | none => tP P D ts o.op k fun _ => none
def tOneC {R : Type} (all : List Oper) (o : Oper) (k kp : TV D.T → TS D.T → Option R) (ts : TS D.T) : Option R := match cpB all o with
 | some (t, x, lo) => (match ts.ev x, ts.ev lo with
   | some x, some lo => tCut P D ts t x lo (fun v => k v ts) (tOne P D tbl o.op k kp 9 ts)
   | _, _ => none)
 | none => tOne P D tbl o.op k kp 9 ts
def runOps {R : Type} (all : List Oper) (kn : TS D.T → Option R) (kp : TV D.T → TS D.T → Option R) : List Oper → TS D.T → Option R
 | [], ts => kn ts
 | o :: rest, ts => pOp o <| tGuard D all o ts
   (fun ts => tOneC P D tbl all o (fun v ts => match ts.put D o.dst v with | some ts => runOps all kn kp rest ts | none => none) kp ts)
   (fun ts => match ts.put D o.dst (.tup []) with | some ts => runOps all kn kp rest ts | none => none)
def pureE (f : Nat) : Bool := tbl.any fun e => Nat.beq e.f f && e.pure
def pureOp (op : Op) : Bool :=
 match op with
 | .alloc _ | .box _ _ | .store _ _ _ | .makeMap _ _ | .mapUpdate _ _ _ _ | .insert _ _ _ _ | .range _ _ | .next _ _ | .panic _ => false
 | .call c => match c.callee with
   | .builtin .len | .builtin .min | .builtin .max => true
   | .value (.func f) => pureE D tbl f
   | _ => false
 | _ => true
def runPure {R : Type} (all : List Oper) (kn : TS D.T → Option R) : List Oper → TS D.T → Option R
 | [], ts => kn ts
 | o :: rest, ts => pOp o <| tGuard D all o ts
   (fun ts => match o.op with
    | .call c => match c.callee with
      | .value x => match ts.ev x, ts.evs c.args.toList with
        | some (.fn f a b), some vs => tCall D f (a ++ vs ++ b) ts (fun v _ => match ts.put D o.dst v with | some ts => runPure all kn rest ts | none => none) (fun _ _ => none) (fun _ => none) (tbl.filter (·.pure))
        | _, _ => none
      | _ => tP P D ts o.op (fun v => match ts.put D o.dst v with | some ts => runPure all kn rest ts | none => none) (fun _ => none)
    | _ => tPC P D all o (fun v => match ts.put D o.dst v with | some ts => runPure all kn rest ts | none => none) ts)
   (fun ts => match ts.put D o.dst (.tup []) with | some ts => runPure all kn rest ts | none => none)
def pureLen : List Oper → Nat
 | [] => 0
 | o :: r => if pureOp D tbl o.op then pureLen r + 1 else 0
def TV.plainT {T : Nat → Type} : TV T → Bool
 | .any | .own _ | .osl _ _ | .map _ | .bp _ _ => false
 | _ => true
def liveB {T : Nat → Type} (ts : TS T) (s : Nat) : Bool := match fnd ts.o s with
 | some .gone => false
 | some _ => true
 | none => false
def plainO {T : Nat → Type} (ts : TS T) (x : Operand) : Option (List Nat) := match ts.ev x with
 | some v => (match v.plainT with
   | true => some []
   | false => none)
 | none => none
def ownO {T : Nat → Type} (ts : TS T) (x : Operand) : Option (List Nat) := match ts.ev x with
 | some (.own s) => (match fnd ts.o s with
   | some (.acc _ _ _ _) => some [s]
   | _ => none)
 | _ => plainO ts x
def rdK {T : Nat → Type} (ts : TS T) (op : Op) : Option (List Nat) := match op with
 | .load _ a => (match ts.ev a with
   | some (.ptr s _) => some [s]
   | some (.ap s _ _ _ _) => some [s]
   | some (.ref _ _) => some []
   | _ => none)
 | .indexAddr _ x _ => ownO ts x
 | .slice _ x _ _ _ => plainO ts x
 | .call c => (match c.callee, c.args.toList with
   | .builtin .len, [x] => ownO ts x
   | .builtin .min, _ => some []
   | .builtin .max, _ => some []
   | _, _ => none)
 | .move _ | .assign _ | .pick _ _ _ | .nilCheck _ | .binOp _ _ _ _ _ | .unOp _ _ _ | .convert _ _ _ | .makeInterface _ _ | .makeFunc _ _ _ | .fieldAddr _ _ _ | .field _ _ _ | .index _ _ _ | .typeAssert _ _ _ _ | .extract _ _ | .build _ _ | .buildSlice _ _ _ => some []
 | _ => none
def wrK {T : Nat → Type} (ts : TS T) (op : Op) : Option Nat := match op with
 | .alloc _ => some ts.nx
 | .box _ _ => some ts.nx
 | .store _ a _ => (match ts.ev a with
   | some (.ptr s _) => some s
   | _ => none)
 | _ => none
abbrev Rds := List (Nat × Option (List Nat))
abbrev Wrs := List (Nat × Option Nat)
def effOk (all : List Oper) (i : Nat) (w : Option Nat) (rds : Rds) : Bool := rds.all fun p => ordB all p.1 i || (match p.2, w with
 | some [], _ => true
 | some R, some s => R.all fun q => !Nat.beq q s
 | _, _ => false)
def effsOk (all : List Oper) (i : Nat) (wrs : Wrs) : Bool := wrs.all fun p => ordB all p.1 i
def rdOk (all : List Oper) (i : Nat) (R : List Nat) (wrs : Wrs) : Bool := wrs.all fun p => ordB all p.1 i || (match R, p.2 with
 | [], _ => true
 | R, some s => R.all fun q => !Nat.beq q s
 | _, _ => false)
def loseR (w : Option Nat) (rds : Rds) : Rds := match w with
 | some _ => rds
 | none => rds.map fun p => (p.1, match p.2 with | some [] => some [] | _ => none)
def loseW (w : Option Nat) (wrs : Wrs) : Wrs := match w with
 | some _ => wrs
 | none => wrs.map fun p => (p.1, none)
def laterOk (all : List Oper) (i : Nat) (rest : List Nat) : Bool := rest.all fun j => ordB all i j
def readyB (all : List Oper) (done : List Nat) (j : Nat) : Bool := !done.any (Nat.beq j) && (match all[j]? with
 | some o => o.after.toList.all fun e => !Region.binds .any e || done.any (Nat.beq e.on)
 | none => false)
def sched (all : List Oper) (quiet : Op → Bool) : Nat → List Nat → List Nat
 | 0, _ => []
 | n + 1, done => match (List.range all.length).find? fun j => readyB all done j && (match all[j]? with | some o => quiet o.op | none => false) with
   | some j => j :: sched all quiet n (j :: done)
   | none => match (List.range all.length).find? fun j => readyB all done j with
     | some j => j :: sched all quiet n (j :: done)
     | none => []
def callOk {T : Nat → Type} (all : List Oper) (i : Nat) (rds : Rds) (M : Bnds T) : Bool := rds.all fun p => ordB all p.1 i || (match p.2 with
 | some R => R.all fun q => M.all fun m => match m.2 with
   | .slot s => !Nat.beq q s
   | .nil => true
 | none => false)
def pCallC {R : Type} (f : Nat) (vs : List (TV D.T)) (ts : TS D.T) (chk : Bnds D.T → Bool) (k kp : TV D.T → TS D.T → Option R) : Option R := none
def tCallC {R : Type} (f : Nat) (vs : List (TV D.T)) (ts : TS D.T) (chk : Bnds D.T → Bool) (k kp : TV D.T → TS D.T → Option R) : List (Ent D) → Option R
 | [] => pCallC D f vs ts chk k kp
 | e :: r => match Nat.beq e.f f with
   | false => tCallC f vs ts chk k kp r
   | true => match e.fit D vs ts with
     | .ok (M, x) => if chk M = true ∧ e.p ≤ e.aos.length ∧ e.p ≤ e.ros.length ∧ e.p ≤ e.pos.length ∧ (List.range e.p).all (fun k => match fnd M k with | some (.slot _) => true | _ => false) then
         e.go x (fun y => k (tupT D (bldL D (outSlot D M e.p ts.nx) e.outs (HL.fst _ y))) (renAfter D M e.p ts.nx e.ren (afterCall D M e.p ts e.ros (HL.snd _ y))))
           (fun y => kp (bldV D (outSlot D M e.p ts.nx) e.pan (HL.fst _ y)) (afterCall D M e.p ts e.pos (HL.snd _ y)))
         else none
     | _ => tCallC f vs ts chk k kp r
def tSrcD (τ : DTy) : TV D.T → Option (List (τ.S D.T))
 | .nils => some []
 | .sl t xs _ => lcast t τ xs
 | _ => none
def tAppD {R : Type} (t u : Nat) (s x : TV D.T) (k : TV D.T → Option R) : Option R :=
 match s with
 | .sl t' xs 1 => match P.underlying t, P.underlying u with
   | some (.slice e), some du => match P.info? e, D.ty e with
     | some i, some τ => match i.zero with
       | some z => match notInt du && decide (0 < i.size) && decide (i.bytes ≤ 524288) && z.cells.size == i.size && Nat.beq (D.len τ) i.size with
         | true => (match lcast t' τ xs, tSrcD D τ x with
           | some xs, some ys => pBind (ext xs ys) fun zs => k (.sl τ zs 0)
           | _, _ => none)
         | false => none
       | none => none
     | _, _ => none
   | _, _ => none
 | _ => none
def appB (op : Op) : Bool := match op with
 | .call c => (match c.callee with
   | .builtin .append => true
   | _ => false)
 | _ => false
def looseB (all : List Oper) (i : Nat) : Bool := (List.range all.length).any fun j => !Nat.beq i j && (match all[j]? with | some o => effB o.op | none => false) && !ordB all i j && !ordB all j i
def runComm {R : Type} (all : List Oper) (kn : TS D.T → Option R) (kp : TV D.T → TS D.T → Option R) : List Nat → Rds → Wrs → TS D.T → Option R
 | [], _, _, ts => kn ts
 | i :: rest, rds, wrs, ts => match all[i]? with
 | none => none
 | some o => pOp o <| tGuard D all o ts
   (fun ts => match effB o.op with
    | true => (match appB o.op && looseB all i with
      | true => (match o.op with
        | .call c => (match c.callee, c.args.toList, c.argTypes.toList with
          | .builtin .append, [s, x], [t, u] => (match ts.ev s, ts.ev x with
            | some s, some x => tAppD P D t u s x (fun v => match ts.put D o.dst v with
              | some ts2 => runComm all kn kp rest ((i, some []) :: rds) wrs ts2
              | none => none)
            | _, _ => none)
          | _, _, _ => none)
        | _ => none)
      | false => (match effOk all i (wrK ts o.op) rds && effsOk all i wrs with
      | true => tOp P D ts o.op (fun v ts' => match ts'.put D o.dst v with
        | some ts2 => runComm all kn kp rest (loseR (wrK ts o.op) rds) ((i, wrK ts o.op) :: loseW (wrK ts o.op) wrs) ts2
        | none => none) (fun _ => none)
      | false => none))
    | false => (match rdK ts o.op with
      | some R => (match rdOk all i R wrs && R.all (liveB ts) with
        | true => tP P D ts o.op (fun v => match ts.put D o.dst v with
          | some ts2 => runComm all kn kp rest ((i, some R) :: rds) wrs ts2
          | none => none) (fun _ => none)
        | false => none)
      | none => (match o.op with
        | .call c => (match c.callee with
          | .value x => (match ts.ev x, ts.evs c.args.toList with
            | some (.fn f a b), some vs => (match pureE D tbl f with
              | true => tCall D f (a ++ vs ++ b) ts (fun v _ => match ts.put D o.dst v with
                | some ts2 => runComm all kn kp rest ((i, some []) :: rds) wrs ts2
                | none => none) (fun _ _ => none) (fun _ => none) (tbl.filter (·.pure))
              | false => (match laterOk all i rest && effsOk all i wrs with
                | true => tCallC D f (a ++ vs ++ b) ts (callOk all i rds) (fun v ts' => match ts'.put D o.dst v with
                  | some ts2 => runComm all kn kp rest (loseR none rds) ((i, none) :: loseW none wrs) ts2
                  | none => none) (fun z ts' => kp z { ts' with t := [] }) (tbl.filter fun e => !e.pure)
                | false => none))
            | _, _ => none)
          | _ => none)
        | _ => none)))
   (fun ts => match ts.put D o.dst (.tup []) with
    | some ts2 => runComm all kn kp rest ((i, some []) :: rds) wrs ts2
    | none => none)
def runRegion {R : Type} (ops : Array Oper) (draw : Bool) (ts : TS D.T) (kn : TS D.T → Option R) (kp : TV D.T → TS D.T → Option R) : Option R :=
 if draw then
  let n := pureLen D tbl ops.toList
  if P.follows .mixedOrders then
   (if n = ops.size then (if Region.lexB .any ops then runPure P D tbl ops.toList kn ops.toList ts else none)
   else (if Region.lexTailB .any ops n then runPure P D tbl ops.toList (fun ts => runOps P D tbl ops.toList kn kp (ops.toList.drop n) ts) (ops.toList.take n) ts
   else (let l := sched ops.toList (fun op => !effB op && (match op with | .call c => (match c.callee with | .value (.func f) => pureE D tbl f | .value _ => false | _ => true) | _ => true)) ops.size []
    if schedB .any ops l (Array.replicate ops.size false) && Nat.beq l.length ops.size && (List.range ops.size).all (fun j => l.any (Nat.beq j)) then runComm P D tbl ops.toList kn kp l [] [] ts else none)))
  else none
 else runOps P D tbl ops.toList kn kp ops.toList ts
end
inductive AC where
 | skip
 | region (id : Nat) (ops : Array Oper) (draw : Bool)
 | seq (a b : AC)
 | cond (c : Operand) (a b : AC)
 | block (id : Nat) (a : AC)
 | loop (a : AC)
 | exit (id : Nat)
 | ret
 | lab (l : Nat) (a : AC)
 | other (c : Code)
def AC.erase : AC → Code
 | .skip => .skip
 | .region id ops d => .region id ops d
 | .seq a b => .seq a.erase b.erase
 | .cond c a b => .cond c a.erase b.erase
 | .block id a => .block id a.erase
 | .loop a => .loop a.erase
 | .exit id => .exit id
 | .ret => .ret
 | .lab _ a => a.erase
 | .other c => c
def labAt (f : List (Nat × Nat)) (i : Nat) (a : AC) : AC :=
 match fnd f i with
 | some l => .lab l a
 | none => a
def ann (f : List (Nat × Nat)) : Code → Nat → AC × Nat
 | .skip, i => (labAt f i .skip, i + 1)
 | .region id ops d, i => (labAt f i (.region id ops d), i + 1)
 | .seq a b, i =>
   let x := ann f a (i + 1)
   let y := ann f b x.2
   (labAt f i (.seq x.1 y.1), y.2)
 | .cond c a b, i =>
   let x := ann f a (i + 1)
   let y := ann f b x.2
   (labAt f i (.cond c x.1 y.1), y.2)
 | .block id a, i =>
   let x := ann f a (i + 1)
   (labAt f i (.block id x.1), x.2)
 | .loop a, i =>
   let x := ann f a (i + 1)
   (labAt f i (.loop x.1), x.2)
 | .exit id, i => (labAt f i (.exit id), i + 1)
 | .ret, i => (labAt f i .ret, i + 1)
 | c, i => (.other c, i + 1)
structure Lb (D : Dat) (R : Type) where
 sh : LSh
 go : HL D.T sh.tys → Option R
def jump (D : Dat) {R : Type} (labs : List (Nat × Lb D R)) (l : Nat) (ts : TS D.T) : Option R :=
 match fnd labs l with
 | some lb => lb.sh.enter D lb.go 9 ts
 | none => none
structure Ks (T : Nat → Type) (R : Type) where
 kn : TS T → Option R
 kx : List (Nat × (TS T → Option R))
 kr : TS T → Option R
 kp : TV T → TS T → Option R
section
variable (P : Program) (D : Dat) (tbl : List (Ent D)) {R : Type} (J : Nat → TS D.T → Option R)
def run : AC → TS D.T → Ks D.T R → Option R
 | .skip, ts, K => K.kn ts
 | .region _ ops d, ts, K => runRegion P D tbl ops d ts K.kn K.kp
 | .seq a b, ts, K => run a ts { K with kn := fun ts => run b ts K }
 | .cond c a b, ts, K => match ts.ev c with
   | some (.bool v) => (match c with
     | .tmp t => pIf v (run a { ts with t := (t, .bool true) :: ts.t } K) (run b { ts with t := (t, .bool false) :: ts.t } K)
     | _ => pIf v (run a ts K) (run b ts K))
   | _ => none
 | .block id a, ts, K => run a ts { K with kx := (id, K.kn) :: K.kx }
 | .loop _, _, _ => none
 | .exit id, ts, K => match fnd K.kx id with
   | some k => k ts
   | none => none
 | .ret, ts, K => K.kr ts
 | .lab l _, ts, _ => J l ts
 | .other _, _, _ => none
def runLab (l : Nat) (a : AC) (K : Ks D.T R) : TS D.T → Option R := fun ts =>
 match a with
 | .loop b => run P D tbl J b ts { K with kn := J l }
 | a => run P D tbl J a ts K
def AC.at (l : Nat) : AC → Ks D.T R → (TS D.T → Option R) → Option (TS D.T → Option R)
 | .seq a b, K, _ => match AC.at l a { K with kn := fun ts => run P D tbl J b ts K } (fun _ => none) with
   | some x => some x
   | none => AC.at l b K (fun _ => none)
 | .cond _ a b, K, _ => match AC.at l a K (fun _ => none) with
   | some x => some x
   | none => AC.at l b K (fun _ => none)
 | .block id a, K, _ => AC.at l a { K with kx := (id, K.kn) :: K.kx } (fun _ => none)
 | .loop a, K, kl => AC.at l a { K with kn := kl } (fun _ => none)
 | .lab l' a, K, _ => match Nat.beq l' l with
   | true => some (runLab P D tbl J l' a K)
   | false => AC.at l a K (J l')
 | _, _, _ => none
end
def argT {α : Type} : List α → Nat → List (Nat × α)
 | [], _ => []
 | a :: l, k => (k, a) :: argT l (k + 1)
def entry (D : Dat) (args : List Sh) (aos : List OSh) (nt : Nat) (x : HL D.T (Sh.tysL args ++ tysO aos)) : TS D.T :=
 ⟨argT (bldL D (fun k => k) args (HL.fst _ x)) 0, bldOs D (fun k => k) aos 0 (HL.snd _ x), aos.length, nt, []⟩
def resT (P : Program) (D : Dat) (ts : TS D.T) : List ResultVar → Option (List (TV D.T))
 | [] => some []
 | .tmp t :: rs => match fnd ts.t t, resT P D ts rs with
   | some v, some vs => some (v :: vs)
   | _, _ => none
 | .cell a t :: rs => match fnd ts.t a with
   | some p => match tLoad P D ts t p, resT P D ts rs with
     | some v, some vs => some (v :: vs)
     | _, _ => none
   | none => none
def endK {R : Type} (D : Dat) (l : LSh) (pack : HL D.T l.tys → R) : Ks D.T R :=
 ⟨l.enter D (fun x => some (pack x)) 9, [], l.enter D (fun x => some (pack x)) 9, fun _ _ => none⟩
section
variable (D : Dat)
def modeTys : Option Sh → List DTy
 | none => []
 | some s => s.tys
structure DEnt where
 f : Nat
 args : List Sh
 aos : List OSh
 m : Option Sh
 ros : List OSh
 go : HL D.T (Sh.tysL args ++ tysO aos) → HL D.T (modeTys m) → Option (HL D.T (tysO ros))
def DEnt.ent (de : DEnt D) : Ent D := { f := de.f, p := de.aos.length, args := de.args, aos := de.aos, outs := [], ros := de.ros, pan := .nilp, pos := [], pure := false, go := fun _ _ _ => none }
end
end Go.Ab


namespace Go.Ab
open Go
set_option linter.unusedVariables false
set_option linter.unusedSimpArgs false
theorem fnd_cons {α : Type} (i : Nat) (a : α) (r : List (Nat × α)) (j : Nat) : fnd ((i, a) :: r) j = if i = j then some a else fnd r j := by
 simp only [fnd]
 cases h : Nat.beq i j with
 | true => rw [if_pos (Nat.eq_of_beq_eq_true h)]
 | false => rw [if_neg (fun e => by rw [e, Nat.beq_refl] at h; cases h)]
theorem fnd_map {α : Type} (f : α → α) : ∀ (l : List (Nat × α)) (j : Nat), fnd (l.map fun p => (p.1, f p.2)) j = (fnd l j).map f
 | [], j => rfl
 | (i, a) :: r, j => by
   rw [List.map_cons, fnd_cons, fnd_cons]
   split
   · rfl
   · exact fnd_map f r j
def HL.nth {T : Nat → Type} : (l : List DTy) → HL T l → Nat → Option ((t : DTy) × t.S T)
 | [], _, _ => none
 | t :: _, x, 0 => some ⟨t, x.1⟩
 | _ :: l, x, j + 1 => HL.nth l x.2 j
theorem HL.nth_some {T : Nat → Type} : ∀ (l : List DTy) (x : HL T l) (j : Nat) (p : (t : DTy) × t.S T), HL.nth l x j = some p → j < l.length ∧ l[j]? = some p.1
 | [], _, j, p, h => by simp [HL.nth] at h
 | t :: _, x, 0, p, h => by simp [HL.nth] at h; subst h; simp
 | _ :: l, x, j + 1, p, h => by
   obtain ⟨h1, h2⟩ := HL.nth_some l x.2 j p h
   exact ⟨by simpa using h1, by simpa using h2⟩
structure Dat.Ok (P : Program) (D : Dat) : Prop where
 enc : ∀ i x, D.enc i x = .agg (D.els (D.fl i) (D.get i x))
 getMake : ∀ i x, D.get i (D.make i x) = x
 flat : ∀ i t, t ∈ D.fl i → (match t with | .st _ => False | .nat => False | _ => True)
 ty : ∀ e t, D.ty e = some t → t ≠ .nat
 kin : ∀ i x (Dm : Nat → Nat → Prop), V.kin Dm (D.enc i x)
section
variable {D : Dat}
theorem els_len : ∀ (l : List DTy) (x : HL D.T l), (D.els l x).length = l.length
 | [], _ => rfl
 | t :: l, x => by simp [Dat.els, els_len l x.2]
theorem els_nth : ∀ (l : List DTy) (x : HL D.T l) (j : Nat), (D.els l x)[j]? = (HL.nth l x j).map fun p => D.el p.1 p.2
 | [], _, j => by simp [Dat.els, HL.nth]
 | t :: l, x, 0 => by simp [Dat.els, HL.nth]
 | t :: l, x, j + 1 => by simpa [Dat.els, HL.nth] using els_nth l x.2 j
theorem leaves_len : ∀ (l : List DTy) (x : HL D.T l), (D.leaves l x).length = l.length
 | [], _ => rfl
 | t :: l, x => by simp [Dat.leaves, leaves_len l x.2]
theorem leaves_nth : ∀ (l : List DTy) (x : HL D.T l) (j : Nat), (D.leaves l x)[j]? = (HL.nth l x j).map fun p => D.leaf p.1 p.2
 | [], _, j => by simp [Dat.leaves, HL.nth]
 | t :: l, x, 0 => by simp [Dat.leaves, HL.nth]
 | t :: l, x, j + 1 => by simpa [Dat.leaves, HL.nth] using leaves_nth l x.2 j
inductive DR (D : Dat) : (t : DTy) → t.S D.T → V → Prop where
 | bool (b : Bool) : DR D .bool b (.bool b)
 | int (k : IntKind) (n : Int) : DR D (.int k) n (.int k n)
 | str (s : List UInt8) : DR D .str s (.str s)
 | nat (n : Nat) : DR D .nat n .any
 | nil (t : DTy) : DR D (.sl t) ([] : List (t.S D.T)) .nils
 | sl (t : DTy) (xs : List (t.S D.T)) (ws : List V) (full : Bool) (hl : ws.length = xs.length) (h : ∀ (j : Nat) (x : t.S D.T) (w : V), xs[j]? = some x → ws[j]? = some w → DR D t x w) : DR D (.sl t) xs (.sl (D.len t) ws full)
 | st (i : Nat) (x : D.T i) (vs : List V) (hl : vs.length = (D.fl i).length) (h : ∀ (j : Nat) (p : (t : DTy) × t.S D.T) (v : V), HL.nth (D.fl i) (D.get i x) j = some p → vs[j]? = some v → DR D p.1 p.2 v) : DR D (.st i) x (.agg vs)
 | enc (i : Nat) (x : D.T i) : DR D (.st i) x (D.enc i x)
variable {P : Program} (hD : D.Ok P)
include hD
theorem el_cells (t : DTy) (x : t.S D.T) : (D.el t x).cells.length = D.len t := by
 cases t with
 | st i => exact (congrArg (fun v => v.cells.length) (hD.enc i x)).trans (els_len _ _)
 | _ => rfl
theorem DR.cells {t : DTy} {x : t.S D.T} {v : V} (h : DR D t x v) : v.cells.length = D.len t := by
 cases h with
 | enc i x => exact el_cells hD (.st i) x
 | st i x vs hl h => simpa [V.cells, Dat.len] using hl
 | _ => rfl
omit hD in
theorem DR.elsl (t : DTy) (xs : List (t.S D.T)) (h : ∀ x, DR D t x (D.el t x)) : DR D (.sl t) xs (.sl (D.len t) (xs.map (D.el t)) false) :=
 .sl t xs _ false (by simp) fun j x w hx hw => by
  rw [List.getElem?_map, hx] at hw
  injection hw with hw
  subst hw
  exact h x
omit hD in
theorem DR.el : ∀ (t : DTy) (x : t.S D.T), DR D t x (D.el t x)
 | .bool, b => .bool b
 | .int k, n => .int k n
 | .str, s => .str s
 | .nat, n => .nat n
 | .sl t, xs => DR.elsl t xs (DR.el t)
 | .st i, x => .enc i x
end
end Go.Ab


namespace Go.Ab
open Go
set_option linter.unusedVariables false
set_option linter.unusedSimpArgs false
structure Slot where
 v : V
 k : Option Nat
 ws : List V
section
variable (D : Dat) (ρ : List Slot) (lv : Nat)
mutual
def VR : TV D.T → V → Prop
 | .any, _ => True
 | .bool b, v => v = .bool b
 | .int k n, v => v = .int k n
 | .str s, v => v = .str s
 | .nilp, v => v = .nilp
 | .nils, v => v = .nils
 | .mapn, v => v = .mapn
 | .nilf, v => v = .nilf
 | .nili, v => v = .nili
 | .sl t xs fl, v => DR D (.sl t) xs v ∧ (1 ≤ fl → ∃ ws, v = .sl (D.len t) ws true) ∧ (fl = 2 → xs = [])
 | .own s, v => ∃ sl, ρ[s]? = some sl ∧ v = sl.v ∧ v.leaf = true
 | .osl s lo, v => ∃ sl j ver, ρ[s]? = some sl ∧ sl.k = some j ∧ sl.v = .hs lv j ver 0 sl.ws.length false ∧ 0 ≤ lo ∧ lo.toNat ≤ sl.ws.length ∧ (v = .hs lv j ver lo.toNat (sl.ws.length - lo.toNat) false ∨ (lo.toNat = sl.ws.length ∧ ∃ sz, v = .sl sz [] false))
 | .ptr s off, v => ∃ sl i, ρ[s]? = some sl ∧ sl.k = some i ∧ v = .ptr lv i off
 | .bp s off, v => ∃ sl i, ρ[s]? = some sl ∧ sl.k = some i ∧ v = .ap lv i 0 0 off
 | .map s, v => ∃ sl i, ρ[s]? = some sl ∧ sl.k = some i ∧ v = .map lv i
 | .ref cs off, v => ∃ vs, v = .ref vs off ∧ VRL cs vs
 | .ap s t i x off, v => ∃ sl w, ρ[s]? = some sl ∧ 0 ≤ i ∧ sl.ws[i.toNat]? = some w ∧ DR D t x w ∧
   (match sl.k with
   | none => v = .ref w.cells off
   | some j => ∃ ver n, sl.v = .hs lv j ver 0 n false ∧ v = .ap lv j ver i.toNat off)
 | .fn f a b, v => ∃ as bs, v = .fn f as bs ∧ VRL a as ∧ VRL b bs
 | .iface t x, v => ∃ y, v = .iface t y ∧ VR x y
 | .agg cs, v => ∃ vs, v = .agg vs ∧ VRL cs vs
 | .tup cs, v => ∃ vs, v = .tup vs ∧ VRL cs vs
def VRL : List (TV D.T) → List V → Prop
 | [], vs => vs = []
 | c :: cs, vs => ∃ v r, vs = v :: r ∧ VR c v ∧ VRL cs r
end
end
section
variable {D : Dat} {ρ : List Slot} {lv : Nat}
theorem VRL.length : ∀ {cs : List (TV D.T)} {vs : List V}, VRL D ρ lv cs vs → cs.length = vs.length
 | [], vs, h => by simp only [VRL] at h; subst h; rfl
 | c :: cs, vs, h => by
   simp only [VRL] at h
   obtain ⟨v, r, rfl, _, h2⟩ := h
   simp [VRL.length h2]
theorem VRL.get : ∀ {cs : List (TV D.T)} {vs : List V}, VRL D ρ lv cs vs → ∀ (j : Nat) (c : TV D.T), cs[j]? = some c → ∃ v, vs[j]? = some v ∧ VR D ρ lv c v
 | [], vs, h, j, c, hj => by simp at hj
 | c :: cs, vs, h, 0, d, hj => by
   simp only [VRL] at h
   obtain ⟨v, r, rfl, h1, h2⟩ := h
   simp at hj; subst hj
   exact ⟨v, rfl, h1⟩
 | c :: cs, vs, h, j + 1, d, hj => by
   simp only [VRL] at h
   obtain ⟨v, r, rfl, h1, h2⟩ := h
   obtain ⟨u, hu, hr⟩ := VRL.get h2 j d (by simpa using hj)
   exact ⟨u, by simpa using hu, hr⟩
theorem VRL.of : ∀ {cs : List (TV D.T)} {vs : List V}, cs.length = vs.length → (∀ (j : Nat) (c : TV D.T) (v : V), cs[j]? = some c → vs[j]? = some v → VR D ρ lv c v) → VRL D ρ lv cs vs
 | [], [], _, _ => by simp [VRL]
 | [], v :: vs, h, _ => by simp at h
 | c :: cs, [], h, _ => by simp at h
 | c :: cs, v :: vs, h, k => by
   simp only [VRL]
   exact ⟨v, vs, rfl, k 0 c v rfl rfl, VRL.of (by simpa using h) fun j c' v' hc hv => k (j + 1) c' v' (by simpa using hc) (by simpa using hv)⟩
theorem VRL.get2 {cs : List (TV D.T)} {vs : List V} (h : VRL D ρ lv cs vs) {j : Nat} {c : TV D.T} {v : V} (hc : cs[j]? = some c) (hv : vs[j]? = some v) : VR D ρ lv c v := by
 obtain ⟨u, hu, hr⟩ := h.get j c hc
 rw [hv] at hu; injection hu with hu; subst hu; exact hr
theorem VRL.take {cs : List (TV D.T)} {vs : List V} (h : VRL D ρ lv cs vs) (n : Nat) : VRL D ρ lv (cs.take n) (vs.take n) :=
 .of (by simp [h.length]) fun j c v hc hv => by
  rw [List.getElem?_take] at hc hv
  split at hc
  ·rw [if_pos ‹_›] at hv; exact h.get2 hc hv
  ·cases hc
theorem VRL.drop {cs : List (TV D.T)} {vs : List V} (h : VRL D ρ lv cs vs) (n : Nat) : VRL D ρ lv (cs.drop n) (vs.drop n) :=
 .of (by simp [h.length]) fun j c v hc hv => by
  rw [List.getElem?_drop] at hc hv
  exact h.get2 hc hv
theorem VRL.append {a b : List (TV D.T)} {x y : List V} (h : VRL D ρ lv a x) (k : VRL D ρ lv b y) : VRL D ρ lv (a ++ b) (x ++ y) :=
 .of (by simp [h.length, k.length]) fun j c v hc hv => by
  rw [List.getElem?_append] at hc hv
  rw [← h.length] at hv
  split at hc
  ·rw [if_pos ‹_›] at hv; exact h.get2 hc hv
  ·rw [if_neg ‹_›] at hv; exact k.get2 hc hv
theorem VRL.splice {a b : List (TV D.T)} {x y : List V} (h : VRL D ρ lv a x) (k : VRL D ρ lv b y) (off : Nat) : VRL D ρ lv (tsplice a off b) (splice x off y) := by
 unfold tsplice Go.Ab.splice
 rw [k.length]
 exact ((h.take off).append k).append (h.drop _)
theorem lookup_append {ρ e : List Slot} {s : Nat} {sl : Slot} (h : ρ[s]? = some sl) : (ρ ++ e)[s]? = some sl := by
 rw [List.getElem?_append_left (List.getElem?_eq_some_iff.1 h).1]; exact h
mutual
theorem VR.more (e : List Slot) : ∀ {x : TV D.T} {v : V}, VR D ρ lv x v → VR D (ρ ++ e) lv x v
 | .any, _, _ => by simp only [VR]
 | .bool b, _, h => by simpa only [VR] using h
 | .int k n, _, h => by simpa only [VR] using h
 | .str s, _, h => by simpa only [VR] using h
 | .nilp, _, h => by simpa only [VR] using h
 | .nils, _, h => by simpa only [VR] using h
 | .mapn, _, h => by simpa only [VR] using h
 | .nilf, _, h => by simpa only [VR] using h
 | .nili, _, h => by simpa only [VR] using h
 | .sl t xs fl, _, h => by simpa only [VR] using h
 | .own s, _, h => by simp only [VR] at h ⊢; obtain ⟨sl, h1, h2⟩ := h; exact ⟨sl, lookup_append h1, h2⟩
 | .osl s lo, _, h => by simp only [VR] at h ⊢; obtain ⟨sl, j, ver, h1, h2⟩ := h; exact ⟨sl, j, ver, lookup_append h1, h2⟩
 | .ptr s off, _, h => by simp only [VR] at h ⊢; obtain ⟨sl, i, h1, h2⟩ := h; exact ⟨sl, i, lookup_append h1, h2⟩
 | .bp s off, _, h => by simp only [VR] at h ⊢; obtain ⟨sl, i, h1, h2⟩ := h; exact ⟨sl, i, lookup_append h1, h2⟩
 | .map s, _, h => by simp only [VR] at h ⊢; obtain ⟨sl, i, h1, h2⟩ := h; exact ⟨sl, i, lookup_append h1, h2⟩
 | .ref cs off, _, h => by simp only [VR] at h ⊢; obtain ⟨vs, h1, h2⟩ := h; exact ⟨vs, h1, VRL.more e h2⟩
 | .ap s t i x off, _, h => by simp only [VR] at h ⊢; obtain ⟨sl, w, h1, h2⟩ := h; exact ⟨sl, w, lookup_append h1, h2⟩
 | .fn f a b, _, h => by simp only [VR] at h ⊢; obtain ⟨as, bs, h1, h2, h3⟩ := h; exact ⟨as, bs, h1, VRL.more e h2, VRL.more e h3⟩
 | .iface t x, _, h => by simp only [VR] at h ⊢; obtain ⟨y, h1, h2⟩ := h; exact ⟨y, h1, VR.more e h2⟩
 | .agg cs, _, h => by simp only [VR] at h ⊢; obtain ⟨vs, h1, h2⟩ := h; exact ⟨vs, h1, VRL.more e h2⟩
 | .tup cs, _, h => by simp only [VR] at h ⊢; obtain ⟨vs, h1, h2⟩ := h; exact ⟨vs, h1, VRL.more e h2⟩
theorem VRL.more (e : List Slot) : ∀ {cs : List (TV D.T)} {vs : List V}, VRL D ρ lv cs vs → VRL D (ρ ++ e) lv cs vs
 | [], _, h => by simpa only [VRL] using h
 | c :: cs, _, h => by simp only [VRL] at h ⊢; obtain ⟨v, r, h1, h2, h3⟩ := h; exact ⟨v, r, h1, VR.more e h2, VRL.more e h3⟩
end
theorem VR.cells {x : TV D.T} {v : V} (h : VR D ρ lv x v) (hs : x.solid = true) : VRL D ρ lv x.cells v.cells := by
 have one : ∀ {x : TV D.T} {v : V}, VR D ρ lv x v → v.cells = [v] → x.cells = [x] → VRL D ρ lv x.cells v.cells := fun {x v} h h1 h2 => by
  rw [h1, h2]; simp only [VRL]; exact ⟨v, [], rfl, h, rfl⟩
 cases x <;> simp only [TV.solid, TV.leaf, Bool.false_eq_true] at hs
 case agg cs => simp only [VR] at h; obtain ⟨vs, rfl, h2⟩ := h; exact h2
 case sl t xs fl => exact one h (by simp only [VR] at h; obtain ⟨h, _⟩ := h; cases h <;> rfl) rfl
 case own s =>
  refine one h ?_ rfl
  simp only [VR] at h
  obtain ⟨sl, _, _, h⟩ := h
  cases v <;> first | rfl | (simp [V.leaf] at h)
 case ap s t i x off =>
  refine one h ?_ rfl
  simp only [VR] at h
  obtain ⟨sl, w, h1, h2, h3, h4, h5⟩ := h
  split at h5
  ·subst h5; rfl
  ·obtain ⟨ver, n, _, h5⟩ := h5; subst h5; rfl
 case fn f a b => refine one h ?_ rfl; simp only [VR] at h; obtain ⟨as, bs, rfl, _⟩ := h; rfl
 case iface t x => refine one h ?_ rfl; simp only [VR] at h; obtain ⟨y, rfl, _⟩ := h; rfl
 case ref cs off => refine one h ?_ rfl; simp only [VR] at h; obtain ⟨y, rfl, _⟩ := h; rfl
 case osl s lo => refine one h ?_ rfl; simp only [VR] at h; obtain ⟨y, i, ver, _, _, _, _, _, h⟩ := h; rcases h with rfl | ⟨_, sz, rfl⟩ <;> rfl
 case ptr s off => refine one h ?_ rfl; simp only [VR] at h; obtain ⟨y, i, _, _, rfl⟩ := h; rfl
 case map s => refine one h ?_ rfl; simp only [VR] at h; obtain ⟨y, i, _, _, rfl⟩ := h; rfl
 case bp s off => refine one h ?_ rfl; simp only [VR] at h; obtain ⟨y, i, _, _, rfl⟩ := h; rfl
 all_goals (refine one h ?_ rfl; simp only [VR] at h; subst h; rfl)
theorem VR.solid {x : TV D.T} {v : V} (h : VR D ρ lv x v) (hs : x.solid = true) : v.solid = true := by
 have one : ∀ {v : V}, v.leaf = true → v.solid = true := fun {v} h => by cases v <;> first | rfl | exact h
 cases x <;> simp only [TV.solid, TV.leaf, Bool.false_eq_true] at hs
 case agg cs => simp only [VR] at h; obtain ⟨vs, rfl, h2⟩ := h; rfl
 case sl t xs fl => simp only [VR] at h; obtain ⟨h, _⟩ := h; cases h <;> rfl
 case own s => simp only [VR] at h; obtain ⟨sl, _, _, h⟩ := h; exact one h
 case ap s t i x off =>
  simp only [VR] at h
  obtain ⟨sl, w, h1, h2, h3, h4, h5⟩ := h
  split at h5
  ·subst h5; rfl
  ·obtain ⟨ver, n, _, h5⟩ := h5; subst h5; rfl
 case fn f a b => simp only [VR] at h; obtain ⟨as, bs, rfl, _⟩ := h; rfl
 case iface t x => simp only [VR] at h; obtain ⟨y, rfl, _⟩ := h; rfl
 case ref cs off => simp only [VR] at h; obtain ⟨y, rfl, _⟩ := h; rfl
 case osl s lo => simp only [VR] at h; obtain ⟨y, i, ver, _, _, _, _, _, h⟩ := h; rcases h with rfl | ⟨_, sz, rfl⟩ <;> rfl
 case ptr s off => simp only [VR] at h; obtain ⟨y, i, _, _, rfl⟩ := h; rfl
 case map s => simp only [VR] at h; obtain ⟨y, i, _, _, rfl⟩ := h; rfl
 case bp s off => simp only [VR] at h; obtain ⟨y, i, _, _, rfl⟩ := h; rfl
 all_goals (simp only [VR] at h; subst h; rfl)
theorem VR.ofLeaf (v : Value) : VR D ρ lv (TV.ofLeaf v) (Go.Ab.ofLeaf v) := by
 unfold TV.ofLeaf Go.Ab.ofLeaf
 split <;> simp only [VR]
theorem VRL.map {α : Type} (f : α → TV D.T) (g : α → V) (h : ∀ x, VR D ρ lv (f x) (g x)) : ∀ l : List α, VRL D ρ lv (l.map f) (l.map g)
 | [] => by simp [VRL]
 | x :: l => by simp only [List.map_cons, VRL]; exact ⟨_, _, rfl, h x, VRL.map f g h l⟩
theorem VR.ofC (v : Value) : VR D ρ lv (TV.ofC v) (ofConst v) := by
 cases v with
 | agg cs =>
   simp only [TV.ofC, ofConst]
   split
   · simp only [VR]; exact ⟨_, rfl, VRL.map _ _ VR.ofLeaf _⟩
   · simp only [VR]
 | tuple cs => simp only [TV.ofC, ofConst, VR]; exact ⟨_, rfl, VRL.map _ _ VR.ofLeaf _⟩
 | iface t v => simp only [TV.ofC, ofConst, VR]; exact ⟨_, rfl, VR.ofLeaf _⟩
 | _ => simp only [TV.ofC, ofConst]; exact VR.ofLeaf _
theorem VR.leaf {t : DTy} {x : t.S D.T} {v : V} (h : DR D t x v) : VR D ρ lv (D.leaf t x) v := by
 cases t with
 | bool => cases h; simp [Dat.leaf, VR]
 | int k => cases h; simp [Dat.leaf, VR]
 | str => cases h; simp [Dat.leaf, VR]
 | nat => simp [Dat.leaf, VR]
 | st i => simp [Dat.leaf, VR]
 | sl t => simp only [Dat.leaf, VR]; exact ⟨h, by omega, by omega⟩
variable {P : Program} (hD : D.Ok P)
include hD
theorem DR.agg {i : Nat} {x : D.T i} {v : V} (h : DR D (.st i) x v) : ∃ vs, v = .agg vs ∧ vs.length = (D.fl i).length ∧ ∀ (j : Nat) (p : (t : DTy) × t.S D.T) (u : V), HL.nth (D.fl i) (D.get i x) j = some p → vs[j]? = some u → DR D p.1 p.2 u := by
 cases h with
 | st _ _ vs hl h => exact ⟨vs, rfl, hl, h⟩
 | enc => exact ⟨_, hD.enc i x, els_len _ _, fun j p u hp hu => by
   rw [els_nth, hp] at hu
   injection hu with hu
   subst hu
   exact DR.el _ _⟩
theorem VR.tv {t : DTy} {x : t.S D.T} {v : V} (h : DR D t x v) : VR D ρ lv (D.tv t x) v := by
 cases t with
 | st i =>
   obtain ⟨vs, rfl, h1, h2⟩ := DR.agg hD h
   simp only [Dat.tv, VR]
   refine ⟨vs, rfl, .of (by rw [leaves_len, h1]) fun j c u hc hu => ?_⟩
   rw [leaves_nth, Option.map_eq_some_iff] at hc
   obtain ⟨p, hp, rfl⟩ := hc
   exact .leaf (h2 j p u hp hu)
 | bool => exact VR.leaf h
 | int k => exact VR.leaf h
 | str => exact VR.leaf h
 | nat => exact VR.leaf h
 | sl t => exact VR.leaf h
omit hD in
theorem lcast_some {T : Nat → Type} {a b : DTy} {x : List (a.S T)} {y : List (b.S T)} (h : lcast a b x = some y) : ∃ e : a = b, y = e ▸ x := by
 unfold lcast at h
 split at h
 ·rename_i e; injection h with h; exact ⟨e, h.symm⟩
 ·cases h
omit hD in
theorem asLeaf_sound {t : DTy} {c : TV D.T} {x : t.S D.T} {v : V} (h : asLeaf D t c = .ok x) (hv : VR D ρ lv c v) : DR D t x v := by
 unfold asLeaf at h
 split at h
 ·injection h with h; subst h; simp only [VR] at hv; subst hv; exact .bool _
 ·split at h
  ·rename_i hk; injection h with h; subst h; subst hk; simp only [VR] at hv; subst hv; exact .int _ _
  ·cases h
 ·injection h with h; subst h; simp only [VR] at hv; subst hv; exact .str _
 ·rename_i t t' xs fl
  cases hl : lcast t' t xs with
  | none => rw [hl] at h; cases h
  | some y =>
    rw [hl] at h
    injection h with h
    subst h
    obtain ⟨rfl, rfl⟩ := lcast_some hl
    simp only [VR] at hv
    exact hv.1
 ·injection h with h; subst h; simp only [VR] at hv; subst hv; exact .nil _
 ·cases h
 ·cases h
omit hD in
theorem asLeaves_sound : ∀ {l : List DTy} {cs : List (TV D.T)} {x : HL D.T l} {vs : List V}, asLeaves D l cs = .ok x → VRL D ρ lv cs vs → vs.length = l.length ∧ ∀ (j : Nat) (p : (t : DTy) × t.S D.T) (u : V), HL.nth l x j = some p → vs[j]? = some u → DR D p.1 p.2 u
 | [], [], x, vs, h, hv => by simp only [VRL] at hv; subst hv; exact ⟨rfl, fun j p u _ hu => by simp at hu⟩
 | [], c :: cs, x, vs, h, hv => by simp [asLeaves] at h
 | t :: l, [], x, vs, h, hv => by simp [asLeaves] at h
 | t :: l, c :: cs, x, vs, h, hv => by
   simp only [VRL] at hv
   obtain ⟨v, r, rfl, h1, h2⟩ := hv
   simp only [asLeaves] at h
   split at h
   · rename_i y hy
     split at h
     · rename_i ys hys
       injection h with h
       subst h
       obtain ⟨k1, k2⟩ := asLeaves_sound hys h2
       refine ⟨by simp [k1], fun j p u hp hu => ?_⟩
       cases j with
       | zero => simp only [HL.nth, Option.some.injEq] at hp; subst hp; simp at hu; subst hu; exact asLeaf_sound hy h1
       | succ j => exact k2 j p u hp (by simpa using hu)
     · cases h
     · cases h
   · cases h
   · cases h
theorem asD_sound {t : DTy} {c : TV D.T} {x : t.S D.T} {v : V} (h : asD D t c = .ok x) (hv : VR D ρ lv c v) : DR D t x v := by
 unfold asD at h
 split at h
 ·rename_i i cs
  split at h
  ·rename_i y hy
   injection h with h
   subst h
   simp only [VR] at hv
   obtain ⟨vs, rfl, hv⟩ := hv
   obtain ⟨k1, k2⟩ := asLeaves_sound hy hv
   exact .st i _ vs k1 (by rw [hD.getMake]; exact k2)
  ·cases h
  ·cases h
 ·cases h
 ·exact asLeaf_sound h hv
theorem asDs_sound {t : DTy} : ∀ {cs : List (TV D.T)} {xs : List (t.S D.T)} {vs : List V}, asDs D t cs = .ok xs → VRL D ρ lv cs vs → vs.length = xs.length ∧ ∀ (j : Nat) (x : t.S D.T) (w : V), xs[j]? = some x → vs[j]? = some w → DR D t x w
 | [], xs, vs, h, hv => by simp only [VRL] at hv; subst hv; simp only [asDs] at h; injection h with h; subst h; exact ⟨rfl, fun j x w hx => by simp at hx⟩
 | c :: cs, xs, vs, h, hv => by
   simp only [VRL] at hv
   obtain ⟨v, r, rfl, h1, h2⟩ := hv
   simp only [asDs] at h
   split at h
   · rename_i y hy
     split at h
     · rename_i ys hys
       injection h with h
       subst h
       obtain ⟨k1, k2⟩ := asDs_sound hys h2
       refine ⟨by simp [k1], fun j x w hx hw => ?_⟩
       cases j with
       | zero => simp at hx hw; subst hx; subst hw; exact asD_sound hD hy h1
       | succ j => exact k2 j x w (by simpa using hx) (by simpa using hw)
     · cases h
     · cases h
   · cases h
   · cases h
end
end Go.Ab


namespace Go.Ab
open Go
set_option linter.unusedVariables false
set_option linter.unusedSimpArgs false
structure Fr where
 lv : Nat
 E : Nat → Nat → Option AObj
 e0 : Nat → Nat → Option AObj
 L0 : List (Option AObj)
 out : Nat → Prop
 pin : List Slot
section
variable (D : Dat) (ρ : List Slot) (lv : Nat) (L : List (Option AObj))
def OR (sl : Slot) : TO D.T → Prop
 | .cells cs => ∃ i vs, sl.k = some i ∧ L[i]? = some (some (.cells vs)) ∧ VRL D ρ lv cs vs
 | .acc ty t xs w => sl.ws.length = xs.length ∧ (∀ (j : Nat) (x : t.S D.T) (v : V), xs[j]? = some x → sl.ws[j]? = some v → DR D t x v) ∧
   (match sl.k with
   | none => (sl.v = .nils ∧ sl.ws = []) ∨ ((sl.v = .sl (D.len t) sl.ws true ∧ t ≠ .int .u8) ∧ (w = true → sl.ws = []))
   | some i => ∃ ver cp, sl.v = .hs lv i ver 0 sl.ws.length false ∧ L[i]? = some (some (.arr ver ty (D.len t) sl.ws cp)))
 | .siter s pos => ∃ i, sl.k = some i ∧ L[i]? = some (some (.siter s pos))
 | .bld ty b => ∃ i a c, sl.k = some i ∧ L[i]? = some (some (.arr 0 ty 2 [.agg [a, c]] (some 1))) ∧ (a = .nilp ∨ a = .ap lv i 0 0 0) ∧ VR D ρ lv (bufT b) c
 | .gone => True
end
def TO.live {T : Nat → Type} : TO T → Prop
 | .gone => False
 | _ => True
def DfL (D : Dat) (ρ : List Slot) (lv : Nat) : List (Nat × List (TV D.T)) → List (Nat × List V) → Prop
 | [], ds => ds = []
 | p :: r, ds => ∃ vs s, ds = (p.1, vs) :: s ∧ VRL D ρ lv p.2 vs ∧ DfL D ρ lv r s
theorem DfL.imp {D : Dat} {ρ ρ' : List Slot} {lv : Nat} (f : List (TV D.T) → List (TV D.T)) (hf : ∀ xs vs, VRL D ρ lv xs vs → VRL D ρ' lv (f xs) vs) : ∀ {l : List (Nat × List (TV D.T))} {ds : List (Nat × List V)}, DfL D ρ lv l ds → DfL D ρ' lv (l.map fun p => (p.1, f p.2)) ds
 | [], ds, h => h
 | p :: r, ds, h => by
   obtain ⟨vs, s, h1, h2, h3⟩ := h
   exact ⟨vs, s, h1, hf _ _ h2, DfL.imp f hf h3⟩
theorem DfL.more {D : Dat} {ρ : List Slot} {lv : Nat} (e : List Slot) {l : List (Nat × List (TV D.T))} {ds : List (Nat × List V)} (h : DfL D ρ lv l ds) : DfL D (ρ ++ e) lv l ds := by
 have := h.imp (ρ' := ρ ++ e) (fun xs => xs) (fun xs vs k => k.more e)
 simpa using this
structure TRr (D : Dat) (F : Fr) (ρ : List Slot) (ts : TS D.T) (σ : St) : Prop where
 nx : ρ.length = ts.nx
 nt : σ.t.length = ts.nt
 tm : ∀ (j : Nat) (x : TV D.T), fnd ts.t j = some x → ∃ v, σ.t[j]? = some v ∧ VR D ρ F.lv x v
 ob : ∀ (s : Nat) (o : TO D.T), fnd ts.o s = some o → ∃ sl, ρ[s]? = some sl ∧ OR D ρ F.lv σ.H.L sl o
 inj : ∀ (s s' : Nat) (o o' : TO D.T) (sl sl' : Slot) (i : Nat), fnd ts.o s = some o → fnd ts.o s' = some o' → o.live → o'.live → ρ[s]? = some sl → ρ[s']? = some sl' → sl.k = some i → sl'.k = some i → s = s'
 mine : ∀ (s : Nat) (o : TO D.T) (sl : Slot) (i : Nat), fnd ts.o s = some o → o.live → ρ[s]? = some sl → sl.k = some i → ¬ F.out i
 lv : σ.H.lv = F.lv
 E : σ.H.E = F.E
 e0 : σ.e0 = F.e0
 d : DfL D ρ F.lv ts.d σ.d
 out : ∀ i, F.out i → i < σ.H.L.length ∧ σ.H.L[i]? = F.L0[i]?
 pin : ∀ (j : Nat) (sl : Slot), F.pin[j]? = some sl → ρ[j]? = some sl
section
variable {P : Program} {D : Dat} {F : Fr} {ρ : List Slot} {ts : TS D.T} {σ : St} {lv : Nat}
theorem tRd_sound {t off : Nat} {cs : List (TV D.T)} {vs : List V} {x : TV D.T} (hv : VRL D ρ lv cs vs) (h : tRd P t cs off = some x) : ∃ v, rd P t vs off = some v ∧ VR D ρ lv x v := by
 unfold tRd at h
 unfold rd
 split at h
 ·cases h
 ·rename_i heq
  rw [heq]
  split at h
  ·rename_i hl
   injection h with h; subst h
   refine ⟨_, by simp only; rw [if_pos (by rw [← hv.length]; exact hl)], ?_⟩
   simp only [VR]
   exact ⟨_, rfl, (hv.drop _).take _⟩
  ·cases h
 ·rename_i heq
  rw [heq]
  split at h
  ·rename_i hl
   injection h with h; subst h
   refine ⟨_, by simp only; rw [if_pos (by rw [← hv.length]; exact hl)], ?_⟩
   simp only [VR]
   exact ⟨_, rfl, (hv.drop _).take _⟩
  ·cases h
 ·rename_i h1 h2 heq
  obtain ⟨v, k1, k2⟩ := hv.get off x h
  rw [heq]
  cases hd : ‹TypeDesc› <;> first | exact (h1 _ hd).elim | exact (h2 _ _ hd).elim | exact ⟨v, k1, k2⟩
theorem TRr.ev (hR : TRr D F ρ ts σ) {o : Operand} {x : TV D.T} (h : ts.ev o = some x) : VR D ρ F.lv x (σ.ev o) := by
 cases o with
 | tmp t =>
   obtain ⟨v, h1, h2⟩ := hR.tm t x h
   simp only [St.ev, List.getD_eq_getElem?_getD, h1, Option.getD_some]
   exact h2
 | const v => simp only [TS.ev, Option.some.injEq] at h; subst h; exact .ofC v
 | func f => simp only [TS.ev, Option.some.injEq] at h; subst h; simp only [St.ev, VR]; exact ⟨[], [], rfl, by simp [VRL], by simp [VRL]⟩
 | global g => simp [TS.ev] at h
theorem TRr.evs (hR : TRr D F ρ ts σ) : ∀ {l : List Operand} {xs : List (TV D.T)}, ts.evs l = some xs → VRL D ρ F.lv xs (l.map σ.ev)
 | [], xs, h => by simp only [TS.evs, Option.some.injEq] at h; subst h; simp [VRL]
 | o :: l, xs, h => by
   simp only [TS.evs] at h
   split at h
   · rename_i v vs hv hvs
     injection h with h; subst h
     simp only [List.map_cons, VRL]
     exact ⟨_, _, rfl, hR.ev hv, hR.evs hvs⟩
   · cases h
theorem TRr.get (hR : TRr D F ρ ts σ) {i : Nat} {o : AObj} (h : σ.H.L[i]? = some (some o)) : σ.H.get F.lv i = some o := by
 unfold Heap.get; rw [if_pos hR.lv.symm, h]; rfl
variable (hD : D.Ok P)
include hD
theorem VR.tvCells {t : DTy} {x : t.S D.T} {v : V} (h : DR D t x v) : VRL D ρ lv (D.tv t x).cells v.cells := by
 cases t with
 | nat => cases h; simp only [Dat.tv, TV.cells, V.cells, VRL]; exact ⟨_, _, rfl, by simp only [VR], rfl⟩
 | st i => exact (VR.tv hD h).cells rfl
 | bool => exact (VR.tv hD h).cells rfl
 | int k => exact (VR.tv hD h).cells rfl
 | str => exact (VR.tv hD h).cells rfl
 | sl t => exact (VR.tv hD h).cells rfl
theorem tLoad_sound (hR : TRr D F ρ ts σ) {t : Nat} {a x : TV D.T} {va : V} (h : tLoad P D ts t a = some x) (ha : VR D ρ F.lv a va) : ∃ v, pLoad P σ.H t va = some v ∧ VR D ρ F.lv x v := by
 unfold tLoad at h
 split at h
 ·simp only [VR] at ha
  obtain ⟨vs, rfl, hv⟩ := ha
  exact tRd_sound hv h
 ·rename_i s off
  split at h
  ·rename_i cs ho
   simp only [VR] at ha
   obtain ⟨sl, i, h1, h2, rfl⟩ := ha
   obtain ⟨sl', k1, k2⟩ := hR.ob s _ ho
   rw [h1] at k1; injection k1 with k1; subst k1
   simp only [OR] at k2
   obtain ⟨i', vs, q1, q2, q3⟩ := k2
   rw [h2] at q1; injection q1 with q1; subst q1
   simp only [pLoad_ptr, hR.get q2]
   exact tRd_sound q3 h
  ·cases h
 ·rename_i s τ i y off
  split at h
  ·rename_i ty t' xs w ho
   simp only [VR] at ha
   obtain ⟨sl, u, h1, h2, h3, h4, h5⟩ := ha
   obtain ⟨sl', k1, k2⟩ := hR.ob s _ ho
   rw [h1] at k1; injection k1 with k1; subst k1
   simp only [OR] at k2
   obtain ⟨q1, q2, q3⟩ := k2
   have hc := VR.tvCells (ρ := ρ) (lv := F.lv) hD h4
   cases hk : sl.k with
   | none =>
     rw [hk] at h5
     simp only at h5
     subst h5
     exact tRd_sound hc h
   | some j =>
     rw [hk] at h5 q3
     obtain ⟨ver, n, e1, rfl⟩ := h5
     obtain ⟨ver', cp, e2, e3⟩ := q3
     rw [e1] at e2; injection e2 with _ _ e2; subst e2
     simp only [pLoad_ap, aelem, hR.get e3, if_true, h3, Option.map_some, Option.bind_some]
     exact tRd_sound hc h
  ·cases h
 ·rename_i s off
  split at h
  ·rename_i ty b ho
   simp only [VR] at ha
   obtain ⟨sl, i, h1, h2, rfl⟩ := ha
   obtain ⟨sl', k1, k2⟩ := hR.ob s _ ho
   rw [h1] at k1; injection k1 with k1; subst k1
   simp only [OR] at k2
   obtain ⟨i', u, c, q1, q2, q3, q4⟩ := k2
   rw [h2] at q1; injection q1 with q1; subst q1
   have hv : VRL D ρ F.lv [.any, bufT b] [u, c] := by
    simp only [VRL]
    exact ⟨u, [c], rfl, by simp only [VR], c, [], rfl, q4, rfl⟩
   obtain ⟨v, w1, w2⟩ := tRd_sound hv h
   refine ⟨v, ?_, w2⟩
   simp only [pLoad_ap, aelem, hR.get q2, if_true, List.getElem?_cons_zero, Option.map_some, Option.bind_some, V.cells]
   exact w1
  ·cases h
 ·cases h
omit hD in
theorem tFieldAddr_sound {s f : Nat} {x y : TV D.T} {vx : V} (h : tFieldAddr P s f x = some y) (hx : VR D ρ lv x vx) : ∃ v, pFieldAddr P s f vx = some v ∧ VR D ρ lv y v := by
 unfold tFieldAddr at h
 unfold pFieldAddr
 split at h
 ·cases h
 ·rename_i o ho
  rw [ho]
  split at h
  ·injection h with h; subst h
   simp only [VR] at hx ⊢
   obtain ⟨vs, rfl, hv⟩ := hx
   exact ⟨_, rfl, vs, rfl, hv⟩
  ·injection h with h; subst h
   simp only [VR] at hx ⊢
   obtain ⟨sl, i, h1, h2, rfl⟩ := hx
   exact ⟨_, rfl, sl, i, h1, h2, rfl⟩
  ·injection h with h; subst h
   simp only [VR] at hx ⊢
   obtain ⟨sl, w, h1, h2, h3, h4, h5⟩ := hx
   cases hk : sl.k with
   | none => rw [hk] at h5; simp only at h5; subst h5; exact ⟨_, rfl, sl, w, h1, h2, h3, h4, by rw [hk]⟩
   | some j => rw [hk] at h5; obtain ⟨ver, n, e1, rfl⟩ := h5; exact ⟨_, rfl, sl, w, h1, h2, h3, h4, by rw [hk]; exact ⟨ver, n, e1, rfl⟩⟩
  ·injection h with h; subst h
   simp only [VR] at hx ⊢
   obtain ⟨sl, i, h1, h2, rfl⟩ := hx
   exact ⟨_, rfl, sl, i, h1, h2, rfl⟩
  ·cases h
omit hD in
theorem tField_sound {s f : Nat} {x y : TV D.T} {vx : V} (h : tField P s f x = some y) (hx : VR D ρ lv x vx) : ∃ v, pField P s f vx = some v ∧ VR D ρ lv y v := by
 unfold tField at h
 unfold pField
 split at h
 ·rename_i fs hu
  rw [hu]
  simp only
  split at h
  ·rename_i fd hf
   rw [hf]
   split at h
   ·simp only [VR] at hx
    obtain ⟨vs, rfl, hv⟩ := hx
    exact tRd_sound hv h
   ·cases h
  ·cases h
 ·cases h
omit hD in
theorem tExtract_sound {i : Nat} {x y : TV D.T} {vx : V} (h : tExtract i x = some y) (hx : VR D ρ lv x vx) : ∃ v, pExtract i vx = some v ∧ VR D ρ lv y v := by
 unfold tExtract at h
 split at h
 ·simp only [VR] at hx
  obtain ⟨vs, rfl, hv⟩ := hx
  exact hv.get i y h
 ·cases h
omit hD in
theorem tNil_sound {x y : TV D.T} {vx : V} (h : tNil x = some y) (hx : VR D ρ lv x vx) : ∃ v, pNilCheck vx = some v ∧ VR D ρ lv y v := by
 unfold tNil at h
 split at h
 ·injection h with h; subst h
  refine ⟨vx, ?_, hx⟩
  simp only [VR] at hx; obtain ⟨sl, i, h1, h2, rfl⟩ := hx; rfl
 ·injection h with h; subst h
  refine ⟨vx, ?_, hx⟩
  simp only [VR] at hx; obtain ⟨vs, rfl, hv⟩ := hx; rfl
 ·injection h with h; subst h
  refine ⟨vx, ?_, hx⟩
  simp only [VR] at hx; obtain ⟨sl, w, h1, h2, h3, h4, h5⟩ := hx
  split at h5
  ·subst h5; rfl
  ·obtain ⟨ver, n, e1, rfl⟩ := h5; rfl
 ·injection h with h; subst h
  refine ⟨vx, ?_, hx⟩
  simp only [VR] at hx; obtain ⟨sl, i, h1, h2, rfl⟩ := hx; rfl
 ·injection h with h; subst h
  refine ⟨vx, ?_, hx⟩
  simp only [VR] at hx; obtain ⟨as, bs, rfl, _⟩ := hx; rfl
 ·cases h
omit hD in
theorem tUn_sound {op : UnOp} {x y : TV D.T} {vx : V} (h : tUn op x = some y) (hx : VR D ρ lv x vx) : ∃ v, pUn op vx = some v ∧ VR D ρ lv y v := by
 unfold tUn at h
 split at h
 ·injection h with h; subst h; simp only [VR] at hx; subst hx; exact ⟨_, rfl, by simp only [VR]⟩
 ·injection h with h; subst h; simp only [VR] at hx; subst hx; exact ⟨_, rfl, by simp only [VR]⟩
 ·injection h with h; subst h; simp only [VR] at hx; subst hx; exact ⟨_, rfl, by simp only [VR]⟩
 ·cases h
omit hD in
theorem tConvert_sound {s d : Nat} {x y : TV D.T} {vx : V} (h : tConvert P s d x = some y) (hx : VR D ρ lv x vx) : ∃ v, pConvert P s d vx = some v ∧ VR D ρ lv y v := by
 unfold tConvert at h
 unfold pConvert
 split at h
 ·simp only [VR] at hx; subst hx
  split at h
  ·rename_i h1 h2
   injection h with h; subst h
   simp only [h1, h2]
   exact ⟨_, rfl, by simp only [VR]⟩
  ·cases h
 ·simp only [VR] at hx; subst hx
  split at h
  ·rename_i h1 h2
   injection h with h; subst h
   simp only [h1, h2]
   exact ⟨_, rfl, by simp only [VR]⟩
  ·cases h
 ·cases h
omit hD in
theorem tTypeAssert_sound {u : Nat} {ok : Bool} {x y : TV D.T} {vx : V} (h : tTypeAssert P x u ok = some y) (hx : VR D ρ lv x vx) : ∃ v, pTypeAssert P vx u ok = some v ∧ VR D ρ lv y v := by
 unfold tTypeAssert at h
 unfold pTypeAssert
 split at h
 ·cases h
 ·rename_i d t z hni hu
  simp only [VR] at hx
  obtain ⟨w, rfl, hw⟩ := hx
  split at h
  ·rename_i ht
   injection h with h; subst h
   rw [hu]
   cases d <;> first
    | exact (hni _ rfl).elim
    | (refine ⟨_, by simp only; rw [if_pos ht], ?_⟩
       cases ok
       · exact hw
       · simp only [if_true, VR, VRL]; exact ⟨_, rfl, _, _, rfl, hw, _, _, rfl, rfl, rfl⟩)
  ·cases h
 ·cases h
omit hD in
theorem tMinMax_sound {m : Bool} {xs : List (TV D.T)} {vs : List V} {y : TV D.T} (h : tMinMax m xs = some y) (hx : VRL D ρ lv xs vs) : ∃ v, pMinMax m vs = some v ∧ VR D ρ lv y v := by
 unfold tMinMax at h
 split at h
 ·injection h with h; subst h
  simp only [VRL, VR] at hx
  obtain ⟨_, _, rfl, rfl, _, _, rfl, rfl, rfl⟩ := hx
  exact ⟨_, rfl, by simp only [VR]; cases m <;> rfl⟩
 ·injection h with h; subst h
  simp only [VRL, VR] at hx
  obtain ⟨_, _, rfl, rfl, _, _, rfl, rfl, _, _, rfl, rfl, rfl⟩ := hx
  exact ⟨_, rfl, by simp only [VR]; cases m <;> rfl⟩
 ·cases h
omit hD in
theorem TRr.parts (hR : TRr D F ρ ts σ) : ∀ {l : List (Nat × Operand)} {xs : List (Nat × TV D.T)}, tParts ts l = some xs → xs.map (·.1) = (l.map fun p => (p.1, σ.ev p.2)).map (·.1) ∧ VRL D ρ F.lv (xs.map (·.2)) ((l.map fun p => (p.1, σ.ev p.2)).map (·.2))
 | [], xs, h => by simp only [tParts, Option.some.injEq] at h; subst h; simp [VRL]
 | (i, o) :: l, xs, h => by
   simp only [tParts] at h
   split at h
   · rename_i v vs hv hvs
     injection h with h; subst h
     obtain ⟨h1, h2⟩ := hR.parts hvs
     simp only [List.map_cons, VRL]
     exact ⟨by rw [h1], _, _, rfl, hR.ev hv, h2⟩
   · cases h
omit hD in
theorem tFill_sound {place : Nat → Option (Nat × Nat)} : ∀ {ps : List (Nat × TV D.T)} {qs : List (Nat × V)} {cs r : List (TV D.T)} {vs : List V}, ps.map (·.1) = qs.map (·.1) → VRL D ρ lv (ps.map (·.2)) (qs.map (·.2)) → VRL D ρ lv cs vs → tFill place cs ps = some r → ∃ r', fillV place vs qs = some r' ∧ VRL D ρ lv r r'
 | [], [], cs, r, vs, _, _, hc, h => by simp only [tFill, Option.some.injEq] at h; subst h; exact ⟨vs, rfl, hc⟩
 | [], q :: qs, cs, r, vs, h1, _, _, _ => by simp at h1
 | p :: ps, [], cs, r, vs, h1, _, _, _ => by simp at h1
 | (i, x) :: ps, (i', v) :: qs, cs, r, vs, h1, h2, hc, h => by
   simp only [List.map_cons, List.cons.injEq] at h1
   obtain ⟨rfl, h1⟩ := h1
   simp only [List.map_cons, VRL] at h2
   obtain ⟨u, us, he, h2, h3⟩ := h2
   injection he with he1 he2
   subst he1; subst he2
   simp only [tFill] at h
   simp only [fillV]
   split at h
   · cases h
   · rename_i off size hp
     split at h
     · rename_i hcond
       simp only [Bool.and_eq_true, beq_iff_eq, decide_eq_true_eq] at hcond
       have hcells := h2.cells hcond.1.1
       rw [hp]
       simp only
       rw [if_pos (by simp only [Bool.and_eq_true, beq_iff_eq, decide_eq_true_eq]; exact ⟨⟨h2.solid hcond.1.1, by rw [← hcells.length]; exact hcond.1.2⟩, by rw [← hc.length]; exact hcond.2⟩)]
       exact tFill_sound h1 h3 (hc.splice hcells off) h
     · cases h
omit hD in
theorem tZero_sound {t : Nat} {x : TV D.T} (h : tZero P t = some x) : ∃ v, zeroV P t = some v ∧ VR D ρ lv x v := by
 unfold tZero at h
 unfold zeroV
 rw [Option.map_eq_some_iff] at h
 obtain ⟨z, hz, rfl⟩ := h
 exact ⟨_, by rw [hz]; rfl, .ofC z⟩
omit hD in
theorem tBuild_sound {t : Nat} {ps : List (Nat × TV D.T)} {qs : List (Nat × V)} {y : TV D.T} (h1 : ps.map (·.1) = qs.map (·.1)) (h2 : VRL D ρ lv (ps.map (·.2)) (qs.map (·.2))) (h : tBuild P t ps = some y) : ∃ v, pBuild P t qs = some v ∧ VR D ρ lv y v := by
 unfold tBuild at h
 unfold pBuild
 split at h
 ·rename_i z hz
  obtain ⟨v, hv, hr⟩ := tZero_sound (ρ := ρ) (lv := lv) hz
  simp only [VR] at hr
  obtain ⟨vs, rfl, hr⟩ := hr
  rw [hv]
  simp only
  split at h
  ·rename_i fs hu
   rw [hu]
   simp only
   split at h
   ·rename_i places hp
    rw [hp]
    rw [Option.map_eq_some_iff] at h
    obtain ⟨r, hr', rfl⟩ := h
    obtain ⟨r', k1, k2⟩ := tFill_sound h1 h2 hr hr'
    exact ⟨.agg r', by simp only [k1, Option.map_some], by simp only [VR]; exact ⟨r', rfl, k2⟩⟩
   ·cases h
  ·rename_i n e hu
   rw [hu]
   simp only
   split at h
   ·rename_i hi
    rw [if_pos hi]
    rw [Option.map_eq_some_iff] at h
    obtain ⟨r, hr', rfl⟩ := h
    obtain ⟨r', k1, k2⟩ := tFill_sound h1 h2 hr hr'
    exact ⟨.agg r', by simp only [k1, Option.map_some], by simp only [VR]; exact ⟨r', rfl, k2⟩⟩
   ·cases h
  ·cases h
 ·cases h
omit hD in
theorem tLen_sound (hR : TRr D F ρ ts σ) {t : Nat} {x y : TV D.T} {vx : V} (h : tLen P D ts t x = some y) (hx : VR D ρ F.lv x vx) : ∃ v, pLen P σ.H t vx = some v ∧ VR D ρ F.lv y v := by
 unfold tLen at h
 split at h
 ·split at h
  ·rename_i hu; injection h with h; subst h; simp only [VR] at hx; subst hx; exact ⟨_, by rw [pLen_str, hu], by simp only [VR]⟩
  ·cases h
 ·split at h
  ·rename_i hu; injection h with h; subst h; simp only [VR] at hx; subst hx; exact ⟨_, by rw [pLen_nils, hu], by simp only [VR]⟩
  ·cases h
 ·split at h
  ·rename_i hu
   injection h with h; subst h
   simp only [VR] at hx
   obtain ⟨hx, _⟩ := hx
   cases hx with
   | nil => exact ⟨_, by rw [pLen_nils, hu], by simp only [VR]; rfl⟩
   | sl _ _ ws full hl hh => exact ⟨_, by rw [pLen_sl, hu], by simp only [VR, hl]⟩
  ·cases h
 ·split at h
  ·rename_i hu ho
   injection h with h; subst h
   simp only [VR] at hx
   obtain ⟨sl, h1, rfl, hleaf⟩ := hx
   obtain ⟨sl', k1, k2⟩ := hR.ob _ _ ho
   rw [h1] at k1; injection k1 with k1; subst k1
   simp only [OR] at k2
   obtain ⟨q1, q2, q3⟩ := k2
   cases hk : sl.k with
   | none =>
     rw [hk] at q3
     rcases q3 with ⟨e1, e2⟩ | ⟨e1, e2⟩
     · rw [e1, pLen_nils, hu]
       exact ⟨_, rfl, by simp only [VR]; rw [← q1, e2]; rfl⟩
     · rw [e1.1, pLen_sl, hu]
       exact ⟨_, rfl, by simp only [VR]; rw [q1]⟩
   | some j =>
     rw [hk] at q3
     obtain ⟨ver, cp, e1, e2⟩ := q3
     rw [e1]
     refine ⟨.int .i64 sl.ws.length, ?_, by simp only [VR]; rw [q1]⟩
     simp only [pLen, hu, hR.get e2, if_true]
  ·cases h
 ·split at h
  ·rename_i hu; injection h with h; subst h; simp only [VR] at hx; obtain ⟨vs, rfl, _⟩ := hx; exact ⟨_, by rw [pLen_agg, hu], by simp only [VR]⟩
  ·cases h
 ·cases h
omit hD in
theorem inOrder_range : ∀ (ps : List (Nat × V)) (k n : Nat), ps.map (·.1) = List.range' k n → inOrder k ps = true
 | [], _, _, _ => rfl
 | (i, v) :: r, k, n, h => by
   cases n with
   | zero => simp at h
   | succ n =>
     simp only [List.map_cons, List.range'_succ, List.cons.injEq] at h
     simp only [inOrder, h.1, beq_self_eq_true, Bool.true_and]
     exact inOrder_range r (k + 1) n h.2
theorem tBuildSlice_sound {t len : Nat} {ps : List (Nat × TV D.T)} {qs : List (Nat × V)} {y : TV D.T} (h1 : ps.map (·.1) = qs.map (·.1)) (h2 : VRL D ρ lv (ps.map (·.2)) (qs.map (·.2))) (h : tBuildSlice P D t len ps = .ok y) : ∃ v, pBuildSlice P t len qs = some v ∧ VR D ρ lv y v := by
 unfold tBuildSlice at h
 unfold pBuildSlice
 split at h
 ·rename_i e hu
  rw [hu]
  simp only
  split at h
  ·rename_i z τ hz hτ
   rw [hz]
   simp only
   split at h
   ·rename_i hc
    simp only [Bool.and_eq_true, beq_iff_eq, decide_eq_true_eq, List.all_eq_true] at hc
    obtain ⟨⟨⟨⟨⟨⟨⟨⟨c1, c2⟩, c3⟩, c4⟩, c5⟩, c6⟩, c7⟩, c8⟩, c9⟩ := hc
    have hlen : ps.length = qs.length := by have := congrArg List.length h1; simpa using this
    split at h
    ·rename_i xs hxs
     injection h with h
     subst h
     obtain ⟨k1, k2⟩ := asDs_sound hD hxs h2
     have hql : qs.length = len := by omega
     have hall : ∀ p ∈ qs, p.2.solid = true ∧ p.2.cells.length = P.cellsOf e := fun p hp => by
      obtain ⟨j, hj⟩ := List.getElem?_of_mem hp
      have hlt : j < ps.length := by rw [hlen]; exact (List.getElem?_eq_some_iff.1 hj).1
      have hq := c7 ps[j] (List.getElem_mem hlt)
      have hr : VR D ρ lv ps[j].2 p.2 := h2.get2 (j := j) (by simp [hlt]) (by simp [hj])
      exact ⟨hr.solid hq.1, by rw [← (hr.cells hq.1).length]; exact hq.2⟩
     have hcond : (z.solid && z.cells.length == P.cellsOf e && decide (0 < P.cellsOf e) && (P.info? e).isSome && qs.length == len && inOrder 0 qs && qs.all (fun p => p.2.solid && p.2.cells.length == P.cellsOf e) && decide (len * P.cellsOf e ≤ 2 ^ 24)) = true := by
      simp only [Bool.and_eq_true, beq_iff_eq, decide_eq_true_eq, List.all_eq_true]
      exact ⟨⟨⟨⟨⟨⟨⟨c1, c2⟩, c3⟩, c4⟩, hql⟩, inOrder_range qs 0 len (by rw [← h1, c6, List.range_eq_range'])⟩, hall⟩, c8⟩
     rw [if_pos hcond]
     refine ⟨_, rfl, ?_⟩
     simp only [List.length_map] at k1
     by_cases hl0 : len = 0
     ·rw [if_pos hl0, if_pos hl0, ← c9]
      have : xs = [] := List.eq_nil_of_length_eq_zero (by omega)
      subst this
      simp only [VR]
      exact ⟨.sl τ [] [] true rfl (by simp), fun _ => ⟨[], rfl⟩, fun _ => trivial⟩
     ·rw [if_neg hl0, if_neg hl0, ← c9]
      simp only [VR]
      exact ⟨.sl τ xs _ true (by simpa using k1) k2, fun _ => ⟨_, rfl⟩, by simp⟩
    ·cases h
    ·cases h
   ·cases h
  ·cases h
 ·cases h
omit hD in
theorem FR.of_ok {α : Type} {o : Option α} {a : α} (h : FR.of o = .ok a) : o = some a := by
 cases o with
 | none => cases h
 | some b => injection h with h; rw [h]
theorem tP1_sound (hR : TRr D F ρ ts σ) {op : Op} {x : TV D.T} (h : tP1 P D ts op = .ok x) : ∃ v, pv P σ.H σ.ev op = some v ∧ VR D ρ F.lv x v := by
 unfold tP1 at h
 unfold pv
 split at h
 ·exact ⟨_, rfl, hR.ev (FR.of_ok h)⟩
 ·exact ⟨_, rfl, hR.ev (FR.of_ok h)⟩
 ·split at h
  ·rename_i ha; exact tLoad_sound hD hR (FR.of_ok h) (hR.ev ha)
  ·cases h
 ·split at h
  ·rename_i ha; exact tNil_sound (FR.of_ok h) (hR.ev ha)
  ·cases h
 ·split at h
  ·rename_i ha; exact tUn_sound (FR.of_ok h) (hR.ev ha)
  ·cases h
 ·split at h
  ·rename_i ha; exact tConvert_sound (FR.of_ok h) (hR.ev ha)
  ·cases h
 ·split at h
  ·rename_i ha
   split at h
   ·rename_i hc
    injection h with h; subst h
    exact ⟨_, by simp only [pMakeInterface]; rw [if_pos hc], by simp only [VR]; exact ⟨_, rfl, hR.ev ha⟩⟩
   ·cases h
  ·cases h
 ·split at h
  ·rename_i ha hb
   injection h with h; subst h
   exact ⟨_, rfl, by simp only [VR]; exact ⟨_, _, rfl, hR.evs ha, hR.evs hb⟩⟩
  ·cases h
 ·split at h
  ·rename_i ha; exact tFieldAddr_sound (FR.of_ok h) (hR.ev ha)
  ·cases h
 ·split at h
  ·rename_i ha; exact tField_sound (FR.of_ok h) (hR.ev ha)
  ·cases h
 ·split at h
  ·rename_i ha; exact tTypeAssert_sound (FR.of_ok h) (hR.ev ha)
  ·cases h
 ·split at h
  ·rename_i ha; exact tExtract_sound (FR.of_ok h) (hR.ev ha)
  ·cases h
 ·split at h
  ·rename_i ha; obtain ⟨h1, h2⟩ := hR.parts ha; exact tBuild_sound h1 h2 (FR.of_ok h)
  ·cases h
 ·split at h
  ·rename_i ha; obtain ⟨h1, h2⟩ := hR.parts ha; exact tBuildSlice_sound hD h1 h2 h
  ·cases h
 ·unfold pBuiltin
  split at h
  ·rename_i hcal
   split at h
   ·rename_i o t hargs htys
    split at h
    ·rename_i ha
     simp only [hcal, hargs, htys]
     exact tLen_sound hR (FR.of_ok h) (hR.ev ha)
    ·cases h
   ·cases h
  ·rename_i hcal
   split at h
   ·rename_i ha; simp only [hcal]; exact tMinMax_sound (FR.of_ok h) (hR.evs ha)
   ·cases h
  ·rename_i hcal
   split at h
   ·rename_i ha; simp only [hcal]; exact tMinMax_sound (FR.of_ok h) (hR.evs ha)
   ·cases h
  ·cases h
 ·cases h
end
end Go.Ab

