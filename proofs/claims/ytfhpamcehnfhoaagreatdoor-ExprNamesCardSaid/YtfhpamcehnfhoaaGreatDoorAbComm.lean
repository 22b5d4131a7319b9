/-
  REGIONS THAT DRAW THEIR ORDER: quiet operations and single effects, any two of which either stand in an order or commute.
-/
import Derived.Test.YtfhpamcehnfhoaaGreatDoorAbMore
namespace Go.Ab
open Go
set_option linter.unusedSimpArgs false
set_option linter.unusedVariables false
section
variable {P : Program} {ops : Array Oper} {md : Region.Mode}

/-- of an operation's place: does it turn memory; what it reads; what it writes (by the numbers of the objects) -/
structure Info where
  eff : Bool
  K : Nat → Prop
  W : Nat → Prop
  call : Bool := false
def Same (K : Nat → Prop) (H H' : Heap) : Prop := ∀ i, K i → H'.L[i]? = H.L[i]?
theorem Same.refl (K : Nat → Prop) (H : Heap) : Same K H H := fun _ _ => rfl
theorem Same.trans {K : Nat → Prop} {A B C : Heap} (h : Same K A B) (k : Same K B C) : Same K A C := fun i hi => (k i hi).trans (h i hi)
theorem Same.symm {K : Nat → Prop} {A B : Heap} (h : Same K A B) : Same K B A := fun i hi => (h i hi).symm

def effB (op : Op) : Bool := match op with
  | .alloc _ | .box _ _ | .store _ _ _ => true
  | .call c => (match c.callee with
    | .builtin .append => true
    | .builtin .unsafeString => true
    | _ => false)
  | _ => false
theorem hMore_congr {H : Heap} {ρ ρ' : Operand → V} {o : Op} (h : ∀ x ∈ o.operands, ρ x = ρ' x) : hMore P H ρ o = hMore P H ρ' o := by
  cases o
  case makeSlice t n c => simp only [hMore, h n (by simp [Op.operands]), h c (by simp [Op.operands])]
  case convert s d x => simp only [hMore, h x (by simp [Op.operands])]
  case binOp op t x y _ => simp only [hMore, h x (by simp [Op.operands]), h y (by simp [Op.operands])]
  case call c =>
    simp only [hMore]
    split
    · split
      · rename_i x ha
        rw [h x (by simp [Op.operands, Call.operands]; right; rw [← Array.mem_toList_iff, ha]; simp)]
      · rfl
    · split
      · rename_i p n pt it ha ht
        rw [h p (by simp [Op.operands, Call.operands]; right; rw [← Array.mem_toList_iff, ha]; simp), h n (by simp [Op.operands, Call.operands]; right; rw [← Array.mem_toList_iff, ha]; simp)]
      · rfl
    · rfl
  all_goals rfl
def QP (P : Program) (H : Heap) (ρ : Operand → V) (o : Oper) (v : V) : Prop := pv P H ρ o.op = some v ∨ (∃ c f args, o.op = .call c ∧ target ρ c = some (f, args) ∧ HCall P f args H v H) ∨ hMore P H ρ o.op = some (v, H) ∨ ∃ t n c, o.op = .makeSlice t n c ∧ pMakeData P t (ρ n) (ρ c) = some v
theorem QP_congr {H : Heap} {ρ ρ' : Operand → V} {o : Oper} {v : V} (h : ∀ x ∈ o.op.operands, ρ x = ρ' x) (hq : QP P H ρ o v) : QP P H ρ' o v := by
  rcases hq with hq | ⟨c, f, args, h1, h2, h3⟩ | hq | ⟨t, n, c, h1, h2⟩
  · exact .inl (by rw [← pv_congr h]; exact hq)
  · exact .inr (.inl ⟨c, f, args, h1, by rw [← target_congr (ρ := ρ) (fun x hx => h x (by rw [h1]; exact hx))]; exact h2, h3⟩)
  · exact .inr (.inr (.inl (by rw [← hMore_congr h]; exact hq)))
  · exact .inr (.inr (.inr ⟨t, n, c, h1, by rw [← h n (by rw [h1]; simp [Op.operands]), ← h c (by rw [h1]; simp [Op.operands])]; exact h2⟩))
/-- what an effect does -/
def Eff2 (P : Program) (H : Heap) (ρ : Operand → V) (op : Op) (v : V) (H' : Heap) : Prop := ox P H ρ op = some (v, H') ∨ hMore P H ρ op = some (v, H')
theorem ox_congr {H : Heap} {ρ ρ' : Operand → V} {o : Op} (he : effB o = true) (h : ∀ x ∈ o.operands, ρ x = ρ' x) : ox P H ρ o = ox P H ρ' o := by
  cases o
  case alloc t => rfl
  case box t x => simp only [ox, h x (by simp [Op.operands])]
  case store t a x => simp only [ox, h x (by simp [Op.operands]), h a (by simp [Op.operands])]
  case call c =>
    simp only [effB] at he
    split at he
    · rename_i hc
      simp only [ox, hc]
      split
      · rename_i s x t u ha ht
        rw [h s (by simp [Op.operands, Call.operands]; right; rw [← Array.mem_toList_iff, ha]; simp), h x (by simp [Op.operands, Call.operands]; right; rw [← Array.mem_toList_iff, ha]; simp)]
      · rfl
    · rename_i hc
      simp only [ox, hc, pv, pBuiltin]
    · cases he
  all_goals cases he
theorem eff2_congr {H H' : Heap} {ρ ρ' : Operand → V} {o : Op} {v : V} (he : effB o = true) (h : ∀ x ∈ o.operands, ρ x = ρ' x) (hx : Eff2 P H ρ o v H') : Eff2 P H ρ' o v H' :=
  hx.imp (fun q => by rw [← ox_congr he h]; exact q) (fun q => by rw [← hMore_congr h]; exact q)

/-- an operation, wherever it is drawn -/
def MV (P : Program) (ops : Array Oper) (S : Heap → Prop) (c : Info) (σ : St) (o : Oper) (v : V) (H' : Heap) : Prop :=
  (wantedV ops σ o = some false ∧ v = .tup [] ∧ H' = σ.H) ∨
  (wantedV ops σ o = some true ∧ S σ.H ∧
    ((c.eff = false ∧ H' = σ.H ∧ ∀ H'', S H'' → Same c.K σ.H H'' → QP P H'' σ.ev o v) ∨
     (c.eff = true ∧ effB o.op = true ∧ Eff2 P σ.H σ.ev o.op v H' ∧ S H' ∧ ∀ i, ¬ c.W i → H'.L[i]? = σ.H.L[i]?)))
def moved (σ : St) (o : Oper) (v : V) (H' : Heap) : St := ({ σ with H := H' } : St).put o.dst v

theorem moved_ev {σ : St} {o : Oper} {v : V} {H' : Heap} {x : Operand} (h : ∀ d, o.dst = some d → x ≠ .tmp d) : (moved σ o v H').ev x = σ.ev x :=
  (ev_put (σ := { σ with H := H' }) h).trans (by cases x <;> rfl)
theorem moved_H {σ : St} {o : Oper} {v : V} {H' : Heap} : (moved σ o v H').H = H' := put_H
theorem moved_wanted {σ : St} {o oj : Oper} {v : V} {H' : Heap} (h : ∀ d, o.dst = some d → d ∉ oj.looksAt ops) : wantedV ops (moved σ o v H') oj = wantedV ops σ oj :=
  (wantedV_put (σ := { σ with H := H' }) h).trans rfl
theorem moved_comm {σ : St} {oi oj : Oper} {v u : V} {A B C : Heap} (h : ∀ d, oi.dst = some d → oj.dst ≠ some d) : moved (moved σ oi v A) oj u C = moved (moved σ oj u B) oi v C := by
  have e1 : ∀ (o : Oper) (w : V) (H : Heap), ({ moved σ o w H with H := C } : St) = ({ σ with H := C } : St).put o.dst w := fun o w H => by unfold moved; cases o.dst <;> rfl
  unfold moved at e1 ⊢
  rw [e1, e1]
  exact put_comm v u h

theorem mv_comm {S : Heap → Prop} {ci cj : Info} {oi oj : Oper} (hap : oi.apart ops oj = true) (hee : ¬ (ci.eff = true ∧ cj.eff = true)) (hij : ci.eff = false → cj.eff = true → ∀ x, ci.K x → ¬ cj.W x) (hji : cj.eff = false → ci.eff = true → ∀ x, cj.K x → ¬ ci.W x)
    {σ : St} {v u : V} {H1 H2 : Heap} (h1 : MV P ops S ci σ oi v H1) (h2 : MV P ops S cj (moved σ oi v H1) oj u H2) :
    ∃ H1', MV P ops S cj σ oj u H1' ∧ MV P ops S ci (moved σ oj u H1') oi v H2 := by
  obtain ⟨a1, a2, a3⟩ := Oper.apart_spec hap
  have evj : ∀ {w : V} {H : Heap}, ∀ x ∈ oj.op.operands, (moved σ oi w H).ev x = σ.ev x := fun {w H} x hx => moved_ev fun d hd => looks_operands (a1 d hd) x hx
  have evi : ∀ {w : V} {H : Heap}, ∀ x ∈ oi.op.operands, (moved σ oj w H).ev x = σ.ev x := fun {w H} x hx => moved_ev fun d hd => looks_operands (a3 d hd) x hx
  have wj : ∀ {w : V} {H : Heap}, wantedV ops (moved σ oi w H) oj = wantedV ops σ oj := moved_wanted a1
  have wi : ∀ {w : V} {H : Heap}, wantedV ops (moved σ oj w H) oi = wantedV ops σ oi := moved_wanted a3
  unfold MV at h1 h2 ⊢
  rw [wj, moved_H] at h2
  simp only [wi, moved_H]
  rcases h1 with ⟨b1, rfl, rfl⟩ | ⟨b1, bs, ⟨b2, rfl, b3⟩ | ⟨b2, b3, b4, b5, b6⟩⟩
  · rcases h2 with ⟨d1, rfl, rfl⟩ | ⟨d1, ds, ⟨d2, rfl, d3⟩ | ⟨d2, d3, d4, d5, d6⟩⟩
    · exact ⟨σ.H, .inl ⟨d1, rfl, rfl⟩, .inl ⟨b1, rfl, rfl⟩⟩
    · exact ⟨σ.H, .inr ⟨d1, ds, .inl ⟨d2, rfl, fun H'' k1 k2 => QP_congr evj (d3 H'' k1 k2)⟩⟩, .inl ⟨b1, rfl, rfl⟩⟩
    · exact ⟨H2, .inr ⟨d1, ds, .inr ⟨d2, d3, eff2_congr d3 evj d4, d5, d6⟩⟩, .inl ⟨b1, rfl, rfl⟩⟩
  · rcases h2 with ⟨d1, rfl, rfl⟩ | ⟨d1, ds, ⟨d2, rfl, d3⟩ | ⟨d2, d3, d4, d5, d6⟩⟩
    · exact ⟨σ.H, .inl ⟨d1, rfl, rfl⟩, .inr ⟨b1, bs, .inl ⟨b2, rfl, fun H'' k1 k2 => QP_congr (fun x hx => (evi x hx).symm) (b3 H'' k1 k2)⟩⟩⟩
    · exact ⟨σ.H, .inr ⟨d1, ds, .inl ⟨d2, rfl, fun H'' k1 k2 => QP_congr evj (d3 H'' k1 k2)⟩⟩, .inr ⟨b1, bs, .inl ⟨b2, rfl, fun H'' k1 k2 => QP_congr (fun x hx => (evi x hx).symm) (b3 H'' k1 k2)⟩⟩⟩
    · refine ⟨H2, .inr ⟨d1, ds, .inr ⟨d2, d3, eff2_congr d3 evj d4, d5, d6⟩⟩, .inr ⟨b1, d5, .inl ⟨b2, rfl, fun H'' k1 k2 => QP_congr (fun x hx => (evi x hx).symm) (b3 H'' k1 (Same.trans (fun x hx => d6 x (hij b2 d2 x hx)) k2))⟩⟩⟩
  · rcases h2 with ⟨d1, rfl, rfl⟩ | ⟨d1, ds, ⟨d2, rfl, d3⟩ | ⟨d2, d3, d4, d5, d6⟩⟩
    · exact ⟨σ.H, .inl ⟨d1, rfl, rfl⟩, .inr ⟨b1, bs, .inr ⟨b2, b3, eff2_congr b3 (fun x hx => (evi x hx).symm) b4, b5, b6⟩⟩⟩
    · have hs : Same cj.K σ.H H2 := fun x hx => b6 x (hji d2 b2 x hx)
      exact ⟨σ.H, .inr ⟨d1, bs, .inl ⟨d2, rfl, fun H'' k1 k2 => QP_congr evj (d3 H'' k1 (hs.symm.trans k2))⟩⟩, .inr ⟨b1, bs, .inr ⟨b2, b3, eff2_congr b3 (fun x hx => (evi x hx).symm) b4, b5, b6⟩⟩⟩
    · exact (hee ⟨b2, d2⟩).elim

/-- a call that turns memory -/
def MC (P : Program) (ops : Array Oper) (S : Heap → Prop) (c : Info) (σ : St) (o : Oper) (K : V → Heap → Prop) (Kp : V → St → Prop) : Prop :=
  c.eff = true ∧ c.call = true ∧ wantedV ops σ o = some true ∧ ∃ cl f args Post, o.op = .call cl ∧ target σ.ev cl = some (f, args) ∧ HRel P f args σ.H Post ∧
    (∀ v H', Post (.ret v) H' → S H' ∧ (∀ i, ¬ c.W i → H'.L[i]? = σ.H.L[i]?) ∧ K v H') ∧ ∀ v H', Post (.pan v) H' → Kp v { σ with H := H' }
theorem MC.imp {S : Heap → Prop} {c : Info} {σ : St} {o : Oper} {K K' : V → Heap → Prop} {Kp : V → St → Prop} (h : MC P ops S c σ o K Kp) (hk : ∀ v H', S H' → (∀ i, ¬ c.W i → H'.L[i]? = σ.H.L[i]?) → K v H' → K' v H') : MC P ops S c σ o K' Kp := by
  obtain ⟨h1, h2, h3, cl, f, args, Post, h4, h5, h6, h7, h8⟩ := h
  exact ⟨h1, h2, h3, cl, f, args, Post, h4, h5, h6, fun v H' hp => by obtain ⟨a, b, c⟩ := h7 v H' hp; exact ⟨a, b, hk v H' a b c⟩, h8⟩
/-- b waits for a, by way of others -/
inductive Dep (md : Region.Mode) (ops : Array Oper) (a : Nat) : Nat → Prop where
  | one (b : Nat) (o : Oper) (e : Edge) (ho : ops[b]? = some o) (he : e ∈ o.after) (hb : Region.binds md e = true) (hon : e.on = a) : Dep md ops a b
  | more (b : Nat) (o : Oper) (e : Edge) (ho : ops[b]? = some o) (he : e ∈ o.after) (hb : Region.binds md e = true) (h : Dep md ops a e.on) : Dep md ops a b
/-- two places that do not wait for one another -/
def Free (md : Region.Mode) (ops : Array Oper) (i j : Nat) : Prop := ¬ Dep md ops i j ∧ ¬ Dep md ops j i
/-- what is done is done behind all that it waits for -/
def Down (md : Region.Mode) (ops : Array Oper) (listed : Array Bool) : Prop := ∀ b o, ops[b]? = some o → listed.getD b false = true → ∀ e ∈ o.after, Region.binds md e = true → listed.getD e.on false = true
theorem Down.dep {listed : Array Bool} (h : Down md ops listed) {a b : Nat} (hd : Dep md ops a b) : listed.getD b false = true → listed.getD a false = true := by
  induction hd with
  | one b o e ho he hb hon => intro hl; subst hon; exact h b o ho hl e he hb
  | more b o e ho he hb _ ih => intro hl; exact ih (h b o ho hl e he hb)
theorem Down.ready {listed : Array Bool} (h : Down md ops listed) {a b : Nat} (hb : b ∈ Region.ready md ops listed) (hd : Dep md ops a b) : listed.getD a false = true := by
  obtain ⟨_, o', ho', hall⟩ := mem_ready.1 hb
  cases hd with
  | one _ o e ho he hb hon => rw [ho'] at ho; injection ho with ho; subst ho; subst hon; exact hall e he hb
  | more _ o e ho he hb hd => rw [ho'] at ho; injection ho with ho; subst ho; exact h.dep hd (hall e he hb)
theorem Down.set {listed : Array Bool} (h : Down md ops listed) {k : Nat} (hk : k ∈ Region.ready md ops listed) : Down md ops (listed.setIfInBounds k true) := fun b o ho hl e he hb => by
  obtain ⟨_, o', ho', hall⟩ := mem_ready.1 hk
  have up : ∀ j, listed.getD j false = true → (listed.setIfInBounds k true).getD j false = true := fun j hj => by
    by_cases hjk : k = j
    · subst hjk
      rcases Nat.lt_or_ge k listed.size with q | q
      · simp [Array.getD_eq_getD_getElem?, q]
      · simp [Array.getD_eq_getD_getElem?, Array.getElem?_eq_none q] at hj
    · rw [getD_set_ne false hjk]; exact hj
  refine up _ ?_
  by_cases hbk : k = b
  · subst hbk
    rw [ho'] at ho; injection ho with ho; subst ho
    exact hall e he hb
  · rw [getD_set_ne false hbk] at hl
    exact h b o ho hl e he hb
/-- what two places may do that no edge binds -/
def PairOk (md : Region.Mode) (ops : Array Oper) (i j : Nat) (ci cj : Info) : Prop := Free md ops i j → (¬ (ci.eff = true ∧ cj.eff = true)) ∧ (ci.eff = false → cj.eff = true → ∀ x, ci.K x → ¬ cj.W x) ∧ (cj.eff = false → ci.eff = true → ∀ x, cj.K x → ¬ ci.W x)
/-- what may be done at a place, held against earlier ones -/
def GP (md : Region.Mode) (ops : Array Oper) (prev : List (Nat × Info)) (j : Nat) (c : Info) : Prop := ∀ p ∈ prev, PairOk md ops p.1 j p.2 c
section
variable (P ops) (md) (S : Heap → Prop) (G : Nat → Info → Prop) (Kp : V → St → Prop)
def GoA (i : Nat) (K : St → Prop) (σ : St) : Prop :=
  match ops[i]? with
  | none => K σ
  | some o => ∃ c, G i c ∧ ((∃ v H', c.call = false ∧ MV P ops S c σ o v H' ∧ K (moved σ o v H')) ∨ MC P ops S c σ o (fun v H' => K (moved σ o v H')) Kp)
def AM (R : St → Prop) : Nat → Array Bool → St → Prop
  | 0, listed, σ => Region.ready md ops listed = [] ∧ R σ
  | fuel + 1, listed, σ => (Region.ready md ops listed = [] → R σ) ∧ ∀ i ∈ Region.ready md ops listed, GoA P ops S G Kp i (AM R fuel (listed.setIfInBounds i true)) σ
end
variable {S : Heap → Prop} {G G' : Nat → Info → Prop} {Kp : V → St → Prop}
theorem MV.goA {i : Nat} {o : Oper} {v : V} {σ : St} {c : Info} {H' : Heap} (hi : ops[i]? = some o) (hc : G i c) (hcl : c.call = false) (hy : MV P ops S c σ o v H') {K : St → Prop} (h : K (moved σ o v H')) : GoA P ops S G Kp i K σ := by
  unfold GoA
  simp only [hi]
  exact ⟨c, hc, .inl ⟨v, H', hcl, hy, h⟩⟩
theorem AM.mono (hg : ∀ j c, G' j c → G j c) {R : St → Prop} : ∀ (fuel : Nat) (listed : Array Bool) (σ : St), AM P ops md S G' Kp R fuel listed σ → AM P ops md S G Kp R fuel listed σ
  | 0, _, _, h => h
  | fuel + 1, listed, σ, h => ⟨h.1, fun i hi => by
    have h1 := h.2 i hi
    unfold GoA at h1 ⊢
    split
    · rename_i ho; simp only [ho] at h1; exact AM.mono hg fuel _ _ h1
    · rename_i o ho
      simp only [ho] at h1
      obtain ⟨c, h0, ⟨v, H', hc, h2, h3⟩ | hm⟩ := h1
      · exact ⟨c, hg _ _ h0, .inl ⟨v, H', hc, h2, AM.mono hg fuel _ _ h3⟩⟩
      · exact ⟨c, hg _ _ h0, .inr (hm.imp fun v H' _ _ k => AM.mono hg fuel _ _ k)⟩⟩

theorem wpOp_of_GoA {W0 : World} {g0 : Gh} {H0 : Heap} {i : Nat} {σ : St} {K : St → Prop} {K' : Act → World → Prop} {Q' : Exit → Act → World → Prop}
    (hk : ∀ W a g σ, K σ → (σ.e0 = H0.E ∧ Step W0 g0 H0 W g σ.H) → GoodSt W a g σ → K' a W) (hkp : ∀ W a g σ v c, Kp v σ → (σ.e0 = H0.E ∧ Step W0 g0 H0 W g σ.H) → GoodSt W a g σ → Rel W g σ.H v c → Q' (.panic [{ v := c, recovered := false }]) a W)
    {W : World} {a : Act} {g : Gh} (hh : GoA P ops S G Kp i K σ) (hS : σ.e0 = H0.E ∧ Step W0 g0 H0 W g σ.H) (hG : GoodSt W a g σ) : wpOp P ops Q' i K' a W := by
  unfold GoA at hh
  unfold wpOp
  split
  · rename_i ho; simp only [ho] at hh; exact hk W a g σ hh hS hG
  · rename_i o ho
    simp only [ho] at hh
    obtain ⟨c0, _, hh⟩ := hh
    have he0 : ∀ {v : V} {H' : Heap}, (moved σ o v H').e0 = σ.e0 := fun {v H'} => by unfold moved; cases o.dst <;> rfl
    rcases hh with ⟨v, H', _, hy, hkk⟩ | ⟨_, _, hw, cl, f, args, Post, hop, ht, hc, hret, hpan⟩
    · have fin : ∀ c W' g', Step W g σ.H W' g' H' → Good W' g' H' → Rel W' g' H' v c → K' (a.put o.dst c) W' := fun c W' g' s1 s2 s3 =>
        hk W' _ g' _ hkk (by rw [moved_H, he0]; exact ⟨hS.1, hS.2.trans s1⟩) (hG.next s1 s2 s3 o.dst)
      rcases hy with ⟨hw, rfl, rfl⟩ | ⟨hw, hs, ⟨_, rfl, hv⟩ | ⟨_, _, hv, _, _⟩⟩
      · rw [wantedV_sound hG hw, if_neg (by simp)]
        exact fin undef W g (.refl _ _ _) hG.good (.tup [] #[] rfl (by simp))
      · rw [wantedV_sound hG hw, if_pos rfl]
        left
        unfold Oper.wp
        rcases hv σ.H hs (.refl _ _) with hv | ⟨c, f, args, hop, ht, hcl⟩ | hv | ⟨t, n, cz, hop, hv⟩
        · obtain ⟨c, W', h1, h2, h3⟩ := pv_sound (P := P) hG.good (r := a.eval) hG.ev hv
          rw [h1]
          exact fin c W' g h2.step (hG.good.grow h2) h3
        · obtain ⟨cargs, k1, k2⟩ := target_sound (P := P) (ty := o.type) hG.ev ht
          have hex : (execOp a.eval o).run P W = (callFunc f cargs).run P W := by
            rw [← k2 W]; unfold execOp; rw [hop]
          rcases hcl W g cargs hG.good k1 with ⟨e1, e2⟩ | ⟨c, W', g', e1, e2, e3, e4⟩
          · rw [hex, e1]
            refine e2.mono fun e W' ⟨c, g', he, s1, s2, s3⟩ => ?_
            subst he
            exact fin c W' g' s1 s2 s3
          · rw [hex, e1]
            exact fin c W' g' e2 e3 e4
        · obtain ⟨c, W', g', h1, h2, h3, h4⟩ := more_sound (P := P) hG.good hG.ev hv
          rcases h1 with h1 | ⟨h1, h1'⟩
          · rw [h1]; exact fin c W' g' h2 h3 h4
          · rw [h1]; subst h1'; exact fin _ W' g' h2 h3 h4
        · obtain ⟨c, W', g', h1, h2, h3, h4⟩ := sound_makeData (P := P) hG.good hv (hG.ev n) (hG.ev cz)
          have hex : (execOp a.eval o).run P W = (do pure (.value (← Instr.makeSlice t (a.eval n) (a.eval cz))) : Sem Next).run P W := by unfold execOp; rw [hop]
          rw [hex]
          rcases h1 with h1 | ⟨h1, h1'⟩
          · rw [h1]; exact fin c W' g' h2 h3 h4
          · rw [h1]; subst h1'; exact fin _ W' g' h2 h3 h4
      · rw [wantedV_sound hG hw, if_pos rfl]
        left
        unfold Oper.wp
        obtain ⟨c, W', g', h1, h2, h3, h4⟩ := hv.elim (fun q => ox_sound (P := P) hG.good hG.ev q) (fun q => more_sound (P := P) hG.good hG.ev q)
        rcases h1 with h1 | ⟨h1, h1'⟩
        · rw [h1]; exact fin c W' g' h2 h3 h4
        · rw [h1]; subst h1'; exact fin _ W' g' h2 h3 h4
    · rw [wantedV_sound hG hw, if_pos rfl]
      left
      unfold Oper.wp
      obtain ⟨cargs, k1, k2⟩ := target_sound (P := P) (ty := o.type) hG.ev ht
      have hex : (execOp a.eval o).run P W = (callFunc f cargs).run P W := by
        rw [← k2 W]; unfold execOp; rw [hop]
      obtain ⟨e1, e2⟩ := hc W g cargs hG.good k1
      rw [hex, e1]
      refine e2.mono fun e W' ⟨o', H', g', p1, p2, p3, p4⟩ => ?_
      cases o' with
      | ret r =>
        obtain ⟨c', he, hr'⟩ := p4
        subst he
        exact hk W' (a.put o.dst c') g' _ (hret r H' p1).2.2 (by rw [moved_H, he0]; exact ⟨hS.1, hS.2.trans p2⟩) (hG.next p2 p3 hr' o.dst)
      | pan v =>
        obtain ⟨c', he, hr'⟩ := p4
        subst he
        have hn := hG.next p2 p3 (.any undef) none
        exact hkp W' a g' { σ with H := H' } v c' (hpan v H' p1) ⟨hS.1, hS.2.trans p2⟩ hn hr'

theorem wpAny_of_AM {W0 : World} {g0 : Gh} {H0 : Heap} {R : St → Prop} {Q' : Exit → Act → World → Prop} (hR : ∀ W a g σ, R σ → (σ.e0 = H0.E ∧ Step W0 g0 H0 W g σ.H) → GoodSt W a g σ → Q' .normal a W)
    (hkp : ∀ W a g σ v c, Kp v σ → (σ.e0 = H0.E ∧ Step W0 g0 H0 W g σ.H) → GoodSt W a g σ → Rel W g σ.H v c → Q' (.panic [{ v := c, recovered := false }]) a W) :
    ∀ (fuel : Nat) (listed : Array Bool) (σ : St) (W : World) (a : Act) (g : Gh), AM P ops md S G Kp R fuel listed σ → (σ.e0 = H0.E ∧ Step W0 g0 H0 W g σ.H) → GoodSt W a g σ → wpAny P md ops Q' fuel listed a W
  | 0, _, σ, W, a, g, h, hS, hG => ⟨h.1, hR W a g σ h.2 hS hG⟩
  | fuel + 1, listed, σ, W, a, g, h, hS, hG => ⟨fun h0 => hR W a g σ (h.1 h0) hS hG, fun i hi => wpOp_of_GoA (fun W a g σ' hk hS hG => wpAny_of_AM hR hkp fuel _ σ' W a g hk hS hG) hkp (h.2 i hi) hS hG⟩

/-- what a quiet operation yields, a call leaves to it -/
theorem mc_comm {ci cj : Info} {oi oj : Oper} (hap : oi.apart ops oj = true) (hci : ci.eff = false) (hij : ∀ x, ci.K x → ¬ cj.W x) (hkp : ∀ v (σ : St) t', Kp v σ → t'.length = σ.t.length → Kp v { σ with t := t' })
    {σ : St} {v : V} {H1 : Heap} (h1 : MV P ops S ci σ oi v H1) {K : V → Heap → Prop} (h2 : MC P ops S cj (moved σ oi v H1) oj K Kp) : H1 = σ.H ∧
    MC P ops S cj σ oj (fun u H' => MV P ops S ci (moved σ oj u H') oi v H' ∧ K u H') Kp := by
  obtain ⟨a1, a2, a3⟩ := Oper.apart_spec hap
  have evj : ∀ {w : V} {H : Heap}, ∀ x ∈ oj.op.operands, (moved σ oi w H).ev x = σ.ev x := fun {w H} x hx => moved_ev fun d hd => looks_operands (a1 d hd) x hx
  have evi : ∀ {w : V} {H : Heap}, ∀ x ∈ oi.op.operands, (moved σ oj w H).ev x = σ.ev x := fun {w H} x hx => moved_ev fun d hd => looks_operands (a3 d hd) x hx
  have hH : H1 = σ.H := by
    rcases h1 with ⟨_, _, h⟩ | ⟨_, _, ⟨_, h, _⟩ | ⟨h, _⟩⟩
    · exact h
    · exact h
    · rw [hci] at h; cases h
  subst hH
  refine ⟨rfl, ?_⟩
  obtain ⟨b1, b2, b3, cl, f, args, Post, b4, b5, b6, b7, b8⟩ := h2
  rw [moved_wanted a1] at b3
  rw [target_congr (ρ' := σ.ev) (fun x hx => evj x (by rw [b4]; exact hx))] at b5
  rw [moved_H] at b6 b7
  refine ⟨b1, b2, b3, cl, f, args, Post, b4, b5, b6, fun u H' hp => ?_, fun u H' hp => ?_⟩
  · obtain ⟨c1, c2, c3⟩ := b7 u H' hp
    refine ⟨c1, c2, ?_, c3⟩
    unfold MV at h1 ⊢
    rw [moved_wanted a3, moved_H]
    rcases h1 with ⟨d1, d2, _⟩ | ⟨d1, d2, ⟨d3, _, d4⟩ | ⟨h, _⟩⟩
    · exact .inl ⟨d1, d2, rfl⟩
    · exact .inr ⟨d1, c1, .inl ⟨d3, rfl, fun H'' k1 k2 => QP_congr (fun x hx => (evi x hx).symm) (d4 H'' k1 (Same.trans (fun x hx => c2 x (hij x hx)) k2))⟩⟩
    · rw [hci] at h; cases h
  · have := hkp u _ σ.t (b8 u H' hp) (by unfold moved; cases oi.dst <;> simp [St.put])
    have e : ({ ({ moved σ oi v σ.H with H := H' } : St) with t := σ.t } : St) = { σ with H := H' } := by unfold moved; cases oi.dst <;> rfl
    rw [e] at this; exact this

theorem AM_first (hkp : ∀ v (σ : St) t', Kp v σ → t'.length = σ.t.length → Kp v { σ with t := t' }) {R : St → Prop} {i : Nat} {oi : Oper} {ci : Info} (hi : ops[i]? = some oi) (hci : G i ci) (hcc : ci.call = false) (hg : ∀ j c, G' j c → G j c ∧ PairOk md ops i j ci c) :
    ∀ (fuel : Nat) (listed : Array Bool) (σ : St), Down md ops listed →
      (∀ j oj, ops[j]? = some oj → j ≠ i → listed.getD j true = false → (∀ e ∈ oj.after, Region.binds md e = true → e.on ≠ i) → oi.apart ops oj = true) →
      i ∈ Region.ready md ops listed → ∀ v H', MV P ops S ci σ oi v H' → AM P ops md S G' Kp R fuel (listed.setIfInBounds i true) (moved σ oi v H') → AM P ops md S G Kp R (fuel + 1) listed σ := by
  intro fuel
  induction fuel with
  | zero =>
    intro listed σ _ _ hr v H' hy H
    refine ⟨fun h => (by rw [h] at hr; cases hr), fun j hj => ?_⟩
    by_cases hji : j = i
    · subst hji; exact hy.goA hi hci hcc (AM.mono (fun j c h => (hg j c h).1) _ _ _ H)
    · have := ready_mono hj hji
      rw [H.1] at this
      cases this
  | succ fuel ih =>
    intro listed σ hdown hfree hr v H' hy H
    refine ⟨fun h => (by rw [h] at hr; cases hr), fun j hj => ?_⟩
    by_cases hji : j = i
    · subst hji; exact hy.goA hi hci hcc (AM.mono (fun j c h => (hg j c h).1) _ _ _ H)
    · have h1 := H.2 j (ready_mono hj hji)
      obtain ⟨hjun, oj, hoj, hall⟩ := mem_ready.1 hj
      obtain ⟨hun, oi', hoi', hall'⟩ := mem_ready.1 hr
      rw [hi] at hoi'; injection hoi' with hoi'; subst hoi'
      have hnot : ∀ e ∈ oj.after, Region.binds md e = true → e.on ≠ i := fun e he hb heq => by
        have h1 := hall e he hb
        rw [heq, getD_both hun] at h1
        cases h1
      have hnot' : ∀ e ∈ oi.after, Region.binds md e = true → e.on ≠ j := fun e he hb heq => by
        have h1 := hall' e he hb
        rw [heq, getD_both hjun] at h1
        cases h1
      have hfr : Free md ops i j := ⟨fun hd => (by have := hdown.ready hj hd; rw [getD_both hun] at this; cases this), fun hd => (by have := hdown.ready hr hd; rw [getD_both hjun] at this; cases this)⟩
      have hap := hfree j oj hoj hji hjun hnot
      have hfree' : ∀ k ok, ops[k]? = some ok → k ≠ i → (listed.setIfInBounds j true).getD k true = false →
          (∀ e ∈ ok.after, Region.binds md e = true → e.on ≠ i) → oi.apart ops ok = true := fun k ok hk hki hun hno => by
        refine hfree k ok hk hki ?_ hno
        by_cases hjk : j = k
        · subst hjk; exact hjun
        · rw [getD_set_ne true hjk] at hun; exact hun
      unfold GoA at h1 ⊢
      simp only [hoj] at h1 ⊢
      obtain ⟨cj, hcj, ⟨u, H2, hjc, hm, hk⟩ | hm⟩ := h1
      · obtain ⟨hgj, hpair⟩ := hg j cj hcj
        obtain ⟨p1, p2, p3⟩ := hpair hfr
        obtain ⟨H1', q1, q2⟩ := mv_comm hap p1 p2 p3 hy hm
        refine ⟨cj, hgj, .inl ⟨u, H1', hjc, q1, ih (listed.setIfInBounds j true) _ (hdown.set hj) hfree' (ready_mono hr (Ne.symm hji)) v H2 q2 ?_⟩⟩
        rw [Array.setIfInBounds_comm _ _ hji]
        rw [moved_comm (B := H1') (Oper.apart_spec hap).2.1] at hk
        exact hk
      · obtain ⟨hgj, hpair⟩ := hg j cj hcj
        obtain ⟨p1, p2, p3⟩ := hpair hfr
        have hie : ci.eff = false := by
          cases he : ci.eff with
          | false => rfl
          | true => exact (p1 ⟨he, hm.1⟩).elim
        obtain ⟨rfl, q⟩ := mc_comm (Kp := Kp) hap hie (p2 hie hm.1) hkp hy hm
        refine ⟨cj, hgj, .inr (q.imp fun u H2 _ _ ⟨q2, hk⟩ => ih (listed.setIfInBounds j true) _ (hdown.set hj) hfree' (ready_mono hr (Ne.symm hji)) v H2 q2 ?_)⟩
        rw [Array.setIfInBounds_comm _ _ hji]
        rw [moved_comm (B := H2) (Oper.apart_spec hap).2.1] at hk
        exact hk

/-- a row of places in which all may be done -/
def schedB (md : Region.Mode) (ops : Array Oper) : List Nat → Array Bool → Bool
  | [], listed => (Region.ready md ops listed).isEmpty
  | k :: r, listed => (Region.ready md ops listed).contains k && Region.free md ops listed k && schedB md ops r (listed.setIfInBounds k true)
/-- operations in some order -/
def PathOk (P : Program) (ops : Array Oper) (md : Region.Mode) (S : Heap → Prop) (Kp : V → St → Prop) (R : St → Prop) : List Nat → List (Nat × Info) → St → Prop
  | [], _, σ => R σ
  | k :: ks, prev, σ => ∃ o c, ops[k]? = some o ∧ GP md ops prev k c ∧ ((∃ v H', c.call = false ∧ MV P ops S c σ o v H' ∧ PathOk P ops md S Kp R ks ((k, c) :: prev) (moved σ o v H')) ∨
    ((∀ j ∈ ks, ¬ Free md ops k j) ∧ MC P ops S c σ o (fun v H' => PathOk P ops md S Kp R ks ((k, c) :: prev) (moved σ o v H')) Kp))

theorem AM_lex (hkp : ∀ v (σ : St) t', Kp v σ → t'.length = σ.t.length → Kp v { σ with t := t' }) {R : St → Prop} : ∀ (l : List Nat) (prev : List (Nat × Info)) (listed : Array Bool) (σ : St), Down md ops listed → (∀ j, listed.getD j true = false → j ∈ l) →
    schedB md ops l listed = true → PathOk P ops md S Kp R l prev σ → AM P ops md S (GP md ops prev) Kp R l.length listed σ
  | [], _, listed, σ, _, _, hB, h => ⟨by simpa [schedB] using hB, h⟩
  | k :: l, prev, listed, σ, hdown, hlow, hB, h => by
    obtain ⟨o, c, h0, hc0, h⟩ := h
    simp only [schedB, Bool.and_eq_true] at hB
    obtain ⟨⟨hr, hf⟩, hB'⟩ := hB
    have hr : k ∈ Region.ready md ops listed := by simpa using hr
    have hlow' : ∀ j, (listed.setIfInBounds k true).getD j true = false → j ∈ l := fun j hj => by
      by_cases hjk : k = j
      · subst hjk
        by_cases hlt : k < listed.size
        · simp [Array.getD_eq_getD_getElem?, hlt] at hj
        · simp [Array.getD_eq_getD_getElem?, Array.getElem?_eq_none (Nat.le_of_not_lt hlt)] at hj
      · rw [getD_set_ne true hjk] at hj
        rcases List.mem_cons.1 (hlow j hj) with e | e
        · exact (hjk e.symm).elim
        · exact e
    have rest : ∀ σ', PathOk P ops md S Kp R l ((k, c) :: prev) σ' → AM P ops md S (GP md ops ((k, c) :: prev)) Kp R l.length (listed.setIfInBounds k true) σ' := fun σ' hrest =>
      AM_lex hkp l _ _ _ (hdown.set hr) hlow' hB' hrest
    rcases h with ⟨v, H', hc, hy, hrest⟩ | ⟨hlate, hm⟩
    · exact AM_first (G := GP md ops prev) (G' := GP md ops ((k, c) :: prev)) hkp h0 hc0 hc (fun j c' h' => ⟨fun p hp => h' p (List.mem_cons_of_mem _ hp), h' _ List.mem_cons_self⟩) l.length listed σ hdown (Region.free_spec h0 hf) hr v H' hy (rest _ hrest)
    · refine ⟨fun h => (by rw [h] at hr; cases hr), fun j hj => ?_⟩
      by_cases hjk : j = k
      · subst hjk
        unfold GoA
        simp only [h0]
        exact ⟨c, hc0, .inr (hm.imp fun v H' _ _ hk => AM.mono (fun j' c' h' p hp => h' p (List.mem_cons_of_mem _ hp)) _ _ _ (rest _ hk))⟩
      · exfalso
        obtain ⟨hjun, oj, hoj, hall⟩ := mem_ready.1 hj
        obtain ⟨hun, oi', hoi', hall'⟩ := mem_ready.1 hr
        refine hlate j ?_ ⟨fun hd => (by have := hdown.ready hj hd; rw [getD_both hun] at this; cases this), fun hd => (by have := hdown.ready hr hd; rw [getD_both hjun] at this; cases this)⟩
        rcases List.mem_cons.1 (hlow j hjun) with e | e
        · exact (hjk e).elim
        · exact e

/-- a region that draws its order: what does not stand in an order commutes -/
theorem sat_comm {id : Nat} {σ : St} {Q : AExit → St → Prop} (hm : P.follows .mixedOrders = true) (l : List Nat) (hB : schedB .any ops l (Array.replicate ops.size false) = true) (hl : l.length = ops.size) (hall : ∀ j, j < ops.size → j ∈ l)
    (h : PathOk P ops .any S (fun v σ => ∀ t', t'.length = σ.t.length → Q (.panic v) { σ with t := t' }) (Q .normal) l [] σ) :
    Sat P (.region id ops true) σ Q := fun W0 g0 H0 W a g _ hS hG => by
  refine wp_region_any hm ?_
  have hG' := hG.drawn (W.drawn + 1)
  have hS' : σ.e0 = H0.E ∧ Step W0 g0 H0 { W with drawn := W.drawn + 1 } g σ.H := ⟨hS.1, hS.2.trans (Grow.drawn W _).step⟩
  have := AM_lex (P := P) (md := .any) (R := Q .normal) (fun v σ t' h ht => fun t'' ht'' => h t'' (ht''.trans ht)) l [] (Array.replicate ops.size false) σ (fun b o _ hb => by rw [getD_replicate_false] at hb; cases hb) (fun j hj => by
    rcases Nat.lt_or_ge j ops.size with q | q
    · exact hall j q
    · simp [Array.getD_eq_getD_getElem?, Array.getElem?_eq_none (xs := Array.replicate ops.size false) (i := j) (by simpa using q)] at hj) hB h
  rw [hl] at this
  exact wpAny_of_AM (Q' := Lift W0 g0 H0 Q) (fun W a g τ hτ hS hG => ⟨g, τ, .normal, .normal, hS, hG, hτ⟩) (fun W a g τ v c hτ hS hG hr => ⟨g, τ, .panic v, .panic v c hr, hS, hG, hτ τ.t rfl⟩) _ _ σ _ a g this hS' hG'

/-! ### what reads no memory of the call's own -/
theorem pLoad_ptr_same {H H' : Heap} {t l i off : Nat} (h : H'.get l i = H.get l i) : pLoad P H' t (.ptr l i off) = pLoad P H t (.ptr l i off) := by simp only [pLoad, h]
theorem pLoad_ref_same {H H' : Heap} {t : Nat} {cs : List V} {off : Nat} : pLoad P H' t (.ref cs off) = pLoad P H t (.ref cs off) := rfl
theorem pLoad_ap_same {H H' : Heap} {t l i ver idx off : Nat} (h : H'.get l i = H.get l i) : pLoad P H' t (.ap l i ver idx off) = pLoad P H t (.ap l i ver idx off) := by simp only [pLoad, aelem, h]
theorem pIndexAddr_hs_same {H H' : Heap} {t l i ver off n : Nat} {full : Bool} {y : V} (h : H'.get l i = H.get l i) : pIndexAddr P H' t (.hs l i ver off n full) y = pIndexAddr P H t (.hs l i ver off n full) y := by simp only [pIndexAddr, h]
theorem pLen_hs_same {H H' : Heap} {t l i ver off n : Nat} {full : Bool} (h : H'.get l i = H.get l i) : pLen P H' t (.hs l i ver off n full) = pLen P H t (.hs l i ver off n full) := by simp only [pLen, h]
/-- is not an own slice, nor a map -/
def V.plain : V → Bool
  | .hs .. | .map .. => false
  | _ => true
theorem pLen_plain {H H' : Heap} {t : Nat} {x : V} (h : x.plain = true) : pLen P H' t x = pLen P H t x := by cases x <;> first | rfl | cases h
theorem pIndexAddr_plain {H H' : Heap} {t : Nat} {x y : V} (h : x.plain = true) : pIndexAddr P H' t x y = pIndexAddr P H t x y := by cases x <;> first | rfl | cases h
theorem pSlice_plain {H H' : Heap} {t : Nat} {x : V} {a b c : Option V} (h : x.plain = true) : pSlice P H' t x a b c = pSlice P H t x a b c := by cases x <;> first | rfl | cases h
end
/-- operations that commute where no edge binds them -/
def edgeB (all : List Oper) (i j : Nat) : Bool := match all[j]? with
  | some o => o.after.toList.any fun e => Region.binds .any e && Nat.beq e.on i
  | none => false
/-- j waits for i, by way of at most so many others -/
def depB (all : List Oper) : Nat → Nat → Nat → Bool
  | 0, i, j => edgeB all i j
  | n + 1, i, j => edgeB all i j || (match all[j]? with
    | some o => o.after.toList.any fun e => Region.binds .any e && depB all n i e.on
    | none => false)
def ordB (all : List Oper) (i j : Nat) : Bool := depB all 3 i j || depB all 3 j i
theorem depB_dep {ops : Array Oper} : ∀ (n : Nat) {i j : Nat}, depB ops.toList n i j = true → Dep .any ops i j := fun n => by
  have edge : ∀ {i j : Nat}, edgeB ops.toList i j = true → Dep .any ops i j := fun {i j} h => by
    unfold edgeB at h
    split at h
    · rename_i o ho
      rw [List.any_eq_true] at h
      obtain ⟨e, he, hb⟩ := h
      simp only [Bool.and_eq_true] at hb
      exact .one j o e (by simpa using ho) (by simpa using he) hb.1 (Nat.eq_of_beq_eq_true hb.2)
    · cases h
  induction n with
  | zero => intro i j h; exact edge h
  | succ n ih =>
    intro i j h
    simp only [depB, Bool.or_eq_true] at h
    rcases h with h | h
    · exact edge h
    · split at h
      · rename_i o ho
        rw [List.any_eq_true] at h
        obtain ⟨e, he, hb⟩ := h
        simp only [Bool.and_eq_true] at hb
        exact .more j o e (by simpa using ho) (by simpa using he) hb.1 (ih hb.2)
      · cases h
theorem ordB_free {ops : Array Oper} {i j : Nat} (h : ordB ops.toList i j = true) : ¬ Free .any ops i j := fun hf => by
  unfold ordB at h
  rw [Bool.or_eq_true] at h
  rcases h with h | h
  · exact hf.1 (depB_dep 3 h)
  · exact hf.2 (depB_dep 3 h)
end Go.Ab
