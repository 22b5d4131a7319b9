import Derived.Test.YtfhpamcehnfhoaaGreatDoorAbFun
import Derived.StillTail
namespace Go.Ab
open Go
set_option linter.unusedSimpArgs false
set_option linter.unusedVariables false
section
variable {P : Program} {ops : Array Oper} {md : Region.Mode}

/-! ### regions that draw their order -/

theorem pv_congr {H : Heap} {ρ ρ' : Operand → V} {o : Op} (h : ∀ x ∈ o.operands, ρ x = ρ' x) : pv P H ρ o = pv P H ρ' o := by
  cases o
  case move x => simp only [pv, h x (by simp [Op.operands])]
  case assign x => simp only [pv, h x (by simp [Op.operands])]
  case pick c a b => simp only [pv, h c (by simp [Op.operands]), h a (by simp [Op.operands]), h b (by simp [Op.operands])]
  case load t a => simp only [pv, h a (by simp [Op.operands])]
  case nilCheck x => simp only [pv, h x (by simp [Op.operands])]
  case binOp op t x y u => simp only [pv, h x (by simp [Op.operands]), h y (by simp [Op.operands])]
  case unOp op t x => simp only [pv, h x (by simp [Op.operands])]
  case convert s d x => simp only [pv, h x (by simp [Op.operands])]
  case makeInterface t x => simp only [pv, h x (by simp [Op.operands])]
  case makeFunc fn first caps =>
    cases fn <;> try rfl
    simp only [pv]
    have h1 : first.toList.map ρ = first.toList.map ρ' := List.map_congr_left fun x hx => h x (by simp [Op.operands]; left; simpa using hx)
    have h2 : caps.toList.map ρ = caps.toList.map ρ' := List.map_congr_left fun x hx => h x (by simp [Op.operands]; right; simpa using hx)
    rw [h1, h2]
  case slice t x lo hi mx =>
    simp only [pv]
    have h1 : lo.map ρ = lo.map ρ' := by
      cases lo with
      | none => rfl
      | some y => simp only [Option.map_some]; rw [h y (by simp [Op.operands])]
    have h2 : hi.map ρ = hi.map ρ' := by
      cases hi with
      | none => rfl
      | some y => simp only [Option.map_some]; rw [h y (by simp [Op.operands])]
    have h3 : mx.map ρ = mx.map ρ' := by
      cases mx with
      | none => rfl
      | some y => simp only [Option.map_some]; rw [h y (by simp [Op.operands])]
    rw [h x (by simp [Op.operands]), h1, h2, h3]
  case fieldAddr s x f => simp only [pv, h x (by simp [Op.operands])]
  case field s x f => simp only [pv, h x (by simp [Op.operands])]
  case indexAddr t x i => simp only [pv, h x (by simp [Op.operands]), h i (by simp [Op.operands])]
  case index t x i => simp only [pv, h x (by simp [Op.operands]), h i (by simp [Op.operands])]
  case lookup t x k ok => simp only [pv, h x (by simp [Op.operands]), h k (by simp [Op.operands])]
  case typeAssert x t u ok => simp only [pv, h x (by simp [Op.operands])]
  case extract x i => simp only [pv, h x (by simp [Op.operands])]
  case build t ps =>
    simp only [pv]
    have : partsOf ρ ps = partsOf ρ' ps := List.map_congr_left fun p hp => by rw [h p.2 (by simp [Op.operands]; exact ⟨p.1, by simpa using hp⟩)]
    rw [this]
  case buildSlice t len ps =>
    simp only [pv]
    have : partsOf ρ ps = partsOf ρ' ps := List.map_congr_left fun p hp => by rw [h p.2 (by simp [Op.operands]; exact ⟨p.1, by simpa using hp⟩)]
    rw [this]
  case call c =>
    simp only [pv, pBuiltin]
    have hm : c.args.toList.map ρ = c.args.toList.map ρ' := List.map_congr_left fun x hx => h x (by simp [Op.operands, Call.operands]; right; simpa using hx)
    rw [hm]
    split
    · split
      · rename_i x t ha ht
        rw [h x (by simp [Op.operands, Call.operands]; right; rw [← Array.mem_toList_iff, ha]; simp)]
      · rfl
    all_goals rfl
  all_goals rfl

theorem target_congr {ρ ρ' : Operand → V} {c : Call} (h : ∀ x ∈ c.operands, ρ x = ρ' x) : target ρ c = target ρ' c := by
  unfold target
  have hm : c.args.toList.map ρ = c.args.toList.map ρ' := List.map_congr_left fun x hx => h x (by simp [Call.operands]; right; simpa using hx)
  rw [hm]
  split
  · rename_i f hf
    rw [h f (by simp [Call.operands, hf])]
  · rfl

theorem ev_put {σ : St} {dst : Option Nat} {v : V} {x : Operand} (h : ∀ d, dst = some d → x ≠ .tmp d) : (σ.put dst v).ev x = σ.ev x := by
  cases dst with
  | none => rfl
  | some d =>
    cases x with
    | tmp t =>
      simp only [St.put, St.ev]
      have : d ≠ t := fun e => h d rfl (by rw [e])
      rw [List.getD_eq_getElem?_getD, List.getElem?_set, if_neg this, ← List.getD_eq_getElem?_getD]
    | const v => rfl
    | global g => rfl
    | func f => rfl

theorem put_H {σ : St} {dst : Option Nat} {v : V} : (σ.put dst v).H = σ.H := by cases dst <;> rfl
theorem put_e0 {σ : St} {dst : Option Nat} {v : V} : (σ.put dst v).e0 = σ.e0 := by cases dst <;> rfl

theorem put_comm {σ : St} {x y : Option Nat} (v u : V) (h : ∀ d, x = some d → y ≠ some d) : (σ.put x v).put y u = (σ.put y u).put x v := by
  cases x with
  | none => cases y <;> rfl
  | some d =>
    cases y with
    | none => rfl
    | some e =>
      have : d ≠ e := fun q => h d rfl (by rw [q])
      simp only [St.put]
      rw [List.set_comm _ _ this]

theorem looks_operands {o : Oper} {d : Nat} (h : d ∉ o.looksAt ops) : ∀ x ∈ o.op.operands, x ≠ .tmp d := fun x hx e => h (by
  subst e
  unfold Oper.looksAt
  simp only [List.mem_append, List.mem_filterMap]
  exact .inl ⟨.tmp d, by simpa using hx, rfl⟩)

theorem wantedV_put {σ : St} {o : Oper} {dst : Option Nat} {v : V} (h : ∀ d, dst = some d → d ∉ o.looksAt ops) : wantedV ops (σ.put dst v) o = wantedV ops σ o := by
  unfold wantedV
  split
  · rfl
  · rename_i j want hg
    split
    · rename_i d' hd
      cases dst with
      | none => rfl
      | some d =>
        have hne : d ≠ d' := fun e => h d rfl (by
          unfold Oper.looksAt
          simp only [List.mem_append, hg]
          right
          rw [hd, e]; simp)
        simp only [St.put]
        rw [List.getD_eq_getElem?_getD, List.getElem?_set, if_neg hne, ← List.getD_eq_getElem?_getD]
    · rfl

/-- an operation that turns no object yields v, here and wherever its operands are the same -/
def QV (P : Program) (σ : St) (o : Oper) (v : V) : Prop :=
  pv P σ.H σ.ev o.op = some v ∨ ∃ c f args, o.op = .call c ∧ target σ.ev c = some (f, args) ∧ HCall P f args σ.H v σ.H

def QY (P : Program) (ops : Array Oper) (σ : St) (o : Oper) (v : V) : Prop :=
  (wantedV ops σ o = some true ∧ QV P σ o v) ∨ (wantedV ops σ o = some false ∧ v = .tup [])

theorem QY_put {σ : St} {o : Oper} {dst : Option Nat} {u v : V} (h : ∀ d, dst = some d → d ∉ o.looksAt ops) : QY P ops (σ.put dst u) o v ↔ QY P ops σ o v := by
  have he : ∀ x ∈ o.op.operands, (σ.put dst u).ev x = σ.ev x := fun x hx => ev_put fun d hd => looks_operands (h d hd) x hx
  unfold QY QV
  rw [wantedV_put h, pv_congr he, put_H]
  constructor
  · rintro (⟨h1, h2 | ⟨c, f, args, h2, h3, h4⟩⟩ | h1)
    · exact .inl ⟨h1, .inl h2⟩
    · exact .inl ⟨h1, .inr ⟨c, f, args, h2, by rw [← target_congr (ρ := (σ.put dst u).ev) (fun x hx => he x (by rw [h2]; exact hx))]; exact h3, h4⟩⟩
    · exact .inr h1
  · rintro (⟨h1, h2 | ⟨c, f, args, h2, h3, h4⟩⟩ | h1)
    · exact .inl ⟨h1, .inl h2⟩
    · exact .inl ⟨h1, .inr ⟨c, f, args, h2, by rw [target_congr (ρ' := σ.ev) (fun x hx => he x (by rw [h2]; exact hx))]; exact h3, h4⟩⟩
    · exact .inr h1

def qA (P : Program) (ops : Array Oper) (i : Nat) (K : St → Prop) (σ : St) : Prop :=
  match ops[i]? with
  | none => K σ
  | some o => ∃ v, QY P ops σ o v ∧ K (σ.put o.dst v)

theorem qA_mono {i : Nat} {σ : St} {K K' : St → Prop} (h : ∀ σ, K σ → K' σ) (hh : qA P ops i K σ) : qA P ops i K' σ := by
  unfold qA at *
  split
  · exact h _ (by simpa [*] using hh)
  · rename_i o ho
    simp only [ho] at hh
    obtain ⟨v, h1, h2⟩ := hh
    exact ⟨v, h1, h _ h2⟩

theorem QY.qA {i : Nat} {o : Oper} {v : V} {σ : St} (hi : ops[i]? = some o) (hy : QY P ops σ o v) {K : St → Prop} (h : K (σ.put o.dst v)) : qA P ops i K σ := by
  unfold Ab.qA
  simp only [hi]
  exact ⟨v, hy, h⟩

theorem qA_put {j : Nat} {oi oj : Oper} {v : V} (hj : ops[j]? = some oj) (hap : oi.apart ops oj = true) {K : St → Prop} {σ : St} (hy : QY P ops σ oi v) (h : qA P ops j K (σ.put oi.dst v)) :
    qA P ops j (fun σ' => QY P ops σ' oi v ∧ K (σ'.put oi.dst v)) σ := by
  obtain ⟨h1, h2, h3⟩ := Oper.apart_spec hap
  unfold qA at *
  simp only [hj] at *
  obtain ⟨u, hu, hk⟩ := h
  refine ⟨u, (QY_put h1).1 hu, (QY_put h3).2 hy, ?_⟩
  rw [← put_comm v u h2]; exact hk

/-- one operation of a region that draws, in memory -/
theorem wpOp_of_qA {W0 : World} {g0 : Gh} {H0 : Heap} {i : Nat} {σ : St} {K : St → Prop} {K' : Act → World → Prop} {Q' : Exit → Act → World → Prop}
    (hk : ∀ W a g σ, K σ → (σ.e0 = H0.E ∧ Step W0 g0 H0 W g σ.H) → GoodSt W a g σ → K' a W) {W : World} {a : Act} {g : Gh} (hh : qA P ops i K σ) (hS : σ.e0 = H0.E ∧ Step W0 g0 H0 W g σ.H) (hG : GoodSt W a g σ) : wpOp P ops Q' i K' a W := by
  unfold qA at hh
  unfold wpOp
  split
  · rename_i ho; simp only [ho] at hh; exact hk W a g σ hh hS hG
  · rename_i o ho
    simp only [ho] at hh
    obtain ⟨v, hy, hkk⟩ := hh
    have fin : ∀ c W' g', Step W g σ.H W' g' σ.H → Good W' g' σ.H → Rel W' g' σ.H v c → K' (a.put o.dst c) W' := fun c W' g' s1 s2 s3 =>
      hk W' _ g' _ hkk (by rw [put_H, put_e0]; exact ⟨hS.1, hS.2.trans s1⟩) (hG.next s1 s2 s3 o.dst)
    rcases hy with ⟨hw, hv⟩ | ⟨hw, rfl⟩
    · rw [wantedV_sound hG hw, if_pos rfl]
      left
      unfold Oper.wp
      rcases hv with hv | ⟨c, f, args, hop, ht, hcl⟩
      · obtain ⟨c, W', h1, h2, h3⟩ := pv_sound (P := P) hG.good (r := a.eval) hG.ev hv
        rw [h1]
        exact fin c W' g h2.step (hG.good.grow h2) h3
      · obtain ⟨cargs, k1, k2⟩ := target_sound (P := P) (ty := o.type) hG.ev ht
        have hex : (execOp a.eval o).run P W = (callFunc f cargs).run P W := by
          rw [← k2 W]; unfold execOp; rw [hop]
        rcases hcl W g cargs hG.good k1 with ⟨e1, e2⟩ | ⟨c, W', g', e1, e2, e3, e4⟩
        · rw [hex, e1]
          refine e2.mono fun e W' ⟨c, g', he, s1, s2, s3⟩ => ?_
          subst he
          exact fin c W' g' s1 s2 s3
        · rw [hex, e1]
          exact fin c W' g' e2 e3 e4
    · rw [wantedV_sound hG hw, if_neg (by simp)]
      have := fin undef W g (.refl _ _ _) hG.good (.tup [] #[] rfl (by simp))
      exact this

/-! #### every operation quiet -/

def AQ (P : Program) (md : Region.Mode) (ops : Array Oper) (R : St → Prop) : Nat → Array Bool → St → Prop
  | 0, listed, σ => Region.ready md ops listed = [] ∧ R σ
  | fuel + 1, listed, σ => (Region.ready md ops listed = [] → R σ) ∧ ∀ i ∈ Region.ready md ops listed, qA P ops i (AQ P md ops R fuel (listed.setIfInBounds i true)) σ

theorem wpAny_of_AQ {W0 : World} {g0 : Gh} {H0 : Heap} {R : St → Prop} {Q' : Exit → Act → World → Prop} (hR : ∀ W a g σ, R σ → (σ.e0 = H0.E ∧ Step W0 g0 H0 W g σ.H) → GoodSt W a g σ → Q' .normal a W) :
    ∀ (fuel : Nat) (listed : Array Bool) (σ : St) (W : World) (a : Act) (g : Gh), AQ P md ops R fuel listed σ → (σ.e0 = H0.E ∧ Step W0 g0 H0 W g σ.H) → GoodSt W a g σ → wpAny P md ops Q' fuel listed a W
  | 0, _, σ, W, a, g, h, hS, hG => ⟨h.1, hR W a g σ h.2 hS hG⟩
  | fuel + 1, listed, σ, W, a, g, h, hS, hG => ⟨fun h0 => hR W a g σ (h.1 h0) hS hG, fun i hi => wpOp_of_qA (fun W a g σ' hk hS hG => wpAny_of_AQ hR fuel _ σ' W a g hk hS hG) (h.2 i hi) hS hG⟩

theorem AQ_first {R : St → Prop} {i : Nat} {oi : Oper} {v : V} (hi : ops[i]? = some oi) :
    ∀ (fuel : Nat) (listed : Array Bool) (σ : St),
      (∀ j oj, ops[j]? = some oj → j ≠ i → listed.getD j true = false → (∀ e ∈ oj.after, Region.binds md e = true → e.on ≠ i) → oi.apart ops oj = true) →
      i ∈ Region.ready md ops listed → QY P ops σ oi v → AQ P md ops R fuel (listed.setIfInBounds i true) (σ.put oi.dst v) → AQ P md ops R (fuel + 1) listed σ := by
  intro fuel
  induction fuel with
  | zero =>
    intro listed σ _ hr hy H
    refine ⟨fun h => (by rw [h] at hr; cases hr), fun j hj => ?_⟩
    by_cases hji : j = i
    · subst hji; exact hy.qA hi H
    · have := ready_mono hj hji
      rw [H.1] at this
      cases this
  | succ fuel ih =>
    intro listed σ hfree hr hy H
    refine ⟨fun h => (by rw [h] at hr; cases hr), fun j hj => ?_⟩
    by_cases hji : j = i
    · subst hji; exact hy.qA hi H
    · have h1 := H.2 j (ready_mono hj hji)
      obtain ⟨hjun, oj, hoj, hall⟩ := mem_ready.1 hj
      have hun := (mem_ready.1 hr).1
      have hnot : ∀ e ∈ oj.after, Region.binds md e = true → e.on ≠ i := fun e he hb heq => by
        have h1 := hall e he hb
        rw [heq, getD_both hun] at h1
        cases h1
      have h2 := qA_put hoj (hfree j oj hoj hji hjun hnot) hy h1
      have hfree' : ∀ k ok, ops[k]? = some ok → k ≠ i → (listed.setIfInBounds j true).getD k true = false →
          (∀ e ∈ ok.after, Region.binds md e = true → e.on ≠ i) → oi.apart ops ok = true := fun k ok hk hki hun hno => by
        refine hfree k ok hk hki ?_ hno
        by_cases hjk : j = k
        · subst hjk; exact hjun
        · rw [getD_set_ne true hjk] at hun; exact hun
      refine qA_mono (fun σ' h3 => ih (listed.setIfInBounds j true) σ' hfree' (ready_mono hr (Ne.symm hji)) h3.1 ?_) h2
      rw [Array.setIfInBounds_comm _ _ hji]
      exact h3.2

/-- quiet operations in the text's order; an answer for each call -/
def runQ (P : Program) (ops : Array Oper) : List Oper → List V → St → Option (St × List V × List Claim)
  | [], ans, σ => some (σ, ans, [])
  | o :: rest, ans, σ =>
    match wantedV ops σ o with
    | none => none
    | some b => if b then
        (match pv P σ.H σ.ev o.op with
        | some v => runQ P ops rest ans (σ.put o.dst v)
        | none => match o.op with
          | .call c => match target σ.ev c, ans with
            | some (f, args), r :: ans' => match runQ P ops rest ans' (σ.put o.dst r) with
              | some (σ', l, cl) => some (σ', l, ⟨f, args, σ.H, r, σ.H⟩ :: cl)
              | none => none
            | _, _ => none
          | _ => none)
      else runQ P ops rest ans (σ.put o.dst (.tup []))

theorem runQ_step {o : Oper} {rest : List Oper} {ans l : List V} {σ σ' : St} {cl : List Claim} (h : runQ P ops (o :: rest) ans σ = some (σ', l, cl)) (hc : ∀ c ∈ cl, c.ok P) :
    ∃ v ans' cl', QY P ops σ o v ∧ runQ P ops rest ans' (σ.put o.dst v) = some (σ', l, cl') ∧ ∀ c ∈ cl', c.ok P := by
  simp only [runQ] at h
  split at h
  · cases h
  · rename_i b hw
    split at h
    · rename_i hb; subst hb
      split at h
      · rename_i v hv; exact ⟨v, ans, cl, .inl ⟨hw, .inl hv⟩, h, hc⟩
      · split at h
        · rename_i c hop
          split at h
          · rename_i f args r ans' ht
            split at h
            · rename_i σ1 l1 cl1 hrun
              simp only [Option.some.injEq, Prod.mk.injEq] at h
              obtain ⟨rfl, rfl, rfl⟩ := h
              exact ⟨r, ans', cl1, .inl ⟨hw, .inr ⟨c, f, args, hop, ht, hc _ (.head _)⟩⟩, hrun, fun c hc' => hc c (.tail _ hc')⟩
            · cases h
          · cases h
        · cases h
    · rename_i hb
      have : b = false := by simpa using hb
      subst this
      exact ⟨(.tup []), ans, cl, .inr ⟨hw, rfl⟩, h, hc⟩

theorem AQ_lex {R : St → Prop} : ∀ (l : List Oper) (k : Nat) (listed : Array Bool) (σ σ' : St) (ans rest : List V) (cl : List Claim), (∀ j, l[j]? = ops[k + j]?) →
    Region.lexFrom md ops l.length k listed = true → runQ P ops l ans σ = some (σ', rest, cl) → (∀ c ∈ cl, c.ok P) → R σ' → AQ P md ops R l.length listed σ
  | [], _, _, σ, σ', ans, rest, cl, _, hB, h, _, hR => by
    simp only [runQ, Option.some.injEq, Prod.mk.injEq] at h
    obtain ⟨rfl, _, _⟩ := h
    exact ⟨by simpa [Region.lexFrom] using hB, hR⟩
  | o :: l, k, listed, σ, σ', ans, rest, cl, hl, hB, h, hc, hR => by
    have h0 : ops[k]? = some o := by simpa using (hl 0).symm
    simp only [List.length_cons, Region.lexFrom, Bool.and_eq_true] at hB
    obtain ⟨⟨hr, hf⟩, hB'⟩ := hB
    obtain ⟨v, ans', cl', hy, hrun, hc'⟩ := runQ_step h hc
    exact AQ_first h0 l.length listed σ (Region.free_spec h0 hf) (by simpa using hr) hy
      (AQ_lex l (k + 1) _ _ σ' ans' rest cl' (fun j => by have := hl (j + 1); simpa [Nat.add_assoc, Nat.add_comm 1 j] using this) hB' hrun hc' hR)

theorem GoodSt.drawn {W : World} {a : Act} {g : Gh} {σ : St} (h : GoodSt W a g σ) (n : Nat) : GoodSt { W with drawn := n } a g σ :=
  have s := (Grow.drawn W n).step (g := g) (H := σ.H)
  ⟨h.good.grow (Grow.drawn W n), h.size, fun j v hj => (h.tmps j v hj).mono s, h.dlen, fun j f vs hj => by obtain ⟨caps, as, h1, h2⟩ := h.defs j f vs hj; exact ⟨caps, as, h1, h2.mono s⟩⟩

/-- a region that draws its order, every operation quiet -/
theorem sat_draw {id : Nat} {σ σ' : St} {Q : AExit → St → Prop} (hm : P.follows .mixedOrders = true) (hB : Region.lexB .any ops = true) (ans : List V) {rest : List V} {cl : List Claim} (h : runQ P ops ops.toList ans σ = some (σ', rest, cl)) (hc : ∀ c ∈ cl, c.ok P) (hQ : Q .normal σ') :
    Sat P (.region id ops true) σ Q := fun W0 g0 H0 W a g _ hS hG => by
  simp only [Region.lexB, Bool.and_eq_true] at hB
  refine wp_region_any hm ?_
  have hG' := hG.drawn (W.drawn + 1)
  have hS' : σ.e0 = H0.E ∧ Step W0 g0 H0 { W with drawn := W.drawn + 1 } g σ.H := ⟨hS.1, hS.2.trans (Grow.drawn W _).step⟩
  have := AQ_lex (P := P) (md := .any) (R := fun τ => τ = σ') ops.toList 0 (Array.replicate ops.size false) σ σ' ans rest cl (by simp) (by simpa using hB.2) h hc rfl
  simp only [Array.length_toList] at this
  exact wpAny_of_AQ (Q' := Lift W0 g0 H0 Q) (fun W a g τ hτ hS hG => by subst hτ; exact ⟨g, _, .normal, .normal, hS, hG, hQ⟩) _ _ σ _ a g this hS' hG'

/-! #### quiet operations, then others one after the other -/

def ALt (P : Program) (md : Region.Mode) (ops : Array Oper) (n : Nat) (L : Array Bool → St → Prop) : Nat → Array Bool → St → Prop
  | 0, listed, σ => L listed σ
  | f + 1, listed, σ => Region.ready md ops listed ≠ [] ∧ ∀ i ∈ Region.ready md ops listed, i < n ∧ qA P ops i (ALt P md ops n L f (listed.setIfInBounds i true)) σ

theorem wpAny_of_ALt {W0 : World} {g0 : Gh} {H0 : Heap} {n k : Nat} {L : Array Bool → St → Prop} {Q' : Exit → Act → World → Prop}
    (hL : ∀ listed W a g σ, L listed σ → (σ.e0 = H0.E ∧ Step W0 g0 H0 W g σ.H) → GoodSt W a g σ → wpAny P md ops Q' k listed a W) :
    ∀ (f : Nat) (listed : Array Bool) (σ : St) (W : World) (a : Act) (g : Gh), ALt P md ops n L f listed σ → (σ.e0 = H0.E ∧ Step W0 g0 H0 W g σ.H) → GoodSt W a g σ → wpAny P md ops Q' (f + k) listed a W
  | 0, listed, σ, W, a, g, h, hS, hG => by rw [Nat.zero_add]; exact hL _ _ _ g σ h hS hG
  | f + 1, listed, σ, W, a, g, h, hS, hG => by
    rw [show f + 1 + k = (f + k) + 1 by omega]
    exact ⟨fun h0 => absurd h0 h.1, fun i hi => wpOp_of_qA (fun W a g σ' hk hS hG => wpAny_of_ALt hL f _ σ' W a g hk hS hG) (h.2 i hi).2 hS hG⟩

theorem ALt_first {n i : Nat} {oi : Oper} {v : V} {L : Array Bool → St → Prop} (hi : ops[i]? = some oi)
    (hs : Region.sinkB md ops n = true) (hc : Region.chainB md ops n = true) (hn : n < ops.size) (hin : i < n)
    (hdone : ∀ listed σ, L listed σ → ∀ j ∈ Region.ready md ops listed, n ≤ j) :
    ∀ (f : Nat) (listed : Array Bool) (σ : St), HeadInv md ops n listed →
      (∀ j oj, ops[j]? = some oj → j ≠ i → listed.getD j true = false → (∀ e ∈ oj.after, Region.binds md e = true → e.on ≠ i) → oi.apart ops oj = true) →
      i ∈ Region.ready md ops listed → QY P ops σ oi v → ALt P md ops n L f (listed.setIfInBounds i true) (σ.put oi.dst v) → ALt P md ops n L (f + 1) listed σ := by
  intro f
  induction f with
  | zero =>
    intro listed σ inv _ hr hy H
    have hun := (mem_ready.1 hr).1
    refine ⟨fun h => (by rw [h] at hr; cases hr), fun j hj => ?_⟩
    have hjn : j < n := by
      rcases Nat.lt_or_ge j n with h | h
      · exact h
      · exact absurd hj (tail_waits hs hc hn inv _ i rfl hin hun j h)
    refine ⟨hjn, ?_⟩
    by_cases hji : j = i
    · subst hji; exact hy.qA hi H
    · have := hdone _ _ H j (ready_mono hj hji)
      omega
  | succ f ih =>
    intro listed σ inv hfree hr hy H
    have hun := (mem_ready.1 hr).1
    refine ⟨fun h => (by rw [h] at hr; cases hr), fun j hj => ?_⟩
    have hjn : j < n := by
      rcases Nat.lt_or_ge j n with h | h
      · exact h
      · exact absurd hj (tail_waits hs hc hn inv _ i rfl hin hun j h)
    refine ⟨hjn, ?_⟩
    by_cases hji : j = i
    · subst hji; exact hy.qA hi H
    · have h1 := (H.2 j (ready_mono hj hji)).2
      obtain ⟨hjun, oj, hoj, hall⟩ := mem_ready.1 hj
      have hnot : ∀ e ∈ oj.after, Region.binds md e = true → e.on ≠ i := fun e he hb heq => by
        have h1 := hall e he hb
        rw [heq, getD_both hun] at h1
        cases h1
      have h2 := qA_put hoj (hfree j oj hoj hji hjun hnot) hy h1
      have hfree' : ∀ k ok, ops[k]? = some ok → k ≠ i → (listed.setIfInBounds j true).getD k true = false →
          (∀ e ∈ ok.after, Region.binds md e = true → e.on ≠ i) → oi.apart ops ok = true := fun k ok hk hki hun hno => by
        refine hfree k ok hk hki ?_ hno
        by_cases hjk : j = k
        · subst hjk; exact hjun
        · rw [getD_set_ne true hjk] at hun; exact hun
      refine qA_mono (fun σ' h3 => ih (listed.setIfInBounds j true) σ' (inv.set hj hjn) hfree' (ready_mono hr (Ne.symm hji)) h3.1 ?_) h2
      rw [Array.setIfInBounds_comm _ _ hji]
      exact h3.2

theorem ALt_lex {n k0 : Nat} {R : St → Prop} (hs : Region.sinkB md ops n = true) (hc : Region.chainB md ops n = true) (hn : n < ops.size) :
    ∀ (l : List Oper) (k : Nat) (listed : Array Bool) (σ σ' : St) (ans rest : List V) (cl : List Claim), (∀ j, j < l.length → l[j]? = ops[k + j]?) → k + l.length = n → HeadInv md ops n listed →
    Region.lexHead md ops k0 l.length k listed = true → runQ P ops l ans σ = some (σ', rest, cl) → (∀ c ∈ cl, c.ok P) → R σ' →
    ALt P md ops n (fun listed' τ => Region.seqB md ops k0 n listed' = true ∧ R τ) l.length listed σ
  | [], k, listed, σ, σ', ans, rest, cl, _, hk, _, hB, h, _, hR => by
    have : k = n := by simpa using hk
    subst this
    simp only [runQ, Option.some.injEq, Prod.mk.injEq] at h
    obtain ⟨rfl, _, _⟩ := h
    exact ⟨by simpa [Region.lexHead] using hB, hR⟩
  | o :: l, k, listed, σ, σ', ans, rest, cl, hl, hk, inv, hB, h, hcl, hR => by
    have h0 : ops[k]? = some o := by simpa using (hl 0 (by simp)).symm
    simp only [List.length_cons, Region.lexHead, Bool.and_eq_true] at hB
    obtain ⟨⟨hr, hf⟩, hB'⟩ := hB
    have hkn : k < n := by simp only [List.length_cons] at hk; omega
    have hr' : k ∈ Region.ready md ops listed := by simpa using hr
    obtain ⟨v, ans', cl', hy, hrun, hc'⟩ := runQ_step h hcl
    exact ALt_first h0 hs hc hn hkn (fun listed' τ hL => seqB_ready hL.1) l.length listed σ inv (Region.free_spec h0 hf) hr' hy
      (ALt_lex hs hc hn l (k + 1) _ _ σ' ans' rest cl' (fun j hj => by have := hl (j + 1) (by simp; omega); simpa [Nat.add_assoc, Nat.add_comm 1 j] using this) (by simp only [List.length_cons] at hk; omega) (inv.set hr' hkn) hB' hrun hc' hR)

/-- the tail, where each order is one order -/
theorem wpAny_seq_ops {Q' : Exit → Act → World → Prop} : ∀ (m k : Nat) (listed : Array Bool) (a : Act) (w : World), k + m = ops.size →
    Region.seqB md ops m k listed = true → wpOps P ops Q' (List.range' k m) a w → wpAny P md ops Q' m listed a w
  | 0, _, _, _, _, _, hB, h => ⟨by simpa [Region.seqB] using hB, h⟩
  | m + 1, k, listed, a, w, hk, hB, h => by
    simp only [Region.seqB, Bool.and_eq_true, decide_eq_true_eq] at hB
    refine ⟨fun h1 => (by rw [hB.1] at h1; cases h1), fun i hi => ?_⟩
    rw [hB.1] at hi
    have hik : i = k := by simpa using hi
    subst hik
    simp only [List.range'_succ] at h
    have hw : wpOp P ops Q' i (wpOps P ops Q' (List.range' (i + 1) m)) a w := by
      unfold wpOp
      simp only [wpOps] at h
      exact h
    exact wpOp_mono (fun a' w' h' => wpAny_seq_ops m (i + 1) _ a' w' (by omega) hB.2 h') hw

/-- a region that draws its order: n quiet operations, behind which the others stand in a row -/
theorem sat_draw_tail {id : Nat} {σ τ σ' : St} {Q : AExit → St → Prop} (n : Nat) (hm : P.follows .mixedOrders = true) (hB : Region.lexTailB .any ops n = true)
    (ans : List V) {rest : List V} {cl : List Claim} (h : runQ P ops (ops.toList.take n) ans σ = some (τ, rest, cl)) (hc : ∀ c ∈ cl, c.ok P)
    (ans2 : List (V × Option Heap)) {rest2 : List (V × Option Heap)} {cl2 : List Claim} (h2 : runC P ops (ops.toList.drop n) ans2 τ = some (σ', rest2, cl2)) (hc2 : ∀ c ∈ cl2, c.ok P) (hQ : Q .normal σ') :
    Sat P (.region id ops true) σ Q := fun W0 g0 H0 W a g _ hS hG => by
  simp only [Region.lexTailB, Bool.and_eq_true, decide_eq_true_eq] at hB
  obtain ⟨⟨⟨⟨hsel, hn⟩, hs⟩, hch⟩, hlex⟩ := hB
  have hG' := hG.drawn (W.drawn + 1)
  have hS' : σ.e0 = H0.E ∧ Step W0 g0 H0 { W with drawn := W.drawn + 1 } g σ.H := ⟨hS.1, hS.2.trans (Grow.drawn W _).step⟩
  have htl : (ops.toList.take n).length = n := by simp; omega
  have inv0 : HeadInv .any ops n (Array.replicate ops.size false) :=
    ⟨by simp, fun j oj _ hl => (by rw [getD_replicate_false] at hl; cases hl), fun t _ ht => getD_in (by simpa using ht) (getD_replicate_false _ _)⟩
  have H := ALt_lex (P := P) (md := .any) (k0 := ops.size - n) (R := fun υ => υ = τ) hs hch hn (ops.toList.take n) 0 _ σ τ ans rest cl (fun j hj => by
    have hj' : j < n := by rw [htl] at hj; exact hj
    simp [hj']) (by simpa using htl) inv0 (by rw [htl]; exact hlex) h hc rfl
  refine wp_region_any hm ?_
  have := wpAny_of_ALt (P := P) (Q' := Lift W0 g0 H0 Q) (k := ops.size - n) (fun listed W a g υ hL hS hG => by
    obtain ⟨h1, h3⟩ := hL
    subst h3
    refine wpAny_seq_ops (ops.size - n) n listed a W (by omega) h1 ?_
    have := runC_sound (P := P) (ops := ops) (Q := Lift W0 g0 H0 Q) (W0 := W0) (g0 := g0) (H0 := H0) (ops.toList.drop n) n ans2 rest2 υ σ' cl2 W a g (fun j => by simp [List.getElem?_drop]) h2 hc2 hG hS (fun W' a' g' s1 s2 => ⟨g', σ', .normal, .normal, s1, s2, hQ⟩)
    simpa using this) _ _ σ _ a g H hS' hG'
  rw [htl, show n + (ops.size - n) = ops.size by omega] at this
  exact this

/-- a region that draws its order: n quiet operations, behind which the others stand in a row -/
theorem sat_draw_more {id : Nat} {σ τ : St} {Q : AExit → St → Prop} (n : Nat) (hm : P.follows .mixedOrders = true) (hB : Region.lexTailB .any ops n = true)
    (ans : List V) {rest : List V} {cl : List Claim} (h : runQ P ops (ops.toList.take n) ans σ = some (τ, rest, cl)) (hc : ∀ c ∈ cl, c.ok P)
    (hQ : ∀ W0 g0 H0 W a g, Base W0 g0 H0 → (τ.e0 = H0.E ∧ Step W0 g0 H0 W g τ.H) → GoodSt W a g τ → wpOps P ops (Lift W0 g0 H0 Q) (List.range' n (ops.size - n)) a W) :
    Sat P (.region id ops true) σ Q := fun W0 g0 H0 W a g hBa hS hG => by
  simp only [Region.lexTailB, Bool.and_eq_true, decide_eq_true_eq] at hB
  obtain ⟨⟨⟨⟨hsel, hn⟩, hs⟩, hch⟩, hlex⟩ := hB
  have hG' := hG.drawn (W.drawn + 1)
  have hS' : σ.e0 = H0.E ∧ Step W0 g0 H0 { W with drawn := W.drawn + 1 } g σ.H := ⟨hS.1, hS.2.trans (Grow.drawn W _).step⟩
  have htl : (ops.toList.take n).length = n := by simp; omega
  have inv0 : HeadInv .any ops n (Array.replicate ops.size false) :=
    ⟨by simp, fun j oj _ hl => (by rw [getD_replicate_false] at hl; cases hl), fun t _ ht => getD_in (by simpa using ht) (getD_replicate_false _ _)⟩
  have H := ALt_lex (P := P) (md := .any) (k0 := ops.size - n) (R := fun υ => υ = τ) hs hch hn (ops.toList.take n) 0 _ σ τ ans rest cl (fun j hj => by
    have hj' : j < n := by rw [htl] at hj; exact hj
    simp [hj']) (by simpa using htl) inv0 (by rw [htl]; exact hlex) h hc rfl
  refine wp_region_any hm ?_
  have := wpAny_of_ALt (P := P) (Q' := Lift W0 g0 H0 Q) (k := ops.size - n) (fun listed W a g υ hL hS hG => by
    obtain ⟨h1, h3⟩ := hL
    subst h3
    refine wpAny_seq_ops (ops.size - n) n listed a W (by omega) h1 ?_
    exact hQ W0 g0 H0 W a g hBa hS hG) _ _ σ _ a g H hS' hG'
  rw [htl, show n + (ops.size - n) = ops.size by omega] at this
  exact this

theorem sat_drw {id : Nat} {σ : St} {Q : AExit → St → Prop} (hm : P.follows .mixedOrders = true) (hB : Region.lexB .any ops = true) (ans : List V) {r : St × List V × List Claim} (h : runQ P ops ops.toList ans σ = some r) (hc : ∀ c ∈ r.2.2, c.ok P) (hQ : Q .normal r.1) :
    Sat P (.region id ops true) σ Q := sat_draw hm hB ans (σ' := r.1) (rest := r.2.1) (cl := r.2.2) h hc hQ

theorem sat_drt {id : Nat} {σ : St} {Q : AExit → St → Prop} (n : Nat) (hm : P.follows .mixedOrders = true) (hB : Region.lexTailB .any ops n = true)
    (ans : List V) {r : St × List V × List Claim} (h : runQ P ops (ops.toList.take n) ans σ = some r) (hc : ∀ c ∈ r.2.2, c.ok P)
    (ans2 : List (V × Option Heap)) {r2 : St × List (V × Option Heap) × List Claim} (h2 : runC P ops (ops.toList.drop n) ans2 r.1 = some r2) (hc2 : ∀ c ∈ r2.2.2, c.ok P) (hQ : Q .normal r2.1) :
    Sat P (.region id ops true) σ Q := sat_draw_tail n hm hB ans (τ := r.1) (rest := r.2.1) (cl := r.2.2) h hc ans2 (σ' := r2.1) (rest2 := r2.2.1) (cl2 := r2.2.2) h2 hc2 hQ

end
end Go.Ab
