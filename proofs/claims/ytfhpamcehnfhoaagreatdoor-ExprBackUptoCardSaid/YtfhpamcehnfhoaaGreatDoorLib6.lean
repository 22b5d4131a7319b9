/-
  THE TYPED MACHINE: functions.
-/
import Derived.Test.YtfhpamcehnfhoaaGreatDoorLib5
import Derived.Test.YtfhpamcehnfhoaaGreatDoorLib2
import Derived.Test.YtfhpamcehnfhoaaGreatDoorLib3
import Derived.Test.YtfhpamcehnfhoaaGreatDoorLib1
import Derived.Lib.Bytealg
import Derived.Laws.RangeAny
namespace Go.Ab
open Go
set_option linter.unusedVariables false
set_option linter.unusedSimpArgs false
set_option linter.unusedSectionVars false
section
variable {P : Program} {D : Dat} {F : Fr} {ρ : List Slot} {ts : TS D.T} {σ : St} {lv : Nat} {R : Type}
theorem yhh {α : Type} : ∀ (l : List α) (k j : Nat) (a : α), fnd (yq5 l k) j = some a → k ≤ j ∧ l[j - k]? = some a
 | [], k, j, a, h => by simp [yq5, fnd] at h
 | b :: l, k, j, a, h => by
   simp only [yq5, kzg] at h
   split at h
   · rename_i e; injection h with h; subst h; subst e; simp
   · obtain ⟨h1, h2⟩ := yhh l (k + 1) j a h
     refine ⟨by omega, ?_⟩
     rw [show j - k = (j - (k + 1)) + 1 by omega]
     simpa using h2
theorem y0o : ∀ (os : List OSh) {k : Nat} {x : HL D.T (z13 os)} {j : Nat}, k ≤ j → j < k + os.length → ∃ o, fnd (z6m D (fun k => k) os k x) j = some o ∧ o.live
 | [], k, x, j, h1, h2 => by simp at h2; omega
 | o :: os, k, x, j, h1, h2 => by
   show ∃ o', fnd ((k, znk D (fun k => k) o (HL.fst _ x)) :: z6m D (fun k => k) os (k + 1) (HL.snd _ x)) j = some o' ∧ o'.live
   rw [kzg]
   split
   · exact ⟨_, rfl, ybp⟩
   · exact y0o os (by omega) (by simp only [List.length_cons] at h2; omega)
theorem y0x : ∀ (os : List OSh) {k : Nat} {x : HL D.T (z13 os)} {j : Nat} {o : TO D.T}, (j, o) ∈ z6m D (fun k => k) os k x → fnd (z6m D (fun k => k) os k x) j = some o
 | [], k, x, j, o, h => by cases h
 | osh :: os, k, x, j, o, h => by
   replace h : (j, o) ∈ (k, znk D (fun k => k) osh (HL.fst _ x)) :: z6m D (fun k => k) os (k + 1) (HL.snd _ x) := h
   show fnd ((k, znk D (fun k => k) osh (HL.fst _ x)) :: z6m D (fun k => k) os (k + 1) (HL.snd _ x)) j = some o
   rw [kzg]
   rcases List.mem_cons.1 h with h | h
   · injection h with h1 h2; subst h1; subst h2; rw [if_pos rfl]
   · obtain ⟨j', h1, _, h3, _⟩ := zsf os h
     rw [if_neg (by omega)]
     exact y0x os h
theorem zhw (hD : D.Ok P) (hR : TRr D F ρ ts σ) : ∀ {rs : List ResultVar} {cs : List (TV D.T)}, y0a P D ts rs = some cs → ∃ vs, zqb P σ rs = some vs ∧ VRL D ρ F.lv cs vs
 | [], cs, h => by simp only [y0a, Option.some.injEq] at h; subst h; exact ⟨[], rfl, by simp only [VRL]⟩
 | .tmp t :: rs, cs, h => by
   simp only [y0a] at h
   split at h
   · rename_i v vs hv hvs
     injection h with h; subst h
     obtain ⟨us, h1, h2⟩ := zhw hD hR hvs
     exact ⟨σ.t.getD t .any :: us, by simp only [zqb, y2w, h1], by simp only [VRL]; exact ⟨_, _, rfl, hR.tmp hv, h2⟩⟩
   · cases h
 | .cell a t :: rs, cs, h => by
   simp only [y0a] at h
   split at h
   · rename_i p hp
     split at h
     · rename_i v vs hv hvs
       injection h with h; subst h
       obtain ⟨us, h1, h2⟩ := zhw hD hR hvs
       obtain ⟨u, h3, h4⟩ := y1q hD hR hv (hR.tmp hp)
       exact ⟨u :: us, by simp only [zqb, y2w, h3, h1], by simp only [VRL]; exact ⟨_, _, rfl, h4, h2⟩⟩
     · cases h
   · cases h
theorem ykf {c : Code} {σ : St} {Q : kz8 → St → Prop} (h : Sat P c σ fun e σ => ∃ τ, znh σ τ ∧ (∀ v, e ≠ .panic v) ∧ Q e τ) : Sat P c σ Q := fun W0 g0 H0 W a g hB hS hG => by
 refine wp_mono (h W0 g0 H0 W a g hB hS hG) fun e a w ⟨g, σ, e', h1, h2, h3, τ, h4, h5, h6⟩ => ?_
 obtain ⟨g', k1, k2⟩ := h4 W0 g0 H0 w a g hB h2 h3
 refine ⟨g', τ, e', ?_, k1, k2, h6⟩
 cases h1 with
 | normal => exact .normal
 | exit id => exact .exit id
 | ret => exact .ret
 | panic v c hr => exact (h5 v rfl).elim
def yg3 (D : Dat) (F : Fr) (l : LSh) (pack : HL D.T l.tys → R) (r : R) (e : kz8) (σ : St) : Prop :=
 match e with
 | .normal | .ret => ∃ x, pack x = r ∧ TR D F (l.bld D x) σ
 | _ => False
theorem y3z (hD : D.Ok P) {l : LSh} (hp : F.pin.length ≤ l.pin) (hp2 : l.pin ≤ l.os.length) {pack : HL D.T l.tys → R} {r : R} : KOk D F (y1b D l pack) (yg3 D F l pack r) r := by
 refine ⟨fun ts σ hT h => ?_, fun id k ts σ h => by simp [y1b, fnd] at h, fun ts σ hT h => ?_, fun z ts σ ρ v _ _ h => by simp [y1b] at h⟩
 ·obtain ⟨x, h1, h2⟩ := LSh.zez hD hp hp2 hT h
  injection h1 with h1
  exact ⟨x, h1, h2⟩
 ·obtain ⟨x, h1, h2⟩ := LSh.zez hD hp hp2 hT h
  injection h1 with h1
  exact ⟨x, h1, h2⟩
def yin (P : Program) (D : Dat) (c : Code) (p : Nat) (args : List Sh) (aos : List OSh) (nt : Nat) (K : Ks D.T R) (go : HL D.T (Sh.z3t args ++ z13 aos) → Option R) : Prop :=
 ∀ F Q r, F.pin.length ≤ p → KOk D F K Q r → ∀ x σ, TR D F (entry D args aos nt x) σ → go x = some r → Sat P c σ Q
theorem zrp {args : List V} {n : Nat} (cs : List (TV D.T)) (h : VRL D ρ lv cs args) : ∀ (j : Nat) (x : TV D.T), fnd (yq5 cs 0) j = some x → ∃ v, (args ++ List.replicate n V.any)[j]? = some v ∧ VR D ρ lv x v := fun j x hj => by
 obtain ⟨_, h1⟩ := yhh cs 0 j x hj
 obtain ⟨v, h2, h3⟩ := h.get j x (by simpa using h1)
 exact ⟨v, by rw [List.getElem?_append_left (List.getElem?_eq_some_iff.1 h2).1]; exact h2, h3⟩
theorem yub (hD : D.Ok P) {e : Ent D} {fn : Func} {code : Code} {nt : Nat} {l : LSh} {pack : HL D.T l.tys → R} {un : R → HL D.T (Sh.z3t e.outs ++ z13 e.ros)} {go : HL D.T (Sh.z3t e.args ++ z13 e.aos) → Option R}
  (hf : P.funcs[e.f]? = some fn) (hb : fn.body = some code) (hnt : fn.ntmps = nt) (hent : ∀ args w, (callFunc e.f args).run P w = .ok (.enter e.f args) w) (hargs : e.args.length ≤ nt)
  (hgo : ∀ (R' : Type) (x : HL D.T (Sh.z3t e.args ++ z13 e.aos)) (k : HL D.T (Sh.z3t e.outs ++ z13 e.ros) → Option R') (kp : HL D.T (e.pan.tys ++ z13 e.pos) → Option R'), e.go x k kp = (go x).bind fun r => k (un r))
  (hpure : e.pure = false) (hren : e.ren = []) (hp1 : e.p ≤ l.pin) (hp2 : l.pin ≤ l.os.length) (hlen : l.os.length = e.ros.length)
  (hout : ∀ x, y0a P D (l.bld D x) fn.results.toList = some (z5g D (fun k => k) e.outs (HL.fst _ (un (pack x)))) ∧ (l.bld D x).o = z6m D (fun k => k) e.ros 0 (HL.snd _ (un (pack x))))
  (hrun : yin P D code e.p e.args e.aos nt (y1b D l pack) go) : e.Ok P := fun R' x k kp r h => by
 rw [hpure]
 rw [hgo] at h
 obtain ⟨r0, h1, h2⟩ := zwj h
 refine .inl ⟨un r0, h2, fun lv L E ρ0 vargs k1 k2 k3 k4 => ?_⟩
 have hvl : vargs.length = e.args.length := by
  rw [← k2.length]
  have : ∀ (l : List Sh) (y : HL D.T (Sh.z3t l)), (z5g D (fun k => k) l y).length = l.length := fun l => by
   induction l with
   | nil => intro y; rfl
   | cons s l ih => intro y; show (zje D (fun k => k) s (HL.fst _ y) :: z5g D (fun k => k) l (HL.snd _ y)).length = _; rw [List.length_cons, ih, List.length_cons]
  exact this _ _
 let F : Fr := ⟨lv, E, E, L, fun i => i < L.length ∧ ∀ (k : Nat) (sl0 : Slot), ρ0[k]? = some sl0 → sl0.k ≠ some i, ρ0.take e.p⟩
 have hobj : ∀ s o, fnd (z6m D (fun k => k) e.aos 0 (HL.snd _ x)) s = some o → ∃ sl, ρ0[s]? = some sl ∧ OR D ρ0 lv L sl o := fun s o ho => k3 s o (z6w ho)
 have hR0 : TRr D F ρ0 (entry D e.args e.aos nt x) ⟨vargs ++ List.replicate (nt - vargs.length) .any, ⟨lv, L, E⟩, [], E⟩ := by
  refine ⟨k1, by simp only [entry, List.length_append, List.length_replicate]; omega, zrp _ k2, hobj, fun s s' o o' sl sl' i a1 a2 l1 l2 r1 r2 => k4 s s' sl sl' i r1 r2, fun s o sl i a1 l1 r1 hk ho => ho.2 s sl r1 hk, rfl, rfl, rfl, rfl, fun i hi => ⟨hi.1, rfl⟩, fun j sl hj => ?_⟩
  simp only [F, List.getElem?_take] at hj
  split at hj
  ·exact hj
  ·cases hj
 refine yqf hf hb hnt hent (ykf ((hrun F _ r0 (by simp only [F, List.length_take]; omega) (y3z hD (by simp only [F, List.length_take]; omega) hp2) x _ hR0.tr h1).mono fun ex σ hq => ?_))
 have key : ∀ ex, (ex = .normal ∨ ex = .ret) → (∃ x, pack x = r0 ∧ TR D F (l.bld D x) σ) → ∃ τ, znh σ τ ∧ (∀ v, ex ≠ .panic v) ∧ yuu P fn (fun out H' => ∃ L' ρ', H' = ⟨lv, L', E⟩ ∧ Left D lv L ρ0 e.p L' ρ' e.ros (HL.snd _ (un r0)) ∧ (∀ q ∈ e.ren, ∀ sl, ρ0[q.1]? = some sl → ∃ sl', ρ'[q.2]? = some sl' ∧ sl'.v = sl.v) ∧ ∃ vs, out = .ret (za2 vs) ∧ VRL D ρ' lv (z5g D (fun k => k) e.outs (HL.fst _ (un r0))) vs) ex τ := fun ex hex ⟨y, hy, τ, ρ', w1, w2⟩ => by
  subst hy
  obtain ⟨o1, o2⟩ := hout y
  obtain ⟨vs, q1, q2⟩ := zhw hD w2 o1
  have hH : τ.H = ⟨lv, τ.H.L, E⟩ := zsd (F := F) τ.H w2.lv w2.E
  have hleft : Left D lv L ρ0 e.p τ.H.L ρ' e.ros (HL.snd _ (un (pack y))) := by
   have hlen' : ρ'.length = e.ros.length := by rw [w2.nx, ← hlen]; rfl
   have live : ∀ s sl, ρ'[s]? = some sl → ∃ o, fnd (l.bld D y).o s = some o ∧ o.live := fun s sl hs => by
    rw [o2]; exact y0o e.ros (Nat.zero_le _) (by rw [Nat.zero_add, ← hlen']; exact (List.getElem?_eq_some_iff.1 hs).1)
   refine ⟨hlen', fun j o hm => ?_, fun s s' sl sl' i r1 r2 c1 c2 => ?_, fun s sl i r1 c1 => ?_, fun i hi hno => w2.out i ⟨hi, hno⟩, fun j sl hj hs => ?_⟩
   ·exact w2.ob j o (by rw [o2]; exact y0x e.ros hm)
   ·obtain ⟨o, a1, a2⟩ := live s sl r1
    obtain ⟨o', b1, b2⟩ := live s' sl' r2
    exact w2.inj s s' o o' sl sl' i a1 b1 a2 b2 r1 r2 c1 c2
   ·obtain ⟨o, a1, a2⟩ := live s sl r1
    have := w2.mine s o sl i a1 a2 r1 c1
    by_cases hlt : i < L.length
    ·right
     by_cases hex : ∃ (k : Nat) (sl0 : Slot), ρ0[k]? = some sl0 ∧ sl0.k = some i
     ·exact hex
     ·exact (this ⟨hlt, fun k sl0 e1 e2 => hex ⟨k, sl0, e1, e2⟩⟩).elim
    ·left; omega
   ·exact w2.pin j sl (by simp only [F, List.getElem?_take]; rw [if_pos hj]; exact hs)
  refine ⟨τ, w1, fun v e => by rcases hex with h | h <;> (rw [h] at e; cases e), ?_⟩
  rcases hex with rfl | rfl
  ·exact ⟨za2 vs, za2 vs, by simp only [z2j, q1, Option.map_some], w2.d, .refl _, τ.H.L, ρ', hH, hleft, (by rw [hren]; intro q hq; cases hq), vs, rfl, q2⟩
  ·exact ⟨za2 vs, za2 vs, by simp only [z2j, q1, Option.map_some], w2.d, .refl _, τ.H.L, ρ', hH, hleft, (by rw [hren]; intro q hq; cases hq), vs, rfl, q2⟩
 cases ex with
 | normal => exact key _ (.inl rfl) hq
 | ret => exact key _ (.inr rfl) hq
 | exit id => exact hq.elim
 | panic v => exact hq.elim
mutual
theorem VRn.lvl {lv' : Nat} : ∀ {x : TV D.T} {v : V}, VR D [] lv x v → VR D [] lv' x v
 | .own s, v, h => by simp only [VR] at h; obtain ⟨sl, h1, _⟩ := h; simp at h1
 | .osl s lo, v, h => by simp only [VR] at h; obtain ⟨sl, j, ver, h1, _⟩ := h; simp at h1
 | .ptr s off, v, h => by simp only [VR] at h; obtain ⟨sl, i, h1, _⟩ := h; simp at h1
 | .bp s off, v, h => by simp only [VR] at h; obtain ⟨sl, i, h1, _⟩ := h; simp at h1
 | .map s, v, h => by simp only [VR] at h; obtain ⟨sl, i, h1, _⟩ := h; simp at h1
 | .ap s t i x off, v, h => by simp only [VR] at h; obtain ⟨sl, w, h1, _⟩ := h; simp at h1
 | .ref cs off, v, h => by simp only [VR] at h ⊢; obtain ⟨vs, h1, h2⟩ := h; exact ⟨vs, h1, VRLn.lvl h2⟩
 | .fn f a b, v, h => by simp only [VR] at h ⊢; obtain ⟨as, bs, h1, h2, h3⟩ := h; exact ⟨as, bs, h1, VRLn.lvl h2, VRLn.lvl h3⟩
 | .iface t x, v, h => by simp only [VR] at h ⊢; obtain ⟨y, h1, h2⟩ := h; exact ⟨y, h1, VRn.lvl h2⟩
 | .agg cs, v, h => by simp only [VR] at h ⊢; obtain ⟨vs, h1, h2⟩ := h; exact ⟨vs, h1, VRLn.lvl h2⟩
 | .tup cs, v, h => by simp only [VR] at h ⊢; obtain ⟨vs, h1, h2⟩ := h; exact ⟨vs, h1, VRLn.lvl h2⟩
 | .any, v, h => by simp only [VR]
 | .bool b, v, h => by simpa only [VR] using h
 | .int k n, v, h => by simpa only [VR] using h
 | .str b, v, h => by simpa only [VR] using h
 | .nilp, v, h => by simpa only [VR] using h
 | .nils, v, h => by simpa only [VR] using h
 | .mapn, v, h => by simpa only [VR] using h
 | .nilf, v, h => by simpa only [VR] using h
 | .nili, v, h => by simpa only [VR] using h
 | .sl t xs fl, v, h => by simpa only [VR] using h
theorem VRLn.lvl {lv' : Nat} : ∀ {cs : List (TV D.T)} {vs : List V}, VRL D [] lv cs vs → VRL D [] lv' cs vs
 | [], vs, h => by simpa only [VRL] using h
 | c :: cs, vs, h => by simp only [VRL] at h ⊢; obtain ⟨v, r, h1, h2, h3⟩ := h; exact ⟨v, r, h1, VRn.lvl h2, VRLn.lvl h3⟩
end
theorem DR.vs (hD : D.Ok P) {H : Heap} {Dm : Nat → Nat → Prop} {t : DTy} {x : t.S D.T} {v : V} (h : DR D t x v) :
  VS H Dm v (D.el t x) ∧ ∀ (j : Nat) (u u' : V), v.cells[j]? = some u → (D.el t x).cells[j]? = some u' → VS H Dm u u' := by
 have one : ∀ {t : DTy} {x : t.S D.T} {v : V}, v.cells = [v] → (D.el t x).cells = [D.el t x] → VS H Dm v (D.el t x) →
   VS H Dm v (D.el t x) ∧ ∀ (j : Nat) (u u' : V), v.cells[j]? = some u → (D.el t x).cells[j]? = some u' → VS H Dm u u' := fun {t x v} h1 h2 h => ⟨h, fun j u u' hu hu' => by
  rw [h1] at hu; rw [h2] at hu'
  cases j with
  | zero => simp at hu hu'; subst hu; subst hu'; exact h
  | succ j => simp at hu⟩
 induction h with
 | bool b => exact one rfl rfl (.keep _ (by simp [V.kin]))
 | int k n => exact one rfl rfl (.keep _ (by simp [V.kin]))
 | str s => exact one rfl rfl (.keep _ (by simp [V.kin]))
 | nat n => exact one (t := .nat) rfl rfl (.any _)
 | nil t => exact one rfl rfl (.nil _ _)
 | sl t xs ws full hl h ih =>
   refine one rfl rfl (.sl _ _ _ _ (by simp [hl]) (fun j a b ha hb => ?_) fun j a b q v u ha hb hv hu => ?_)
   · rw [List.getElem?_map, Option.map_eq_some_iff] at hb
     obtain ⟨x, hx, rfl⟩ := hb
     rw [(h j x a hx ha).cells hD, yj0 hD]
   · rw [List.getElem?_map, Option.map_eq_some_iff] at hb
     obtain ⟨x, hx, rfl⟩ := hb
     exact (ih j x a hx ha).2 q v u hv hu
 | st i x vs hl h ih =>
   have cell : ∀ (j : Nat) (u u' : V), vs[j]? = some u → (D.els (D.fl i) (D.get i x))[j]? = some u' → VS H Dm u u' := fun j u u' hu hu' => by
     rw [ycp, Option.map_eq_some_iff] at hu'
     obtain ⟨p, hp, rfl⟩ := hu'
     exact (ih j p u hp hu).1
   have e : D.el (.st i) x = .agg (D.els (D.fl i) (D.get i x)) := hD.enc i x
   rw [e]
   exact ⟨.agg _ _ (by rw [y45, hl]) cell, fun j u u' hu hu' => cell j u u' hu hu'⟩
 | enc i x => exact ⟨.keep _ (hD.kin i x _), fun j u u' hu hu' => by
   rw [show D.el (.st i) x = D.enc i x from rfl, hu] at hu'
   injection hu' with hu'
   subst hu'
   exact .keep _ (zbi (y0f (hD.kin i x _)) j u hu)⟩
theorem VR.toDR (hD : D.Ok P) {t : DTy} {x : t.S D.T} {v : V} (ht : t ≠ .nat) (h : VR D ρ lv (D.tv t x) v) : DR D t x v := by
 have leaf : ∀ {t : DTy} {x : t.S D.T} {v : V}, t ≠ .nat → (∀ i, t ≠ .st i) → VR D ρ lv (D.leaf t x) v → DR D t x v := fun {t x v} h1 h2 h => by
  cases t with
  | bool => simp only [Dat.leaf, VR] at h; subst h; exact .bool _
  | int k => simp only [Dat.leaf, VR] at h; subst h; exact .int _ _
  | str => simp only [Dat.leaf, VR] at h; subst h; exact .str _
  | nat => exact (h1 rfl).elim
  | sl t => simp only [Dat.leaf, VR] at h; exact h.1
  | st i => exact (h2 i rfl).elim
 cases t with
 | st i =>
   simp only [Dat.tv, VR] at h
   obtain ⟨vs, rfl, h⟩ := h
   refine .st i x vs (by rw [← h.length, zpz]) fun j p u hp hu => ?_
   have hm := hD.flat i p.1 (List.mem_of_getElem? (HL.yjd _ _ _ _ hp).2)
   have := h.ybi (j := j) (c := D.leaf p.1 p.2) (by rw [zhh, hp]; rfl) hu
   obtain ⟨t, y⟩ := p
   refine leaf (fun e => ?_) (fun i e => ?_) this
   · subst e; exact hm.elim
   · subst e; exact hm.elim
 | nat => exact (ht rfl).elim
 | bool => exact leaf ht (by simp) h
 | int k => exact leaf ht (by simp) h
 | str => exact leaf ht (by simp) h
 | sl t => exact leaf ht (by simp) h
def yng : List Sh → Bool
 | [] => true
 | .d t :: l => !decide (t = .nat) && yng l
 | _ => false
def canon (D : Dat) : (l : List Sh) → HL D.T (Sh.z3t l) → List V
 | [], _ => []
 | .d t :: l, x => D.el t (HL.fst (Sh.tys (.d t)) x).1 :: canon D l (HL.snd (Sh.tys (.d t)) x)
 | s :: l, x => .any :: canon D l (HL.snd s.tys x)
theorem VRL.lvl {lv' : Nat} {cs : List (TV D.T)} {vs : List V} (h : VRL D [] lv cs vs) : VRL D [] lv' cs vs := VRLn.lvl h
theorem yca (hD : D.Ok P) : ∀ {l : List Sh} {x : HL D.T (Sh.z3t l)}, yng l = true → VRL D ρ lv (z5g D (fun k => k) l x) (canon D l x)
 | [], x, h => (by simp only [VRL] : VRL D ρ lv [] [])
 | .d t :: l, x, h => by
   simp only [yng, Bool.and_eq_true] at h
   show VRL D ρ lv (D.tv t (HL.fst (Sh.tys (.d t)) x).1 :: z5g D (fun k => k) l (HL.snd (Sh.tys (.d t)) x)) (D.el t (HL.fst (Sh.tys (.d t)) x).1 :: canon D l (HL.snd (Sh.tys (.d t)) x))
   simp only [VRL]
   exact ⟨_, _, rfl, VR.tv hD (DR.el t _), yca hD h.2⟩
theorem yjb (hD : D.Ok P) {H : Heap} {Dm : Nat → Nat → Prop} : ∀ {l : List Sh} {x : HL D.T (Sh.z3t l)} {vs : List V}, yng l = true → VRL D ρ lv (z5g D (fun k => k) l x) vs → VSL H Dm vs (canon D l x)
 | [], x, vs, h, hv => by
   replace hv : VRL D ρ lv [] vs := hv
   simp only [VRL] at hv; subst hv; exact .nil
 | .d t :: l, x, vs, h, hv => by
   simp only [yng, Bool.and_eq_true, Bool.not_eq_true', decide_eq_false_iff_not] at h
   replace hv : VRL D ρ lv (D.tv t (HL.fst (Sh.tys (.d t)) x).1 :: z5g D (fun k => k) l (HL.snd (Sh.tys (.d t)) x)) vs := hv
   simp only [VRL] at hv
   obtain ⟨v, r, rfl, h1, h2⟩ := hv
   exact .cons ((VR.toDR hD h.1 h1).vs hD).1 (yjb hD h.2 h2)
theorem yt8 {H : Heap} {Dm : Nat → Nat → Prop} {vs us : List V} (h : VSL H Dm vs us) : VS H Dm (za2 vs) (za2 us) := by
 cases h with
 | nil => exact .yqs .nil
 | cons h1 r =>
   cases r with
   | nil => exact h1
   | cons h2 r => exact .yqs (.cons h1 (.cons h2 r))
theorem yuf (hD : D.Ok P) {e : Ent D} {fn : Func} {code : Code} {nt : Nat} {l : LSh} {pack : HL D.T l.tys → R} {un : R → HL D.T (Sh.z3t e.outs ++ z13 e.ros)} {go : HL D.T (Sh.z3t e.args ++ z13 e.aos) → Option R}
  (hf : P.funcs[e.f]? = some fn) (hb : fn.body = some code) (hnt : fn.ntmps = nt) (hent : ∀ args w, (callFunc e.f args).run P w = .ok (.enter e.f args) w) (hargs : e.args.length ≤ nt)
  (hgo : ∀ (R' : Type) (x : HL D.T (Sh.z3t e.args ++ z13 e.aos)) (k : HL D.T (Sh.z3t e.outs ++ z13 e.ros) → Option R') (kp : HL D.T (e.pan.tys ++ z13 e.pos) → Option R'), e.go x k kp = (go x).bind fun r => k (un r))
  (hpure : e.pure = true) (hren : e.ren = []) (haos : e.aos = []) (hros : e.ros = []) (houts : yng e.outs = true) (hp2 : l.pin ≤ l.os.length)
  (hout : ∀ x, y0a P D (l.bld D x) fn.results.toList = some (z5g D (fun k => k) e.outs (HL.fst _ (un (pack x)))))
  (hrun : yin P D code e.p e.args e.aos nt (y1b D l pack) go) : e.Ok P := fun R' x k kp r h => by
 rw [hpure]
 rw [hgo] at h
 obtain ⟨r0, h1, h2⟩ := zwj h
 refine ⟨un r0, h2, haos, hros, hren, fun lv0 vargs k2 => ⟨canon D e.outs (HL.fst _ (un r0)), fun ρ lv => yca hD houts, ?_⟩⟩
 have hvl : vargs.length = e.args.length := by
  rw [← k2.length]
  have : ∀ (l : List Sh) (y : HL D.T (Sh.z3t l)), (z5g D (fun k => k) l y).length = l.length := fun l => by
   induction l with
   | nil => intro y; rfl
   | cons s l ih => intro y; show (zje D (fun k => k) s (HL.fst _ y) :: z5g D (fun k => k) l (HL.snd _ y)).length = _; rw [List.length_cons, ih, List.length_cons]
  exact this _ _
 refine yio hf hb hnt hent fun lv E => ?_
 let F : Fr := ⟨lv + 1, E, E, [], fun i => False, []⟩
 have hnob : ∀ s (o : TO D.T), fnd (z6m D (fun k => k) e.aos 0 (HL.snd _ x)) s = some o → False := fun s o ho => by
  obtain ⟨j, _, hlt, _⟩ := zsf e.aos (z6w ho)
  rw [haos] at hlt; simp at hlt
 have k2' : VRL D [] (lv + 1) (z5g D (fun k => k) e.args (HL.fst _ x)) vargs := VRL.lvl k2
 have hR0 : TRr D F [] (entry D e.args e.aos nt x) ⟨vargs ++ List.replicate (nt - vargs.length) .any, ⟨lv + 1, [], E⟩, [], E⟩ := by
  refine ⟨by simp only [entry, haos]; rfl, by simp only [entry, List.length_append, List.length_replicate]; omega, zrp _ k2', fun s o ho => (hnob s o ho).elim, fun s s' o o' sl sl' i a1 => (hnob s o a1).elim, fun s o sl i a1 => (hnob s o a1).elim, rfl, rfl, rfl, rfl, fun i hi => hi.elim, fun j sl hj => by simp [F] at hj⟩
 refine ykf ((hrun F _ r0 (by simp [F]) (y3z hD (by simp [F]) hp2) x _ hR0.tr h1).mono fun ex σ hq => ?_)
 have key : ∀ ex, (ex = .normal ∨ ex = .ret) → (∃ x, pack x = r0 ∧ TR D F (l.bld D x) σ) → ∃ τ, znh σ τ ∧ (∀ v, ex ≠ .panic v) ∧ Ends P fn lv E (za2 (canon D e.outs (HL.fst _ (un r0)))) ex τ := fun ex hex ⟨y, hy, τ, ρ', w1, w2⟩ => by
  subst hy
  obtain ⟨vs, q1, q2⟩ := zhw hD w2 (hout y)
  have hv := yt8 (yjb hD (H := τ.H) (Dm := outer lv) houts q2)
  refine ⟨τ, w1, fun v e => by rcases hex with h | h <;> (rw [h] at e; cases e), ?_⟩
  rcases hex with rfl | rfl
  ·exact ⟨za2 vs, by simp only [z2j, q1, Option.map_some], w2.d, w2.E, hv⟩
  ·exact ⟨za2 vs, by simp only [z2j, q1, Option.map_some], w2.d, w2.E, hv⟩
 cases ex with
 | normal => exact key _ (.inl rfl) hq
 | ret => exact key _ (.inr rfl) hq
 | exit id => exact hq.elim
 | panic v => exact hq.elim
structure FI (D : Dat) where
 R : Type
 ent : Nat → Ent D
 c : AC
 K : Ks D.T R
 p : Nat
 args : List Sh
 aos : List OSh
 nt : Nat
 z8d : Nat → List (Nat × Lb D R)
 go : Nat → HL D.T (Sh.z3t args ++ z13 aos) → Option R
def y51 {α : Type} (φ : Nat → α → Prop) : List (Nat × α) → Prop
 | [] => True
 | p :: l => φ p.1 p.2 ∧ y51 φ l
theorem y51.get {α : Type} {φ : Nat → α → Prop} : ∀ {l : List (Nat × α)} {j : Nat} {a : α}, y51 φ l → (j, a) ∈ l → φ j a
 | p :: l, j, a, h, hm => by
   rcases List.mem_cons.1 hm with hm | hm
   · subst hm; exact h.1
   · exact y51.get h.2 hm
def y73 (P : Program) (D : Dat) {R : Type} (tbl : List (Ent D)) (J : Nat → TS D.T → Option R) (l : Nat) (c : AC) (K : Ks D.T R) (ts : TS D.T) : Option R :=
 match AC.at P D tbl J l c K (fun _ => none) with
 | some g => g ts
 | none => none
structure FI.Good (P : Program) (D : Dat) (tbl : Nat → List (Ent D)) (f : FI D) : Prop where
 nodup : f.c.labels.Nodup
 zero : ∀ x, f.go 0 x = none
 lzero : ∀ l lb x, fnd (f.z8d 0) l = some lb → lb.go x = none
 pins : ∀ n l lb, fnd (f.z8d n) l = some lb → f.p ≤ lb.sh.pin ∧ lb.sh.pin ≤ lb.sh.os.length
 step : ∀ n x, f.go (n + 1) x = run P D (tbl n) (jump D (f.z8d n)) f.c (entry D f.args f.aos f.nt x) f.K
 lstep : ∀ n l lb x, fnd (f.z8d (n + 1)) l = some lb → lb.go x = y73 P D (tbl n) (jump D (f.z8d n)) l f.c f.K (lb.sh.bld D x)
 ok : ∀ n, yin P D f.c.erase f.p f.args f.aos f.nt f.K (f.go n) → (f.ent n).Ok P
def FI.y0y (P : Program) (D : Dat) (f : FI D) (n : Nat) : Prop :=
 ∀ F Q r, F.pin.length ≤ f.p → KOk D F f.K Q r → ∀ l a Q', f.c.site P l Q = some (a, Q') → ∀ ts σ, TR D F ts σ → jump D (f.z8d n) l ts = some r → a.Claim P σ Q'
theorem FI.Good.z8d (hD : D.Ok P) {tbl : Nat → List (Ent D)} {f : FI D} (h : f.Good P D tbl) : ∀ n, (∀ m, m < n → ∀ e ∈ tbl m, e.Ok P) → f.y0y P D n
 | 0, _ => fun F Q r hp hK l a Q' hs ts σ hT hj => by
   unfold jump at hj
   split at hj
   · rename_i lb hlb
     obtain ⟨p1, p2⟩ := h.pins 0 l lb hlb
     obtain ⟨x, h1, _⟩ := LSh.zez hD (by omega) p2 hT hj
     rw [h.lzero l lb x hlb] at h1; cases h1
   · cases hj
 | n + 1, ht => fun F Q r hp hK l a Q' hs ts σ hT hj => by
   have ih := FI.Good.z8d hD h n fun m hm => ht m (by omega)
   unfold jump at hj
   split at hj
   · rename_i lb hlb
     obtain ⟨p1, p2⟩ := h.pins (n + 1) l lb hlb
     obtain ⟨x, h1, h2⟩ := LSh.zez hD (by omega) p2 hT hj
     rw [h.lstep n l lb x hlb] at h1
     unfold y73 at h1
     split at h1
     · rename_i g hg
       obtain ⟨a', Q'', e1, e2⟩ := zj0 hD (ht n (by omega)) hK (fun b _ ts σ _ hk => by cases hk) (zih (P := P) (φ := LOk P D F (jump D (f.z8d n)) r) h.nodup fun l a Q' hs ts σ hT hj => ih F Q r hp hK l a Q' hs ts σ hT hj) hg
       rw [hs] at e1; injection e1 with e1; injection e1 with e1 e3; subst e1; subst e3
       exact e2 _ σ h2 h1
     · cases h1
   · cases hj
theorem FI.Good.runs (hD : D.Ok P) {tbl : Nat → List (Ent D)} {f : FI D} (h : f.Good P D tbl) : ∀ n, (∀ m, m < n → ∀ e ∈ tbl m, e.Ok P) → yin P D f.c.erase f.p f.args f.aos f.nt f.K (f.go n)
 | 0, _ => fun F Q r hp hK x σ hT hg => by rw [h.zero] at hg; cases hg
 | n + 1, ht => fun F Q r hp hK x σ hT hg => by
   rw [h.step] at hg
   have ih := h.z8d hD n fun m hm => ht m (by omega)
   exact z9e hD (ht n (by omega)) hK (zih (P := P) (φ := LOk P D F (jump D (f.z8d n)) r) h.nodup fun l a Q' hs ts σ hT hj => ih F Q r hp hK l a Q' hs ts σ hT hj) hT hg
theorem ring (hD : D.Ok P) {fs : List (FI D)} {base : Nat → List (Ent D)} (hb : ∀ n, ∀ e ∈ base n, e.Ok P) (h : ∀ f ∈ fs, f.Good P D fun n => fs.map (·.ent n) ++ base n) : ∀ n, ∀ f ∈ fs, (f.ent n).Ok P := fun n => by
 induction n using Nat.strongRecOn with
 | ind n ih =>
   intro f hf
   refine (h f hf).ok n ((h f hf).runs hD n fun m hm e he => ?_)
   rcases List.mem_append.1 he with he | he
   · obtain ⟨g, hg, rfl⟩ := List.mem_map.1 he
     exact ih m hm g hg
   · exact hb m e he
end
end Go.Ab


namespace Go.Ab
open Go
set_option linter.unusedVariables false
set_option linter.unusedSectionVars false
section
variable {P : Program} {D : Dat} {R : Type}
def FI.of (D : Dat) (f nt p : Nat) (args : List Sh) (aos : List OSh) (outs : List Sh) (ros : List OSh) (pure : Bool) (l : LSh) {R : Type} (pack : HL D.T l.tys → R) (un : R → HL D.T (Sh.z3t outs ++ z13 ros))
  (go : Nat → HL D.T (Sh.z3t args ++ z13 aos) → Option R) (z8d : Nat → List (Nat × Lb D R)) (c : AC) : FI D :=
 { R := R, ent := fun n => { f := f, p := p, args := args, aos := aos, outs := outs, ros := ros, pan := .nilp, pos := ros, pure := pure, go := fun x k _ => (go n x).bind fun r => k (un r) },
   c := c, K := y1b D l pack, p := p, args := args, aos := aos, nt := nt, z8d := z8d, go := go }
def tb (l : List (FI D)) (n : Nat) : List (Ent D) := l.map (·.ent n)
def FOk (P : Program) (f : FI D) : Prop := ∀ n, (f.ent n).Ok P
def OkL (P : Program) : List (FI D) → Prop
 | [] => True
 | f :: l => FOk P f ∧ OkL P l
def yih (P : Program) (tbl : Nat → List (Ent D)) : List (FI D) → Prop
 | [] => True
 | f :: l => f.Good P D tbl ∧ yih P tbl l
theorem OkL.get : ∀ {l : List (FI D)} {f : FI D}, OkL P l → f ∈ l → FOk P f
 | g :: l, f, h, hm => by
   rcases List.mem_cons.1 hm with rfl | hm
   · exact h.1
   · exact OkL.get h.2 hm
theorem OkL.of : ∀ {l : List (FI D)}, (∀ f ∈ l, FOk P f) → OkL P l
 | [], h => trivial
 | f :: l, h => ⟨h f List.mem_cons_self, OkL.of fun g hg => h g (List.mem_cons_of_mem _ hg)⟩
theorem yih.get {tbl : Nat → List (Ent D)} : ∀ {l : List (FI D)} {f : FI D}, yih P tbl l → f ∈ l → f.Good P D tbl
 | g :: l, f, h, hm => by
   rcases List.mem_cons.1 hm with rfl | hm
   · exact h.1
   · exact yih.get h.2 hm
theorem z4p (hD : D.Ok P) {fs bs : List (FI D)} (hb : OkL P bs) (h : yih P (tb (fs ++ bs)) fs) : OkL P fs :=
 OkL.of fun f hf n => ring hD (base := fun n => bs.map (·.ent n)) (fun n e he => by
  obtain ⟨b, hm, rfl⟩ := List.mem_map.1 he
  exact hb.get hm n) (fun g hg => by
  have := h.get hg
  have e : (tb (fs ++ bs)) = fun n => fs.map (·.ent n) ++ bs.map (·.ent n) := by funext n; simp [tb]
  rw [e] at this
  exact this) n f hf
def chkB (p nt : Nat) (args outs : List Sh) (aos ros : List OSh) (pure : Bool) (l : LSh) (c : AC) : Bool :=
 Nat.ble args.length nt && Nat.ble p l.pin && Nat.ble l.pin l.os.length &&
 (match pure with
  | true => aos.isEmpty && ros.isEmpty && yng outs
  | false => Nat.beq l.os.length ros.length)
def ybu (p : Nat) : List (Nat × Lb D R) → Bool
 | [] => true
 | (_, lb) :: r => Nat.ble p lb.sh.pin && Nat.ble lb.sh.pin lb.sh.os.length && ybu p r
theorem zu3 {p : Nat} : ∀ {l : List (Nat × Lb D R)}, ybu p l = true → y51 (fun _ lb => p ≤ lb.sh.pin ∧ lb.sh.pin ≤ lb.sh.os.length) l
 | [], h => trivial
 | (_, lb) :: r, h => by
   simp only [ybu, Bool.and_eq_true, Nat.ble_eq] at h
   exact ⟨h.1, zu3 h.2⟩
theorem FI.yz5 {hD : D.Ok P} {f nt p : Nat} {args : List Sh} {aos : List OSh} {outs : List Sh} {ros : List OSh} {pure : Bool} {l : LSh} {pack : HL D.T l.tys → R} {un : R → HL D.T (Sh.z3t outs ++ z13 ros)}
  {go : Nat → HL D.T (Sh.z3t args ++ z13 aos) → Option R} {z8d : Nat → List (Nat × Lb D R)} {c : AC} {tbl : Nat → List (Ent D)} {fn : Func}
  (hf : P.funcs[f]? = some fn) (hnt : fn.ntmps = nt) (hent : ∀ args w, (callFunc f args).run P w = .ok (.enter f args) w)
  (hb : fn.body = some c.erase) (hnd : c.labels.Nodup) (hchk : chkB p nt args outs aos ros pure l c = true) (hp : ∀ n, ybu p (z8d n) = true)
  (hout : ∀ x, y0a P D (l.bld D x) fn.results.toList = some (z5g D (fun k => k) outs (HL.fst _ (un (pack x)))))
  (hz : ∀ x, go 0 x = none) (hlz : y51 (fun _ lb => ∀ x, lb.go x = none) (z8d 0))
  (hs : ∀ n x, go (n + 1) x = run P D (tbl n) (jump D (z8d n)) c (entry D args aos nt x) (y1b D l pack))
  (hls : ∀ n, y51 (fun j lb => ∀ x, lb.go x = y73 P D (tbl n) (jump D (z8d n)) j c (y1b D l pack) (lb.sh.bld D x)) (z8d (n + 1)))
  (hros : ∀ x, pure = true ∨ (l.bld D x).o = z6m D (fun k => k) ros 0 (HL.snd _ (un (pack x)))) :
  (FI.of D f nt p args aos outs ros pure l pack un go z8d c).Good P D tbl where
 nodup := hnd
 zero := hz
 lzero := fun j lb x h => hlz.get (z6w h) x
 pins := fun n j lb h => (zu3 (hp n)).get (z6w h)
 step := hs
 lstep := fun n j lb x h => (hls n).get (z6w h) x
 ok := fun n h => by
  simp only [chkB, Bool.and_eq_true, Nat.ble_eq] at hchk
  obtain ⟨⟨⟨h1, h2⟩, h3⟩, h4⟩ := hchk
  cases pure with
  | true =>
    simp only [Bool.and_eq_true, List.isEmpty_iff] at h4
    obtain ⟨⟨rfl, rfl⟩, h6⟩ := h4
    exact yuf (l := l) (pack := pack) (un := un) (go := go n) (code := c.erase) hD hf hb hnt hent h1 (fun _ _ _ _ => rfl) rfl rfl rfl rfl h6 h3 hout h
  | false =>
    exact yub (l := l) (pack := pack) (un := un) (go := go n) (code := c.erase) hD hf hb hnt hent h1 (fun _ _ _ _ => rfl) rfl rfl h2 h3 (Nat.eq_of_beq_eq_true h4) (fun x => ⟨hout x, (hros x).resolve_left (by simp)⟩) h
end
end Go.Ab


namespace Go.Ab
open Go
set_option linter.unusedVariables false
set_option linter.unusedSimpArgs false
set_option linter.unusedSectionVars false
section
variable {P : Program} {D : Dat} {F : Fr} {ρ : List Slot} {ts : TS D.T} {σ : St} {lv : Nat} {R X : Type}
theorem yfg (hD : D.Ok P) (hR : TRr D F ρ ts σ) {pan : Sh} {pos : List OSh} {p : Nat} {z : TV D.T} {v : V} {x : HL D.T (pan.tys ++ z13 pos)} (hp : F.pin.length ≤ p) (hp2 : p ≤ pos.length) (hz : VR D ρ F.lv z v) (h : ylw D pan pos p z ts = some x) :
  ∃ ρ', TRr D F ρ' ⟨[], z6m D (fun k => k) pos 0 (HL.snd _ x), pos.length, ts.nt, []⟩ σ ∧ VR D ρ' F.lv (zje D (fun k => k) pan (HL.fst _ x)) v := by
 unfold ylw at h
 split at h
 ·rename_i hde
  split at h
  ·rename_i M y hy
   split at h
   ·rename_i M' w hw
    injection h with h; subst h
    obtain ⟨a1, a2, a3⟩ := zlx hD pan hy hz
    obtain ⟨b1, b2, b3, b4⟩ := zn8 hD hR pos hw
    have hM : MOk pos.length M' := b2 (a2 ⟨fun k src h => by have := (zij h).1; omega, fun k k' s h h' => by have e := (zij h).2; have e' := (zij h').2; injection e with e; injection e' with e'; omega, fun k src hm => y4e hm⟩)
    obtain ⟨ρ', c1, c2, c3⟩ := ylc hR hM fun j hj => by simpa using b3 j hj
    rw [HL.zn2, HL.zmr]
    have place : ∀ s sl i, ρ'[s]? = some sl → sl.k = some i → ∃ s0 o0, fnd M' s = some (.slot s0) ∧ fnd ts.o s0 = some o0 ∧ o0.live ∧ ρ[s0]? = some sl := fun s sl i hs hk => by
     obtain ⟨src, e1, e2⟩ := c3 s sl hs
     cases src with
     | nil => simp only [Src.is] at e2; subst e2; cases hk
     | slot s0 =>
       obtain ⟨src', e3, e4⟩ := b3 s (by rw [← c1]; exact (List.getElem?_eq_some_iff.1 hs).1)
       rw [Nat.zero_add, e1] at e3; injection e3 with e3; subst e3
       obtain ⟨o0, f1, f2⟩ := e4 s0 rfl
       exact ⟨s0, o0, e1, f1, f2, e2⟩
    refine ⟨ρ', ⟨c1, hR.nt, fun j c hj => by simp [fnd] at hj, fun s o ho => ?_, fun s s' o o' sl sl' i h1 h2 l1 l2 r1 r2 k1 k2 => ?_, fun s o sl i h1 l1 r1 k1 => ?_, hR.lv, hR.E, hR.e0, (by have := hR.d; rw [hde] at this; exact this), hR.out, fun j sl hj => ?_⟩, a3 ρ' (b1.agr c2)⟩
    rotate_right
    ·have hlt := (List.getElem?_eq_some_iff.1 hj).1
     obtain ⟨sl', e1, e2⟩ := c2 j _ (b1 _ _ (a1 _ _ (y1a (n := p) (k := j) (by omega))))
     simp only [Src.is] at e2
     rw [hR.pin j sl hj] at e2; injection e2 with e2; subst e2; exact e1
    ·obtain ⟨_, _, _, sl, e1, e2⟩ := b4 ρ' c2 s o (z6w ho)
     exact ⟨sl, e1, e2⟩
    ·obtain ⟨s0, o0, d1, d2, d3, d4⟩ := place s sl i r1 k1
     obtain ⟨s1, o1, e1, e2, e3, e4⟩ := place s' sl' i r2 k2
     have := hR.inj s0 s1 o0 o1 sl sl' i d2 e2 d3 e3 d4 e4 k1 k2
     subst this
     exact hM.inj s s' s0 d1 e1
    ·obtain ⟨s0, o0, d1, d2, d3, d4⟩ := place s sl i r1 k1
     exact hR.mine s0 o0 sl i d2 d3 d4 k1
   ·cases h
  ·cases h
 ·cases h
def z73 (lv : Nat) (L : List (Option yz4)) (E : Nat → Nat → Option yz4) (ρ0 : List Slot) (p : Nat) : Fr :=
 ⟨lv, E, E, L, fun i => i < L.length ∧ ∀ (k : Nat) (sl0 : Slot), ρ0[k]? = some sl0 → sl0.k ≠ some i, ρ0.take p⟩
theorem zyi {L : List (Option yz4)} {E : Nat → Nat → Option yz4} {ρ0 ρ' : List Slot} {p : Nat} {os : List OSh} {y : HL D.T (z13 os)} {τ : St} (hR : TRr D (z73 lv L E ρ0 p) ρ' ts τ) (ho : ts.o = z6m D (fun k => k) os 0 y) (hnx : ts.nx = os.length) :
  τ.H = ⟨lv, τ.H.L, E⟩ ∧ Left D lv L ρ0 p τ.H.L ρ' os y := by
 have hlen' : ρ'.length = os.length := by rw [hR.nx, hnx]
 have live : ∀ s sl, ρ'[s]? = some sl → ∃ o, fnd ts.o s = some o ∧ o.live := fun s sl hs => by
  rw [ho]; exact y0o os (Nat.zero_le _) (by rw [Nat.zero_add, ← hlen']; exact (List.getElem?_eq_some_iff.1 hs).1)
 refine ⟨zsd (F := z73 lv L E ρ0 p) τ.H hR.lv hR.E, hlen', fun j o hm => ?_, fun s s' sl sl' i r1 r2 c1 c2 => ?_, fun s sl i r1 c1 => ?_, fun i hi hno => hR.out i ⟨hi, hno⟩, fun j sl hj hs => ?_⟩
 ·exact hR.ob j o (by rw [ho]; exact y0x os hm)
 ·obtain ⟨o, a1, a2⟩ := live s sl r1
  obtain ⟨o', b1, b2⟩ := live s' sl' r2
  exact hR.inj s s' o o' sl sl' i a1 b1 a2 b2 r1 r2 c1 c2
 ·obtain ⟨o, a1, a2⟩ := live s sl r1
  have := hR.mine s o sl i a1 a2 r1 c1
  by_cases hlt : i < L.length
  ·right
   by_cases hex : ∃ (k : Nat) (sl0 : Slot), ρ0[k]? = some sl0 ∧ sl0.k = some i
   ·exact hex
   ·exact (this ⟨hlt, fun k sl0 e1 e2 => hex ⟨k, sl0, e1, e2⟩⟩).elim
  ·left; omega
 ·exact hR.pin j sl (by simp only [z73, List.getElem?_take]; rw [if_pos hj]; exact hs)
theorem y1u : ∀ (l : List Sh) (y : HL D.T (Sh.z3t l)), (z5g D (fun k => k) l y).length = l.length
 | [], _ => rfl
 | s :: l, y => by
   show (zje D (fun k => k) s (HL.fst _ y) :: z5g D (fun k => k) l (HL.snd _ y)).length = _
   rw [List.length_cons, y1u l, List.length_cons]
structure yk2 (D : Dat) (lv : Nat) (L : List (Option yz4)) (ρ0 : List Slot) (args : List Sh) (aos : List OSh) (x : HL D.T (Sh.z3t args ++ z13 aos)) (vargs : List V) : Prop where
 len : ρ0.length = aos.length
 args : VRL D ρ0 lv (z5g D (fun k => k) args (HL.fst _ x)) vargs
 ob : ∀ j o, (j, o) ∈ z6m D (fun k => k) aos 0 (HL.snd _ x) → ∃ sl, ρ0[j]? = some sl ∧ OR D ρ0 lv L sl o
 inj : ∀ (s s' : Nat) (sl sl' : Slot) (i : Nat), ρ0[s]? = some sl → ρ0[s']? = some sl' → sl.k = some i → sl'.k = some i → s = s'
theorem yk2.entry {L : List (Option yz4)} {E : Nat → Nat → Option yz4} {ρ0 : List Slot} {args : List Sh} {aos : List OSh} {x : HL D.T (Sh.z3t args ++ z13 aos)} {vargs : List V} (h : yk2 D lv L ρ0 args aos x vargs) (p : Nat) {nt : Nat} (hargs : args.length ≤ nt) :
  TRr D (z73 lv L E ρ0 p) ρ0 (entry D args aos nt x) ⟨vargs ++ List.replicate (nt - vargs.length) .any, ⟨lv, L, E⟩, [], E⟩ := by
 have hvl : vargs.length = args.length := by rw [← h.args.length]; exact y1u _ _
 refine ⟨h.len, by simp only [Ab.entry, List.length_append, List.length_replicate]; omega, zrp _ h.args, fun s o ho => h.ob s o (z6w ho), fun s s' o o' sl sl' i a1 a2 l1 l2 r1 r2 => h.inj s s' sl sl' i r1 r2, fun s o sl i a1 l1 r1 hk ho => ho.2 s sl r1 hk, rfl, rfl, rfl, rfl, fun i hi => ⟨hi.1, rfl⟩, fun j sl hj => ?_⟩
 simp only [z73, List.getElem?_take] at hj
 split at hj
 ·exact hj
 ·cases hj
def ysu (D : Dat) (lv : Nat) : (m : Option Sh) → HL D.T (zu2 m) → z1k → Prop
 | none, _, am => am = .ret
 | some s, x, am => ∃ v, am = .pan v false ∧ VR D [] lv (zje D (fun k => k) s x) v
def zll.Ok (P : Program) (de : zll D) : Prop := ∀ x mx y, de.go x mx = some y → ∀ (lv : Nat) (L : List (Option yz4)) (E : Nat → Nat → Option yz4) (ρ0 : List Slot) (vargs : List V), yk2 D lv L ρ0 de.args de.aos x vargs →
 ∀ (am : z1k), ysu D lv de.m mx am → ∀ (W : World) (g : Gh) (cargs : Array Value) (u : FrameMode), Good W g ⟨lv, L, E⟩ → zjp W g ⟨lv, L, E⟩ vargs cargs → ze5 W g ⟨lv, L, E⟩ am u →
  (∀ w, (callFunc de.f cargs).run P w = .ok (.enter de.f cargs) w) ∧ CallsD P de.f cargs u W (fun e u' W' => ∃ v L' g' ρ', e = .returned v ∧ Step W g ⟨lv, L, E⟩ W' g' ⟨lv, L', E⟩ ∧ Good W' g' ⟨lv, L', E⟩ ∧ settle u' = .returning ∧ Left D lv L ρ0 de.aos.length L' ρ' de.ros y)
def yrj (D : Dat) (ρ : List Slot) (lv : Nat) (z : Option (TV D.T)) (am : z1k) : Prop := match z with
 | none => am = .ret
 | some z => ∃ v, am = .pan v false ∧ VR D ρ lv z v
theorem y8i (hD : D.Ok P) {m : Option Sh} {z : Option (TV D.T)} {mx : HL D.T (zu2 m)} (h : ych D m z = some mx) {am : z1k} (hz : yrj D ρ lv z am) : ysu D lv m mx am := by
 cases m with
 | none =>
   cases z with
   | none => exact hz
   | some z => cases h
 | some s =>
   cases z with
   | none => cases h
   | some z =>
     simp only [ych] at h
     split at h
     · rename_i M x hx
       injection h with h; subst h
       obtain ⟨v, h1, h2⟩ := hz
       obtain ⟨a1, a2, a3⟩ := zlx hD s hx h2
       refine ⟨v, h1, a3 [] fun k src hk => ?_⟩
       have hM := a2 ⟨fun k src h => by simp [fnd] at h, fun k k' s h => by simp [fnd] at h, fun k src h => by cases h⟩
       exact absurd (hM.lt k src hk) (by omega)
     · cases h
theorem yb4 {am : z1k} (h : am = .ret ∨ ∃ v, am = .pan v false) : am.zdx.settle = .ret := by
 rcases h with rfl | ⟨v, rfl⟩ <;> rfl
theorem y27 (hD : D.Ok P) {des : List (zll D)} (hdes : ∀ de ∈ des, de.Ok P) {fn : Func} {tm : Array Value} {k : TS D.T → Option R} {kp : TV D.T → TS D.T → Option R} {r : R} {R' : Ending → World → Prop} {W0 : World} {g0 : Gh} {H0 : Heap}
  (hk : ∀ ts σ ρ a W g, TRr D F ρ ts σ → kzh W a g σ → Step W0 g0 H0 W g σ.H → a.tmps = tm → k ts = some r → ∃ c, (results fn tm).run P W = .ok c W ∧ R' (.returned c) W)
  (hkp : ∀ z ts σ ρ a W g v c, TRr D F ρ ts σ → kzh W a g σ → Step W0 g0 H0 W g σ.H → VR D ρ F.lv z v → Rel W g σ.H v c → kp z ts = some r → R' (.panicked [{ v := c, recovered := false }]) W) :
  ∀ (l : List (Nat × List (TV D.T))) (z : Option (TV D.T)) (am : z1k) (ts : TS D.T) (σ : St) (ρ : List Slot) (a : Act) (W : World) (g : Gh) (u : FrameMode), ts.d = l → TRr D F ρ ts σ → kzh W a g σ → Step W0 g0 H0 W g σ.H → a.tmps = tm → ze5 W g σ.H am u →
   yrj D ρ F.lv z am → zem D des k kp l z ts = some r → Leaves P fn tm R' a.defers u W
 | [], z, am, ts, σ, ρ, a, W, g, u, hd, hR, hG, hS, htm, hM, hz, h => by
   have hd0 : σ.d = [] := by have := hR.d; rw [hd] at this; exact this
   have hd1 : a.defers = [] := List.eq_nil_of_length_eq_zero (by rw [hG.dlen, hd0]; rfl)
   rw [hd1]
   cases z with
   | none =>
     have hz : am = .ret := hz
     subst hz
     have hu : u = .returning := hM
     subst hu
     exact hk ts σ ρ a W g hR hG hS htm h
   | some z =>
     obtain ⟨v, rfl, hv⟩ := hz
     obtain ⟨c, h1, h2⟩ := hM
     subst h1
     exact hkp z ts σ ρ a W g v c hR hG hS hv h2 h
 | (f, vs) :: l, z, am, ts, σ, ρ, a, W, g, u, hd, hR, hG, hS, htm, hM, hz, h => by
   simp only [zem] at h
   have hdl := hR.d
   rw [hd] at hdl
   obtain ⟨vargs, s, hs1, hs2, hs3⟩ := hdl
   obtain ⟨caps, as, k1, k2⟩ := hG.defs 0 f vargs (by rw [hs1]; rfl)
   obtain ⟨d0, ds0, hds⟩ : ∃ d0 ds0, a.defers = d0 :: ds0 := by
     cases hq : a.defers with
     | nil => rw [hq] at k1; cases k1
     | cons d0 ds0 => exact ⟨d0, ds0, rfl⟩
   rw [hds] at k1
   simp only [List.getElem?_cons_zero, Option.some.injEq] at k1
   subst k1
   have look : ∀ des' : List (zll D), (∀ de ∈ des', de ∈ des) → y0w D f vs z ts (fun ts' => zem D des k kp l none { ts' with d := l }) des' = some r → Leaves P fn tm R' a.defers u W := fun des' => by
     induction des' with
     | nil => intro _ h; cases h
     | cons de rest ih =>
       intro hmem h
       have ih := ih fun e he => hmem e (List.mem_cons_of_mem _ he)
       simp only [y0w] at h
       split at h
       · exact ih h
       · rename_i hf
         have hf := Nat.eq_of_beq_eq_true hf
         split at h
         · exact ih h
         · rename_i mx hmx
           split at h
           · rename_i M x hfit
             split at h
             · rename_i hc
               obtain ⟨c1, c2⟩ := hc
               obtain ⟨y, hy, h⟩ := zbw h
               obtain ⟨hMok, ρ0, d1, d2, d3, d4, d5⟩ := Ent.zop hD hR (e := de.ent) hs2 hfit
               have hp : ∀ k, k < de.aos.length → ∃ s, fnd M k = some (.slot s) := fun k hk => by
                 have := List.all_eq_true.1 c2 k (List.mem_range.2 hk)
                 split at this
                 · rename_i s hs; exact ⟨s, hs⟩
                 · cases this
               have hHeap : σ.H = ⟨F.lv, σ.H.L, F.E⟩ := zsd σ.H hR.lv hR.E
               have hgiven : yk2 D F.lv σ.H.L ρ0 de.args de.aos x vargs := ⟨d1, d4, d5, zyy hR hMok d3⟩
               have hde := hdes de (hmem de List.mem_cons_self)
               have hmode : am = .ret ∨ ∃ v, am = .pan v false := by
                 cases z with
                 | none => exact .inl hz
                 | some z => obtain ⟨v, h1, _⟩ := hz; exact .inr ⟨v, h1⟩
               have hG0 := hG.good
               rw [hHeap] at hG0 k2 hM
               obtain ⟨e1, e2⟩ := hde x mx y hy F.lv σ.H.L F.E ρ0 vargs hgiven am (y8i hD hmx hz) W g (as ++ caps) u hG0 k2 hM
               rw [hf] at e1 e2
               rw [hds]
               have hu : u ≠ .run := hM.run
               refine leaves_cons hu (by show (callFunc f (as ++ caps)).run P W = _; exact e1 W) (e2.mono fun e u' W' ⟨v, L', g', ρ', q1, q2, q3, q4, q5⟩ => ?_)
               subst q1
               rw [← hHeap] at q2
               obtain ⟨g1, g2⟩ := TRr.after hR hD hMok d2 d3 (fun k s hm => hMok.one k _ hm) hp c1 q5
               have hR2 : TRr D F (ρ ++ ρ'.drop de.aos.length) { zbt D M de.aos.length ts de.ros y with d := l } { σ with H := ⟨F.lv, L', F.E⟩, d := s } := by
                 have hd2 : DfL D ρ F.lv l s := hs3
                 exact ⟨g1.nx, g1.nt, g1.tm, g1.ob, g1.inj, g1.mine, g1.lv, g1.E, g1.e0, hd2.more _, g1.out, g1.pin⟩
               have hG2 : kzh W' { a with defers := ds0 } g' { σ with H := ⟨F.lv, L', F.E⟩, d := s } := by
                 have hl := hG.dlen
                 rw [hds, hs1] at hl
                 refine ⟨q3, hG.size, fun j v hj => (hG.tmps j v hj).mono q2, by simpa using hl, fun j f' vs' hj => ?_⟩
                 obtain ⟨caps', as', z1, z2⟩ := hG.defs (j + 1) f' vs' (by rw [hs1]; simpa using hj)
                 exact ⟨caps', as', by rw [hds] at z1; simpa using z1, z2.mono q2⟩
               exact y27 hD hdes hk hkp l none .ret _ { σ with H := ⟨F.lv, L', F.E⟩, d := s } _ { a with defers := ds0 } W' g' (settle u') rfl hR2 hG2 (hS.trans q2) htm q4 rfl h
             · cases h
           · exact ih h
   exact look des (fun de h => h) h
def EndQP (D : Dat) (F : Fr) {Z : Type} (K : Ks D.T Z) (r : Z) (e : kz8) (σ : St) : Prop :=
 match e with
 | .normal => ∃ ts, TR D F ts σ ∧ K.kn ts = some r
 | .ret => ∃ ts, TR D F ts σ ∧ K.kr ts = some r
 | .panic v => ∃ ts ρ z, TRr D F ρ ts σ ∧ VR D ρ F.lv z v ∧ K.kp z ts = some r
 | .exit _ => False
theorem ytc {Z : Type} {K : Ks D.T Z} (hkx : K.kx = []) {r : Z} : KOk D F K (EndQP D F K r) r :=
 ⟨fun ts σ hT h => ⟨ts, hT, h⟩, fun id k ts σ h => by rw [hkx] at h; simp [fnd] at h, fun ts σ hT h => ⟨ts, hT, h⟩, fun z ts σ ρ v hR hv h => ⟨ts, ρ, z, hR, hv, h⟩⟩
theorem zyt (hD : D.Ok P) {Z : Type} {f p nt : Nat} {args : List Sh} {aos : List OSh} {fn : Func} {code : Code} {l : LSh} {kret : HL D.T l.tys → Z} {kpan : TV D.T → TS D.T → Option Z} {des : List (zll D)} {go : HL D.T (Sh.z3t args ++ z13 aos) → Option Z} {K : Ks D.T Z}
  (hf : P.funcs[f]? = some fn) (hb : fn.body = some code) (hnt : fn.ntmps = nt) (hent : ∀ args w, (callFunc f args).run P w = .ok (.enter f args) w) (hargs : args.length ≤ nt) (hp1 : p ≤ l.pin) (hp2 : l.pin ≤ l.os.length)
  (hK : K = ⟨fun ts => zem D des (l.enter D (fun x => some (kret x)) 9) kpan ts.d none ts, [], fun ts => zem D des (l.enter D (fun x => some (kret x)) 9) kpan ts.d none ts, fun z ts => zem D des (l.enter D (fun x => some (kret x)) 9) kpan ts.d (some z) ts⟩)
  (hdes : ∀ de ∈ des, de.Ok P) (hrun : yin P D code p args aos nt K go) {x : HL D.T (Sh.z3t args ++ z13 aos)} {z0 : Z} (hz : go x = some z0) {lv : Nat} {L : List (Option yz4)} {E : Nat → Nat → Option yz4} {ρ0 : List Slot} {vargs : List V} (hg : yk2 D lv L ρ0 args aos x vargs) {Post : Out → Heap → Prop}
  (hret : ∀ y υ ρ', kret y = z0 → TRr D (z73 lv L E ρ0 p) ρ' (l.bld D y) υ → ∃ vs, zqb P υ fn.results.toList = some vs ∧ Post (.ret (za2 vs)) υ.H)
  (hpan : ∀ z ts σ ρ v, TRr D (z73 lv L E ρ0 p) ρ ts σ → VR D ρ lv z v → kpan z ts = some z0 → Post (.pan v) σ.H) : zny P f vargs ⟨lv, L, E⟩ Post := fun W g cargs hG hA => by
 subst hnt
 refine ⟨hent cargs W, calls_of_wp_defers hf hb ?_⟩
 have hpl : (z73 lv L E ρ0 p).pin.length ≤ p := by simp only [z73, List.length_take]; omega
 have hkx : K.kx = [] := by rw [hK]
 have hsat := hrun (z73 lv L E ρ0 p) _ z0 hpl (ytc (K := K) hkx) x _ (hg.entry (E := E) p hargs).tr hz
 refine wp_mono (hsat W g ⟨lv, L, E⟩ W _ g ⟨hG⟩ ⟨rfl, .refl _ _ _⟩ (zes hG hA)) fun ex a W' ⟨g1, σ, e', q1, q2, q3, q4⟩ => ?_
 let PostE : Ending → World → Prop := fun en W' => ∃ o H' g', Post o H' ∧ Step W g ⟨lv, L, E⟩ W' g' H' ∧ Good W' g' H' ∧ y5a W' g' H' o en
 have done : ∀ (z : Option (TV D.T)) (am : z1k) (u : FrameMode) (ts : TS D.T) (τ : St) (ρ : List Slot) (g2 : Gh), TRr D (z73 lv L E ρ0 p) ρ ts τ → kzh W' a g2 τ → Step W g ⟨lv, L, E⟩ W' g2 τ.H → ze5 W' g2 τ.H am u → yrj D ρ lv z am →
   zem D des (l.enter D (fun x => some (kret x)) 9) kpan ts.d z ts = some z0 → Leaves P fn a.tmps PostE a.defers u W' := fun z am u ts τ ρ g2 hR hG2 hS2 hM hz hl => by
  refine y27 (F := z73 lv L E ρ0 p) (R' := PostE) (W0 := W) (g0 := g) (H0 := ⟨lv, L, E⟩) hD hdes (fun ts σ ρ a W2 g2 t1 t2 t3 t4 t5 => ?_) (fun z ts σ ρ a W2 g2 v c t1 t2 t3 t4 t5 t6 => ?_) ts.d z am ts τ ρ a W' g2 u rfl hR hG2 hS2 rfl hM hz hl
  ·obtain ⟨y, hy, υ, ρ', w1, w2⟩ := LSh.zez hD (by omega) hp2 t1.tr t5
   injection hy with hy
   obtain ⟨g3, w3, w4⟩ := w1 W g ⟨lv, L, E⟩ W2 a g2 ⟨hG⟩ ⟨t1.e0, t3⟩ t2
   obtain ⟨vs, r1, r2⟩ := hret y υ ρ' hy w2
   obtain ⟨c, z1, z2⟩ := z5h (P := P) (fn := fn) (v := za2 vs) w4 (by simp only [z2j, r1, Option.map_some])
   rw [t4] at z1
   exact ⟨c, z1, .ret (za2 vs), υ.H, g3, r2, w3.2, w4.good, c, rfl, z2⟩
  ·exact ⟨.pan v, σ.H, g2, hpan z ts σ ρ v t1 t4 t6, t3, t2.good, c, rfl, t5⟩
 have back : ∀ {ts : TS D.T}, TR D (z73 lv L E ρ0 p) ts σ → zem D des (l.enter D (fun x => some (kret x)) 9) kpan ts.d none ts = some z0 → Leaves P fn a.tmps PostE a.defers .returning W' := fun {ts} hT hl => by
  obtain ⟨τ, ρ, w1, w2⟩ := hT
  obtain ⟨g2, w3, w4⟩ := w1 W g ⟨lv, L, E⟩ W' a g1 ⟨hG⟩ q2 q3
  exact done none .ret .returning ts τ ρ g2 w2 w4 w3.2 rfl rfl hl
 subst hK
 cases q1 with
 | normal => obtain ⟨ts, hT, hl⟩ := q4; exact back hT hl
 | ret => obtain ⟨ts, hT, hl⟩ := q4; exact back hT hl
 | exit id => exact q4.elim
 | panic v c hr =>
   obtain ⟨ts, ρ, z, hR, hv, hl⟩ := q4
   exact done (some z) (.pan v false) _ ts σ ρ g1 hR q3 q2.2 ⟨c, rfl, hr⟩ ⟨v, rfl, hv⟩ hl
theorem ysv (hD : D.Ok P) {e : Ent D} {fn : Func} {code : Code} {nt : Nat} {l : LSh} {pack : HL D.T l.tys → R} {un : R → HL D.T (Sh.z3t e.outs ++ z13 e.ros)} {des : List (zll D)}
  {go : HL D.T (Sh.z3t e.args ++ z13 e.aos) → Option (Res (HL D.T (e.pan.tys ++ z13 e.pos)) R)}
  (hf : P.funcs[e.f]? = some fn) (hb : fn.body = some code) (hnt : fn.ntmps = nt) (hent : ∀ args w, (callFunc e.f args).run P w = .ok (.enter e.f args) w) (hargs : e.args.length ≤ nt)
  (hgo : ∀ (R' : Type) (x : HL D.T (Sh.z3t e.args ++ z13 e.aos)) (k : HL D.T (Sh.z3t e.outs ++ z13 e.ros) → Option R') (kp : HL D.T (e.pan.tys ++ z13 e.pos) → Option R'), e.go x k kp = (go x).bind fun o => zh5 o (fun r => k (un r)) (fun y => kp y))
  (hpure : e.pure = false) (hren : e.ren = []) (hp1 : e.p ≤ l.pin) (hp2 : l.pin ≤ l.os.length) (hlen : l.os.length = e.ros.length) (hp3 : e.p ≤ e.pos.length)
  (hout : ∀ x, y0a P D (l.bld D x) fn.results.toList = some (z5g D (fun k => k) e.outs (HL.fst _ (un (pack x)))) ∧ (l.bld D x).o = z6m D (fun k => k) e.ros 0 (HL.snd _ (un (pack x))))
  (hdes : ∀ de ∈ des, de.Ok P) (hrun : yin P D code e.p e.args e.aos nt (yo3 D des l pack e.pan e.pos e.p (fun y => y)) go) : e.Ok P := fun R' x k kp r h => by
 rw [hpure]
 rw [hgo] at h
 obtain ⟨o0, h1, h2⟩ := zwj h
 cases o0 with
 | ok r0 =>
   refine .inl ⟨un r0, h2, fun lv L E ρ0 vargs k1 k2 k3 k4 => zyt (p := e.p) hD hf hb hnt hent hargs hp1 hp2 rfl hdes hrun h1 ⟨k1, k2, k3, k4⟩ (fun y υ ρ' hy w2 => ?_) fun z ts σ ρ v _ _ hk => ?_⟩
   · injection hy with hy
     subst hy
     obtain ⟨o1, o2⟩ := hout y
     obtain ⟨vs, r1, r2⟩ := zhw hD w2 o1
     obtain ⟨l1, l2⟩ := zyi w2 o2 hlen
     exact ⟨vs, r1, υ.H.L, ρ', l1, l2, (by rw [hren]; intro q hq; cases hq), vs, rfl, r2⟩
   · unfold yt5 at hk
     split at hk <;> cases hk
 | pan y0 =>
   refine .inr ⟨y0, h2, fun lv L E ρ0 vargs k1 k2 k3 k4 => zyt (p := e.p) hD hf hb hnt hent hargs hp1 hp2 rfl hdes hrun h1 ⟨k1, k2, k3, k4⟩ (fun y υ ρ' hy w2 => (by cases hy)) fun z ts σ ρ v t1 t4 hk => ?_⟩
   unfold yt5 at hk
   split at hk
   · rename_i y hy
     injection hk with hk; injection hk with hk
     subst hk
     have hpl : (z73 lv L E ρ0 e.p).pin.length ≤ e.p := by simp only [z73, List.length_take]; omega
     obtain ⟨ρ', w1, w2⟩ := yfg hD t1 hpl hp3 t4 hy
     obtain ⟨l1, l2⟩ := zyi w1 rfl rfl
     exact ⟨σ.H.L, ρ', l1, l2, v, rfl, w2⟩
   · cases hk
theorem ysw (hD : D.Ok P) {e : Ent D} {fn : Func} {code : Code} {nt : Nat} {l : LSh} {pack : HL D.T l.tys → R} {un : R → HL D.T (Sh.z3t e.outs ++ z13 e.ros)} {des : List (zll D)} {go : HL D.T (Sh.z3t e.args ++ z13 e.aos) → Option R}
  (hf : P.funcs[e.f]? = some fn) (hb : fn.body = some code) (hnt : fn.ntmps = nt) (hent : ∀ args w, (callFunc e.f args).run P w = .ok (.enter e.f args) w) (hargs : e.args.length ≤ nt)
  (hgo : ∀ (R' : Type) (x : HL D.T (Sh.z3t e.args ++ z13 e.aos)) (k : HL D.T (Sh.z3t e.outs ++ z13 e.ros) → Option R') (kp : HL D.T (e.pan.tys ++ z13 e.pos) → Option R'), e.go x k kp = (go x).bind fun r => k (un r))
  (hpure : e.pure = false) (hren : e.ren = []) (hp1 : e.p ≤ l.pin) (hp2 : l.pin ≤ l.os.length) (hlen : l.os.length = e.ros.length)
  (hout : ∀ x, y0a P D (l.bld D x) fn.results.toList = some (z5g D (fun k => k) e.outs (HL.fst _ (un (pack x)))) ∧ (l.bld D x).o = z6m D (fun k => k) e.ros 0 (HL.snd _ (un (pack x))))
  (hdes : ∀ de ∈ des, de.Ok P) (hrun : yin P D code e.p e.args e.aos nt (yol D des l pack) go) : e.Ok P := fun R' x k kp r h => by
 rw [hpure]
 rw [hgo] at h
 obtain ⟨r0, h1, h2⟩ := zwj h
 refine .inl ⟨un r0, h2, fun lv L E ρ0 vargs k1 k2 k3 k4 => zyt (p := e.p) hD hf hb hnt hent hargs hp1 hp2 rfl hdes hrun h1 ⟨k1, k2, k3, k4⟩ (fun y υ ρ' hy w2 => ?_) fun z ts σ ρ v _ _ hk => (by cases hk)⟩
 subst hy
 obtain ⟨o1, o2⟩ := hout y
 obtain ⟨vs, r1, r2⟩ := zhw hD w2 o1
 obtain ⟨l1, l2⟩ := zyi w2 o2 hlen
 exact ⟨vs, r1, υ.H.L, ρ', l1, l2, (by rw [hren]; intro q hq; cases hq), vs, rfl, r2⟩
theorem yvg (hD : D.Ok P) {f : Nat} {fn : Func} {code : Code} {nt : Nat} {args : List Sh} {aos ros : List OSh} {l : LSh} {pack : HL D.T l.tys → R} {un : R → HL D.T (z13 ros)} {go : HL D.T (Sh.z3t args ++ z13 aos) → Option R}
  (hf : P.funcs[f]? = some fn) (hb : fn.body = some code) (hnt : fn.ntmps = nt) (hent : ∀ args w, (callFunc f args).run P w = .ok (.enter f args) w) (hargs : args.length ≤ nt)
  (hp1 : aos.length ≤ l.pin) (hp2 : l.pin ≤ l.os.length) (hlen : l.os.length = ros.length) (hres : fn.results.toList = []) (hout : ∀ x, (l.bld D x).o = z6m D (fun k => k) ros 0 (un (pack x)))
  (hrun : yin P D code aos.length args aos nt (y1b D l pack) go) : zll.Ok P { f := f, args := args, aos := aos, m := none, ros := ros, go := fun x _ => (go x).bind fun r => some (un r) } := fun x mx y hgo lv L E ρ0 vargs hg am hm W g cargs u hG hA hM => by
 obtain ⟨r, h1, h2⟩ := zwj hgo
 injection h2 with h2
 have hm : am = .ret := hm
 subst hm
 have hu : u = .returning := hM
 subst hu
 subst hnt
 refine ⟨fun w => hent cargs w, (callsD_of_wp (R := fun e W' => ∃ v L' g' ρ', e = .returned v ∧ Step W g ⟨lv, L, E⟩ W' g' ⟨lv, L', E⟩ ∧ Good W' g' ⟨lv, L', E⟩ ∧ Left D lv L ρ0 aos.length L' ρ' ros y) hf hb ?_).mono fun e u' W' ⟨q1, v, L', g', ρ', q2, q3, q4, q5⟩ => ⟨v, L', g', ρ', q2, q3, q4, by rw [q1]; rfl, q5⟩⟩
 have hpl : (z73 lv L E ρ0 aos.length).pin.length ≤ aos.length := by simp only [z73, List.length_take]; omega
 refine wp_mono (hrun (z73 lv L E ρ0 aos.length) _ r hpl (y3z hD (by omega) hp2) x _ (hg.entry (E := E) aos.length hargs).tr h1 W g ⟨lv, L, E⟩ W _ g ⟨hG⟩ ⟨rfl, .refl _ _ _⟩ (zes hG hA)) fun ex a W' ⟨g1, σ, e', q1, q2, q3, q4⟩ => ?_
 have key : (∃ x, pack x = r ∧ TR D (z73 lv L E ρ0 aos.length) (l.bld D x) σ) → a.defers = [] ∧ ∃ v, (results fn a.tmps).run P W' = .ok v W' ∧ ∃ v' L' g' ρ', Ending.returned v = .returned v' ∧ Step W g ⟨lv, L, E⟩ W' g' ⟨lv, L', E⟩ ∧ Good W' g' ⟨lv, L', E⟩ ∧ Left D lv L ρ0 aos.length L' ρ' ros y := fun ⟨z, hz, υ, ρ', w1, w2⟩ => by
  subst hz
  obtain ⟨g3, w3, w4⟩ := w1 W g ⟨lv, L, E⟩ W' a g1 ⟨hG⟩ q2 q3
  obtain ⟨c, z1, z2⟩ := z5h (P := P) (fn := fn) (v := za2 []) w4 (by simp only [z2j, hres, zqb, Option.map_some])
  obtain ⟨l1, l2⟩ := zyi w2 (hout z) hlen
  have hd : υ.d = [] := w2.d
  rw [h2] at l2
  have w5 := w3.2
  have w6 := w4.good
  rw [l1] at w5 w6
  exact ⟨List.eq_nil_of_length_eq_zero (by rw [w4.dlen, hd]; rfl), c, z1, c, υ.H.L, g3, ρ', rfl, w5, w6, l2⟩
 cases q1 with
 | normal => exact key q4
 | ret => exact key q4
 | exit id => exact q4.elim
 | panic v c hr => exact q4.elim
def mvOf (D : Dat) : (m : Option Sh) → HL D.T (zu2 m) → TV D.T
 | none, _ => .nili
 | some s, x => zje D (fun k => k) s x
theorem yq1 {tbl : List (Ent D)} {J : Nat → TS D.T → Option R} {mv : TV D.T} {c : AC} {K : Ks D.T R} {r : R} (h : runS D P tbl J mv c ts K = some r) :
  ∃ id ops b o rest ts1, c = .seq (.region id ops false) b ∧ ops.toList = o :: rest ∧ isRec o = true ∧ ts.put D o.dst mv = some ts1 ∧ zp8 P D tbl ops.toList (fun ts => run P D tbl J b ts K) K.kp rest ts1 = some r := by
 unfold runS at h
 split at h
 ·split at h
  ·rename_i hl
   split at h
   ·rename_i hrec
    split at h
    ·rename_i ts1 hput
     exact ⟨_, _, _, _, _, ts1, rfl, hl, hrec, hput, h⟩
    ·cases h
   ·cases h
  ·cases h
 ·cases h
theorem ykd (hm : P.follows .mixedOrders = true) (hD : D.Ok P) {f : Nat} {fn : Func} {c : AC} {nt : Nat} {args : List Sh} {aos ros : List OSh} {m : Option Sh} {l : LSh} {pack : HL D.T l.tys → R} {un : R → HL D.T (z13 ros)} {go : HL D.T (Sh.z3t args ++ z13 aos) → HL D.T (zu2 m) → Option R}
  (hf : P.funcs[f]? = some fn) (hb : fn.body = some c.erase) (hnt : fn.ntmps = nt) (hent : ∀ args w, (callFunc f args).run P w = .ok (.enter f args) w) (hargs : args.length ≤ nt)
  (hp1 : aos.length ≤ l.pin) (hp2 : l.pin ≤ l.os.length) (hlen : l.os.length = ros.length) (hres : fn.results.toList = []) (hlab : c.labels = []) (hmode : (match m with | some (.iface _ _) => true | some _ => false | none => true) = true) (hout : ∀ x, (l.bld D x).o = z6m D (fun k => k) ros 0 (un (pack x)))
  (hgo : ∀ x mx, go x mx = runS D P [] (fun _ _ => none) (mvOf D m mx) c (entry D args aos nt x) (y1b D l pack)) : zll.Ok P { f := f, args := args, aos := aos, m := m, ros := ros, go := fun x mx => (go x mx).bind fun r => some (un r) } := fun x mx y hgo' lv L E ρ0 vargs hg am ham W g cargs u hG hA hM => by
 obtain ⟨r, h1, h2⟩ := zwj hgo'
 injection h2 with h2
 subst hnt
 rw [hgo] at h1
 refine ⟨fun w => hent cargs w, callsD_of_wpS hf hb fun c₀ cs hu => ?_⟩
 let F := z73 lv L E ρ0 aos.length
 have hpl : F.pin.length ≤ aos.length := by simp only [F, z73, List.length_take]; omega
 have hK : KOk D F (y1b D l pack) (yg3 D F l pack r) r := y3z hD (by omega) hp2
 have hR0 : TRr D F ρ0 (entry D args aos fn.ntmps x) _ := hg.entry (E := E) aos.length hargs
 have hmv : VR D ρ0 F.lv (mvOf D m mx) am.value := by
  cases m with
  | none => have ham : am = .ret := ham; subst ham; simp only [mvOf, z1k.value, VR]
  | some s => obtain ⟨v, h3, h4⟩ := ham; subst h3; exact (h4.more ρ0 : VR D ([] ++ ρ0) lv _ v)
 obtain ⟨id, ops, b, o, rest, ts1, rfl, hl, hrec, hput, h1⟩ := yq1 h1
 have ho : ops[0]? = some o := by
  have := congrArg (fun x => x[0]?) hl
  simpa using this
 have hsz : ops.size = rest.length + 1 := by
  have := congrArg List.length hl
  simpa using this
 have hlab' : b.labels = [] := by
  simp only [AC.labels, List.nil_append] at hlab; exact hlab
 have z8d : y0y P (LOk P D F (fun _ _ => none) r) b (yg3 D F l pack r) := zih (by rw [hlab']; exact .nil) fun l' a Q' hs => by
  have := zbm hs; rw [hlab'] at this; cases this
 have behind : ∀ (σ' : St) (ts' : TS D.T) (ρ' : List Slot), TRr D F ρ' ts' σ' → run P D [] (fun _ _ => none) b ts' (y1b D l pack) = some r → ∀ (W' : World) (a' : Act) (g' : Gh) (u' : FrameMode), Step W g ⟨lv, L, E⟩ W' g' σ'.H → kzh W' a' g' σ' → ze5 W' g' σ'.H am.zdx u' →
   b.erase.wpS P (zjw W g ⟨lv, L, E⟩ c₀ cs (yg3 D F l pack r) am.zdx) a' ({ c₀ with mode := u' } :: cs) W' := fun σ' ts' ρ' hR' hrun W' a' g' u' hS' hG' hM' => by
  have hs := z9e (J := fun _ _ => none) (tbl := []) (c := b) hD (fun e he => by cases he) hK z8d hR'.tr hrun
  refine wpS_of_wp (wp_mono (hs W' g' σ'.H W' a' g' ⟨hG'.good⟩ ⟨by rw [hR'.e0, hR'.E]; rfl, .refl _ _ _⟩ hG') fun e a'' W'' ⟨g'', σ'', e'', q1, q2, q3, q4⟩ => ?_)
  exact ⟨g'', σ'', e'', u', q1, ⟨by rw [q2.1, hR'.E]; rfl, hS'.trans q2.2⟩, q3, rfl, hM'.mono q2.2, q4⟩
 have fin : ∀ a0 : Act, kzh W a0 g ⟨vargs ++ List.replicate (fn.ntmps - vargs.length) .any, ⟨lv, L, E⟩, [], E⟩ → (AC.seq (.region id ops false) b).erase.wpS P (zjw W g ⟨lv, L, E⟩ c₀ cs (yg3 D F l pack r) am.zdx) a0 (c₀ :: cs) W := fun a0 hG0 => by
  refine wpS_seq (wpS_region ?_)
  rw [List.range_eq_range', hsz, List.range'_succ]
  simp only [wpOpsS, ho]
  unfold isRec at hrec
  split at hrec
  ·rename_i cl hop
   split at hrec
   ·rename_i hcal
    simp only [Bool.and_eq_true, Option.isNone_iff_eq_none, Array.isEmpty_iff] at hrec
    have hwant : Region.wanted o (yielded ops a0.tmps) = true := by unfold Region.wanted; rw [hrec.1]
    have hex : (execOp a0.eval o).run P W = .ok .recover W := by
     unfold execOp
     rw [hop]
     obtain ⟨callee, as, argTypes⟩ := cl
     simp only at hcal hrec
     obtain ⟨_, rfl⟩ := hrec
     subst hcal
     simp [resolve, invoke, builtin]
    rw [if_pos hwant, hex]
    simp only
    have rest' : ∀ (cv : Value) (u' : FrameMode), Rel W g ⟨lv, L, E⟩ am.value cv → ze5 W g ⟨lv, L, E⟩ am.zdx u' → wpOpsS P ops (Exit.thenS (b.erase.wpS P (zjw W g ⟨lv, L, E⟩ c₀ cs (yg3 D F l pack r) am.zdx)) (zjw W g ⟨lv, L, E⟩ c₀ cs (yg3 D F l pack r) am.zdx)) (List.range' (0 + 1) rest.length) (a0.put o.dst cv) ({ c₀ with mode := u' } :: cs) W := fun cv u' hv hM' => by
     have hR1 := hR0.put hput hmv
     have hG1 : kzh W (a0.put o.dst cv) g (St.put ⟨vargs ++ List.replicate (fn.ntmps - vargs.length) .any, ⟨lv, L, E⟩, [], E⟩ o.dst am.value) := hG0.next (.refl _ _ _) hG0.good hv o.dst
     have hs := zgl (Q := fun e σ' => e = .normal ∧ ∃ ts' ρ', TRr D F ρ' ts' σ' ∧ run P D [] (fun _ _ => none) b ts' (y1b D l pack) = some r) hD (tbl := []) (r := r) (fun e he => by cases he) (fun ts' σ' ρ' hR' hk => ⟨rfl, ts', ρ', hR', hk⟩) (fun z ts' σ' ρ' v _ _ hk => by cases hk) rest 1 (fun j => by
      have := congrArg (fun x => x[1 + j]?) hl
      simpa [Nat.add_comm 1 j] using this.symm) hR1 h1
     have hH : (St.put ⟨vargs ++ List.replicate (fn.ntmps - vargs.length) .any, ⟨lv, L, E⟩, [], E⟩ o.dst am.value).H = ⟨lv, L, E⟩ := by cases o.dst <;> rfl
     have he : (St.put ⟨vargs ++ List.replicate (fn.ntmps - vargs.length) .any, ⟨lv, L, E⟩, [], E⟩ o.dst am.value).e0 = E := by cases o.dst <;> rfl
     have hs2 := hs W g ⟨lv, L, E⟩ W (a0.put o.dst cv) g ⟨hG⟩ ⟨by rw [he], by rw [hH]; exact .refl _ _ _⟩ hG1
     rw [show ops.size - 1 = rest.length by omega] at hs2
     refine zdf (Q := Exit.thenS (b.erase.wpS P (zjw W g ⟨lv, L, E⟩ c₀ cs (yg3 D F l pack r) am.zdx)) (zjw W g ⟨lv, L, E⟩ c₀ cs (yg3 D F l pack r) am.zdx)) (fun a w h => zjw.out h) _ _ _ (zb7 (fun e a' W' ⟨g', σ', e', q1, q2, q3, q4⟩ => ?_) _ _ _ hs2)
     obtain ⟨rfl, ts', ρ', q5, q6⟩ := q4
     cases q1
     exact behind σ' ts' ρ' q5 q6 W' a' g' u' q2.2 q3 (hM'.mono q2.2)
    cases am with
    | ret =>
      have hmd : c₀.mode = .returning := by rw [hu]; exact hM
      have hrd : recoverD (c₀ :: cs) = none := by simp [recoverD, hmd]
      rw [hrd]
      exact rest' .nilIface c₀.mode .nili hmd
    | pan v rc =>
      have hrc : rc = false := by
        cases m with
        | none => cases (show z1k.pan v rc = .ret from ham)
        | some s => obtain ⟨v', h3, _⟩ := ham; injection h3
      subst hrc
      obtain ⟨cv, h3, h4⟩ := hM
      have h3 : c₀.mode = _ := hu.trans h3
      have hrd : recoverD (c₀ :: cs) = some (cv, { c₀ with mode := .panicking [{ v := cv, recovered := true }] } :: cs) := by simp [recoverD, h3]
      rw [hrd]
      exact rest' cv _ h4 ⟨cv, rfl, h4⟩
   ·cases hrec
  ·cases hrec
 refine zxg (fin _ (zes hG hA)) fun ex a' cs' W' ⟨g', σ', e', u', q1, q2, q3, q4, q5, q6⟩ => ?_
 subst q4
 have hmode : am = .ret ∨ ∃ v, am = .pan v false := by
  cases m with
  | none => exact .inl ham
  | some s => obtain ⟨v, h3, _⟩ := ham; exact .inr ⟨v, h3⟩
 have hset := q5.settle
 rw [yb4 hmode] at hset
 have key : (∃ x, pack x = r ∧ TR D F (l.bld D x) σ') → a'.defers = [] ∧ ∃ u'', ({ c₀ with mode := u' } :: cs : List Frame) = { c₀ with mode := u'' } :: cs ∧ ∃ v, (results fn a'.tmps).run P W' = .ok v W' ∧ ∃ v' L' g' ρ', Ending.returned v = .returned v' ∧ Step W g ⟨lv, L, E⟩ W' g' ⟨lv, L', E⟩ ∧ Good W' g' ⟨lv, L', E⟩ ∧ settle u'' = .returning ∧ Left D lv L ρ0 aos.length L' ρ' ros y := fun ⟨z, hz, υ, ρ', w1, w2⟩ => by
  subst hz
  obtain ⟨g3, w3, w4⟩ := w1 W g ⟨lv, L, E⟩ W' a' g' ⟨hG⟩ q2 q3
  obtain ⟨c, z1, z2⟩ := z5h (P := P) (fn := fn) (v := za2 []) w4 (by simp only [z2j, hres, zqb, Option.map_some])
  obtain ⟨l1, l2⟩ := zyi w2 (hout z) hlen
  have hd : υ.d = [] := w2.d
  rw [h2] at l2
  have w5 := w3.2
  have w6 := w4.good
  rw [l1] at w5 w6
  exact ⟨List.eq_nil_of_length_eq_zero (by rw [w4.dlen, hd]; rfl), u', rfl, c, z1, c, υ.H.L, g3, ρ', rfl, w5, w6, hset, l2⟩
 cases q1 with
 | normal => exact key q6
 | ret => exact key q6
 | exit id => exact q6.elim
 | panic v c hr => exact q6.elim
def FI.ofP (D : Dat) (f nt p : Nat) (args : List Sh) (aos : List OSh) (outs : List Sh) (ros : List OSh) (pan : Sh) (pos : List OSh) (des : List (zll D)) (l : LSh) {R : Type} (pack : HL D.T l.tys → R) (un : R → HL D.T (Sh.z3t outs ++ z13 ros))
  (go : Nat → HL D.T (Sh.z3t args ++ z13 aos) → Option (Res (HL D.T (pan.tys ++ z13 pos)) R)) (z8d : Nat → List (Nat × Lb D (Res (HL D.T (pan.tys ++ z13 pos)) R))) (c : AC) : FI D :=
 { R := Res (HL D.T (pan.tys ++ z13 pos)) R, ent := fun n => { f := f, p := p, args := args, aos := aos, outs := outs, ros := ros, pan := pan, pos := pos, pure := false, go := fun x k kp => (go n x).bind fun o => zh5 o (fun r => k (un r)) (fun y => kp y) },
   c := c, K := yo3 D des l pack pan pos p (fun y => y), p := p, args := args, aos := aos, nt := nt, z8d := z8d, go := go }
def ycc (P : Program) : List (zll D) → Prop
 | [] => True
 | d :: l => d.Ok P ∧ ycc P l
theorem ycc.get : ∀ {l : List (zll D)}, ycc P l → ∀ d ∈ l, d.Ok P
 | d :: l, h, e, he => by
   rcases List.mem_cons.1 he with rfl | he
   · exact h.1
   · exact ycc.get h.2 e he
def chkP (p nt : Nat) (args : List Sh) (ros pos : List OSh) (l : LSh) : Bool :=
 Nat.ble args.length nt && Nat.ble p l.pin && Nat.ble l.pin l.os.length && Nat.beq l.os.length ros.length && Nat.ble p pos.length
theorem FI.zp2 {hD : D.Ok P} {f nt p : Nat} {args : List Sh} {aos : List OSh} {outs : List Sh} {ros : List OSh} {pan : Sh} {pos : List OSh} {des : List (zll D)} {l : LSh} {pack : HL D.T l.tys → R} {un : R → HL D.T (Sh.z3t outs ++ z13 ros)}
  {go : Nat → HL D.T (Sh.z3t args ++ z13 aos) → Option (Res (HL D.T (pan.tys ++ z13 pos)) R)} {z8d : Nat → List (Nat × Lb D (Res (HL D.T (pan.tys ++ z13 pos)) R))} {c : AC} {tbl : Nat → List (Ent D)} {fn : Func}
  (hf : P.funcs[f]? = some fn) (hnt : fn.ntmps = nt) (hent : ∀ args w, (callFunc f args).run P w = .ok (.enter f args) w)
  (hb : fn.body = some c.erase) (hnd : c.labels.Nodup) (hchk : chkP p nt args ros pos l = true) (hp : ∀ n, ybu p (z8d n) = true) (hdes : ycc P des)
  (hout : ∀ x, y0a P D (l.bld D x) fn.results.toList = some (z5g D (fun k => k) outs (HL.fst _ (un (pack x)))))
  (hz : ∀ x, go 0 x = none) (hlz : y51 (fun _ lb => ∀ x, lb.go x = none) (z8d 0))
  (hs : ∀ n x, go (n + 1) x = run P D (tbl n) (jump D (z8d n)) c (entry D args aos nt x) (yo3 D des l pack pan pos p (fun y => y)))
  (hls : ∀ n, y51 (fun j lb => ∀ x, lb.go x = y73 P D (tbl n) (jump D (z8d n)) j c (yo3 D des l pack pan pos p (fun y => y)) (lb.sh.bld D x)) (z8d (n + 1)))
  (hros : ∀ x, (l.bld D x).o = z6m D (fun k => k) ros 0 (HL.snd _ (un (pack x)))) :
  (FI.ofP D f nt p args aos outs ros pan pos des l pack un go z8d c).Good P D tbl where
 nodup := hnd
 zero := hz
 lzero := fun j lb x h => hlz.get (z6w h) x
 pins := fun n j lb h => (zu3 (hp n)).get (z6w h)
 step := hs
 lstep := fun n j lb x h => (hls n).get (z6w h) x
 ok := fun n h => by
  simp only [chkP, Bool.and_eq_true, Nat.ble_eq] at hchk
  obtain ⟨⟨⟨⟨h1, h2⟩, h3⟩, h4⟩, h5⟩ := hchk
  exact ysv (l := l) (pack := pack) (un := un) (go := go n) (code := c.erase) (des := des) hD hf hb hnt hent h1 (fun _ _ _ _ => rfl) rfl rfl h2 h3 (Nat.eq_of_beq_eq_true h4) h5 (fun x => ⟨hout x, hros x⟩) hdes.get h
def FI.ofD (D : Dat) (f nt p : Nat) (args : List Sh) (aos : List OSh) (outs : List Sh) (ros : List OSh) (des : List (zll D)) (l : LSh) {R : Type} (pack : HL D.T l.tys → R) (un : R → HL D.T (Sh.z3t outs ++ z13 ros))
  (go : Nat → HL D.T (Sh.z3t args ++ z13 aos) → Option R) (z8d : Nat → List (Nat × Lb D R)) (c : AC) : FI D :=
 { R := R, ent := fun n => { f := f, p := p, args := args, aos := aos, outs := outs, ros := ros, pan := .nilp, pos := ros, pure := false, go := fun x k _ => (go n x).bind fun r => k (un r) },
   c := c, K := yol D des l pack, p := p, args := args, aos := aos, nt := nt, z8d := z8d, go := go }
theorem FI.ysj {hD : D.Ok P} {f nt p : Nat} {args : List Sh} {aos : List OSh} {outs : List Sh} {ros : List OSh} {des : List (zll D)} {l : LSh} {pack : HL D.T l.tys → R} {un : R → HL D.T (Sh.z3t outs ++ z13 ros)}
  {go : Nat → HL D.T (Sh.z3t args ++ z13 aos) → Option R} {z8d : Nat → List (Nat × Lb D R)} {c : AC} {tbl : Nat → List (Ent D)} {fn : Func}
  (hf : P.funcs[f]? = some fn) (hnt : fn.ntmps = nt) (hent : ∀ args w, (callFunc f args).run P w = .ok (.enter f args) w)
  (hb : fn.body = some c.erase) (hnd : c.labels.Nodup) (hchk : chkB p nt args outs aos ros false l c = true) (hp : ∀ n, ybu p (z8d n) = true) (hdes : ycc P des)
  (hout : ∀ x, y0a P D (l.bld D x) fn.results.toList = some (z5g D (fun k => k) outs (HL.fst _ (un (pack x)))))
  (hz : ∀ x, go 0 x = none) (hlz : y51 (fun _ lb => ∀ x, lb.go x = none) (z8d 0))
  (hs : ∀ n x, go (n + 1) x = run P D (tbl n) (jump D (z8d n)) c (entry D args aos nt x) (yol D des l pack))
  (hls : ∀ n, y51 (fun j lb => ∀ x, lb.go x = y73 P D (tbl n) (jump D (z8d n)) j c (yol D des l pack) (lb.sh.bld D x)) (z8d (n + 1)))
  (hros : ∀ x, (l.bld D x).o = z6m D (fun k => k) ros 0 (HL.snd _ (un (pack x)))) :
  (FI.ofD D f nt p args aos outs ros des l pack un go z8d c).Good P D tbl where
 nodup := hnd
 zero := hz
 lzero := fun j lb x h => hlz.get (z6w h) x
 pins := fun n j lb h => (zu3 (hp n)).get (z6w h)
 step := hs
 lstep := fun n j lb x h => (hls n).get (z6w h) x
 ok := fun n h => by
  simp only [chkB, Bool.and_eq_true, Nat.ble_eq] at hchk
  obtain ⟨⟨⟨h1, h2⟩, h3⟩, h4⟩ := hchk
  exact ysw (l := l) (pack := pack) (un := un) (go := go n) (code := c.erase) (des := des) hD hf hb hnt hent h1 (fun _ _ _ _ => rfl) rfl rfl h2 h3 (Nat.eq_of_beq_eq_true h4) (fun x => ⟨hout x, hros x⟩) hdes.get h
end
theorem yze {P : Program} {D : Dat} (hD : D.Ok P) {f : FI D} {bs : List (FI D)} (hb : OkL P bs) (h : f.Good P D (tb bs)) : OkL P [f] :=
 ⟨fun n => h.ok n (h.runs hD n fun m _ e he => by
  obtain ⟨b, hm, rfl⟩ := List.mem_map.1 he
  exact hb.get hm m), trivial⟩
end Go.Ab


namespace Go.Ab
open Go
set_option linter.unusedVariables false
theorem yvf {α : Type} (l : List α) (k : Nat) : ix l (k : Int) = l[k]? := by simp [ix]
theorem wrk {k : Nat} (h : k ≤ 4611686018427387904) : IntKind.i64.wrap ((k : Int) + 1) = ((k + 1 : Nat) : Int) := by rw [wr1 h]; rfl
theorem yzb {α : Type} {l : List α} {k : Nat} (h : k < l.length) : ix l (k : Int) = some l[k] := by rw [yvf, List.getElem?_eq_getElem h]
theorem ydp {α : Type} {x y : List α} (h : x.length + y.length ≤ 1048576) : ext x y = some (x ++ y) := by unfold ext; rw [if_pos]; simp [zc3]; omega
theorem z3o {x y : List UInt8} (h : x.length + y.length ≤ 16777216) : cat x y = some (x ++ y) := by unfold cat; rw [if_pos]; simp [maxLen]; omega
noncomputable def eqB {α : Type} (a b : α) : Bool := @decide (a = b) (Classical.propDecidable _)
theorem zbj {α : Type} {a b : α} : eqB a b = true ↔ a = b := @decide_eq_true_iff _ (Classical.propDecidable _)
theorem zdj {α : Type} {a b : α} : eqB a b = false ↔ a ≠ b := @decide_eq_false_iff_not _ (Classical.propDecidable _)
@[simp] theorem yop {α : Type} (a : α) : eqB a a = true := zbj.2 rfl
theorem down {len : Nat} {Q : Nat → Prop} (h0 : Q len) (hs : ∀ k, k < len → Q (k + 1) → Q k) : ∀ k, k ≤ len → Q k := by
 intro k hk
 obtain ⟨m, rfl⟩ : ∃ m, k = len - m := ⟨len - k, by omega⟩
 induction m with
 | zero => exact h0
 | succ m ih =>
   by_cases h : m < len
   · refine hs _ (by omega) ?_
     rw [show len - (m + 1) + 1 = len - m by omega]
     exact ih (by omega)
   · rw [show len - (m + 1) = len - m by omega]; exact ih (by omega)
end Go.Ab


namespace Go.Ab
open Go
set_option linter.unusedVariables false
set_option linter.unusedSimpArgs false
def Ev {α : Type} (f : Nat → Option α) (r : α) : Prop := ∃ n, ∀ m, n ≤ m → f m = some r
section
variable {α β : Type} {r : α}
theorem Ev.get {f : Nat → Option α} (h : Ev f r) : ∃ n, f n = some r := by obtain ⟨n, hn⟩ := h; exact ⟨n, hn n (Nat.le_refl _)⟩
theorem Ev.succ {f g : Nat → Option α} (h : ∀ n, f (n + 1) = g n) (hg : Ev g r) : Ev f r := by
 obtain ⟨n, hn⟩ := hg
 refine ⟨n + 1, fun m hm => ?_⟩
 obtain ⟨q, rfl⟩ : ∃ q, m = q + 1 := ⟨m - 1, by omega⟩
 rw [h]; exact hn q (by omega)
theorem Ev.same {f g : Nat → Option α} (h : ∀ n, f n = g n) (hg : Ev g r) : Ev f r := by
 obtain ⟨n, hn⟩ := hg
 exact ⟨n, fun m hm => by rw [h]; exact hn m hm⟩
theorem Ev.pure {o : Option α} (h : o = some r) : Ev (fun _ => o) r := ⟨0, fun _ _ => h⟩
theorem Ev.bind {a : Nat → Option β} {k : Nat → β → Option α} {y : β} (ha : Ev a y) (hk : Ev (fun n => k n y) r) : Ev (fun n => (a n).bind (k n)) r := by
 obtain ⟨n, hn⟩ := ha
 obtain ⟨q, hq⟩ := hk
 exact ⟨max n q, fun m hm => by show (a m).bind (k m) = _; rw [hn m (by omega)]; exact hq m (by omega)⟩
theorem Ev.t {c : Bool} {a b : Nat → Option α} (hc : c = true) (ha : Ev a r) : Ev (fun n => if c = true then a n else b n) r := by subst hc; exact ha
theorem Ev.f {c : Bool} {a b : Nat → Option α} (hc : c = false) (ha : Ev b r) : Ev (fun n => if c = true then a n else b n) r := by subst hc; exact ha
theorem Ev.cond {c : Bool} {a b : Nat → Option α} (ht : c = true → Ev a r) (hf : c = false → Ev b r) : Ev (fun n => if c = true then a n else b n) r := by
 cases c
 ·exact hf rfl
 ·exact ht rfl
theorem Ev.to {f : Nat → Option α} {r' : α} (h : Ev f r') (e : r' = r) : Ev f r := e ▸ h
end
section
variable {α β γ : Type} {xs : List α}
end
end Go.Ab


namespace Go.Ab
open Go
set_option linter.unusedVariables false
set_option linter.unusedSimpArgs false
section
variable {α β : Type} {r : α}
theorem Ev.ysk {f g : Nat → Option α} (h : ∀ n, f (n + 1) = g n) : Ev f r ↔ Ev g r :=
 ⟨fun ⟨n, hn⟩ => ⟨n, fun m hm => by rw [← h]; exact hn _ (by omega)⟩, Ev.succ h⟩
theorem evS (f : Nat → Option α) (r : α) {g : Nat → Option α} (h : ∀ n, f (n + 1) = g n) : Ev f r ↔ Ev g r := Ev.ysk h
theorem Ev.det {f : Nat → Option α} {x y : α} (h : Ev f x) (k : Ev f y) : x = y := by
 obtain ⟨n, hn⟩ := h; obtain ⟨q, hq⟩ := k
 have := hn (max n q) (by omega); rw [hq (max n q) (by omega)] at this; injection this with this; exact this.symm
theorem Ev.zz0 {a : Nat → Option β} {k : Nat → β → Option α} {y : β} (ha : Ev a y) : Ev (fun n => (a n).bind (k n)) r ↔ Ev (fun n => k n y) r :=
 ⟨fun h => by
  obtain ⟨n, hn⟩ := h; obtain ⟨q, hq⟩ := ha
  refine ⟨max n q, fun m hm => ?_⟩
  have := hn m (by omega)
  simp only [hq m (by omega)] at this
  exact this, Ev.bind ha⟩
theorem Ev.yz2 {o : Option β} {k : Nat → β → Option α} {y : β} (ho : o = some y) : Ev (fun n => o.bind (k n)) r ↔ Ev (fun n => k n y) r := by subst ho; exact Iff.rfl
theorem Ev.kz1 {a b : Nat → Option α} {c : Bool} (hc : c = true) : Ev (fun n => pIf c (a n) (b n)) r ↔ Ev a r := by subst hc; exact Iff.rfl
theorem Ev.yz1 {a b : Nat → Option α} {c : Bool} (hc : c = false) : Ev (fun n => pIf c (a n) (b n)) r ↔ Ev b r := by subst hc; exact Iff.rfl
theorem Ev.pif {a b : Nat → Option α} {c : Bool} : Ev (fun n => pIf c (a n) (b n)) r ↔ if c = true then Ev a r else Ev b r := by cases c <;> exact Iff.rfl
theorem Ev.zz1 {x : α} : Ev (fun _ => some x) r ↔ x = r := ⟨fun ⟨n, h⟩ => by have := h n (Nat.le_refl _); injection this, fun h => ⟨0, fun _ _ => by rw [h]⟩⟩
theorem Ev.z7h {X R : Type} {y : R} {f : Nat → R → Option α} {g : Nat → X → Option α} : Ev (fun n => zh5 (.ok y) (f n) (g n)) r ↔ Ev (fun n => f n y) r := Iff.rfl
theorem Ev.z7t {X R : Type} {y : X} {f : Nat → R → Option α} {g : Nat → X → Option α} : Ev (fun n => zh5 (.pan y) (f n) (g n)) r ↔ Ev (fun n => g n y) r := Iff.rfl
end
theorem wI {x : Int} (h : -9223372036854775808 ≤ x ∧ x ≤ 9223372036854775807) : IntKind.i64.wrap x = x := IntWalk.i64_in _ h
theorem wU {x : Int} (h : 0 ≤ x ∧ x ≤ 18446744073709551615) : IntKind.u64.wrap x = x := IntWalk.u64_in _ h
theorem wUn {x : Int} (h : -18446744073709551616 ≤ x ∧ x < 0) : IntKind.u64.wrap x = x + 18446744073709551616 := by
 unfold IntKind.wrap
 simp only [IntKind.bits, IntKind.signed, Bool.false_and, Bool.false_eq_true, if_false]
 omega
theorem y40 {a b : Nat} : mxI (a : Int) (b : Int) = ((max a b : Nat) : Int) := by unfold mxI; split <;> omega
end Go.Ab


namespace Go.Ab
open Go
set_option linter.unusedVariables false
set_option linter.unusedSimpArgs false
def isLet (c : UInt8) : Bool := decide (97 ≤ c.toNat) && decide (c.toNat ≤ 122)
def z7u (c : UInt8) : Bool := decide (48 ≤ c.toNat) && decide (c.toNat ≤ 57)
def z1j (c : UInt8) : Bool := isLet c || c == 45 || z7u c
def z9w (s : List UInt8) : Bool := match s with
 | [] => false
 | c :: t => isLet c && t.all z1j && decide (s.length ≤ 40)
def cutAt (b : UInt8) (s : List UInt8) : List UInt8 × List UInt8 × Bool := (s.takeWhile (· != b), (s.dropWhile (· != b)).tail, s.any (· == b))
def parts (b : UInt8) : List UInt8 → List (List UInt8)
 | [] => [[]]
 | c :: t => if c == b then [] :: parts b t else match parts b t with
   | h :: r => (c :: h) :: r
   | [] => [[c]]
def steps (s : List UInt8) : List (List UInt8) := if s == [] then [] else parts 47 s
end Go.Ab


namespace Go.Ab
open Go
set_option linter.unusedVariables false
set_option linter.unusedSimpArgs false
theorem zyh {s : List UInt8} {k : Nat} (h : k < s.length) (ha : s[k].toNat < 128) : zat s k = (s[k].toNat, 1) := by
 have h' : k < (ByteArray.mk s.toArray).size := by simpa [ByteArray.size] using h
 have e : (ByteArray.mk s.toArray)[k] = s[k] := rfl
 have := decode_ascii ⟨s.toArray⟩ k h' (by rw [e]; exact ha)
 rw [e] at this
 exact this
theorem yce {s : List UInt8} {k : Nat} (h : k < s.length) (ha : 128 ≤ s[k].toNat) : 128 ≤ (zat s k).1 ∧ 1 ≤ (zat s k).2 := by
 have h' : k < (ByteArray.mk s.toArray).size := by simpa [ByteArray.size] using h
 have e : (ByteArray.mk s.toArray)[k] = s[k] := rfl
 exact decode_high ⟨s.toArray⟩ k h' (by rw [e]; exact ha)
theorem zb8 {α : Type} {l : List α} {lo hi : Nat} (h1 : lo ≤ hi) (h2 : hi ≤ l.length) : sub l (lo : Int) (hi : Int) = some ((l.take hi).drop lo) := by
 unfold sub; rw [if_pos ⟨by omega, by omega, by omega⟩]; simp
theorem zd8 {α : Type} {l : List α} {hi : Nat} (h2 : hi ≤ l.length) : sub l 0 (hi : Int) = some (l.take hi) := by
 unfold sub; rw [if_pos ⟨by omega, by omega, by omega⟩]; simp
theorem zy6 (b : UInt8) : ∀ s : List UInt8, Lib.indexByte s b = if s.any (· == b) then ((s.takeWhile (· != b)).length : Int) else -1
 | [] => rfl
 | c :: t => by
   rw [Lib.indexByte, zy6 b t]
   cases h : c == b
   · simp only [List.any_cons, h, Bool.false_or, List.takeWhile_cons, bne, Bool.not_false, if_true, List.length_cons]
     cases t.any (· == b)
     · simp
     · simp only [if_true, beq_iff_eq]
       rw [if_neg (by simp), if_neg (by omega)]
       simp
   · simp [h, bne]
theorem yok {b : UInt8} : ∀ {s : List UInt8}, s.any (· == b) = true → (s.takeWhile (· != b)).length < s.length ∧ s.take (s.takeWhile (· != b)).length = s.takeWhile (· != b) ∧ s.drop ((s.takeWhile (· != b)).length + 1) = (s.dropWhile (· != b)).tail
 | [], h => by simp at h
 | c :: t, h => by
   cases hc : c == b
   · have ih := yok (b := b) (s := t) (by simpa [hc] using h)
     simp only [bne] at ih ⊢
     simp [List.takeWhile_cons, List.dropWhile_cons, hc]
     exact ⟨ih.1, ih.2.1, by simpa using ih.2.2⟩
   · simp [List.takeWhile_cons, List.dropWhile_cons, hc, bne]
theorem ynh {b : UInt8} : ∀ {s : List UInt8}, s.any (· == b) = false → cutAt b s = (s, [], false)
 | [], h => rfl
 | c :: t, h => by
   simp only [List.any_cons, Bool.or_eq_false_iff] at h
   have ih := ynh (b := b) (s := t) h.2
   simp only [cutAt, bne] at ih ⊢
   simp [List.takeWhile_cons, List.dropWhile_cons, h.1]
   simpa using ih
end Go.Ab


namespace Go.Ab
open Go
set_option linter.unusedVariables false
set_option linter.unusedSimpArgs false
inductive BT (α : Type) where
 | leaf
 | node (v : α) (l r : BT α)
section
variable {α : Type} (d : α)
def BT.val : BT α → α
 | .leaf => d
 | .node v _ _ => v
def BT.lt : BT α → BT α
 | .leaf => .leaf
 | .node _ l _ => l
def BT.rt : BT α → BT α
 | .leaf => .leaf
 | .node _ _ r => r
noncomputable def BT.get (p : List Bool) : BT α → α := @List.rec Bool (fun _ => BT α → α) (fun t => t.val d) (fun b _ ih t => @Bool.rec (fun _ => α) (ih t.lt) (ih t.rt) b) p
noncomputable def BT.put (x : α) (p : List Bool) : BT α → BT α := @List.rec Bool (fun _ => BT α → BT α) (fun t => .node x t.lt t.rt) (fun b _ ih t => @Bool.rec (fun _ => BT α) (.node (t.val d) (ih t.lt) t.rt) (.node (t.val d) t.lt (ih t.rt)) b) p
@[simp] theorem BT.get_nil (t : BT α) : BT.get d [] t = t.val d := rfl
@[simp] theorem BT.get_t (p : List Bool) (t : BT α) : BT.get d (true :: p) t = BT.get d p t.rt := rfl
@[simp] theorem BT.get_f (p : List Bool) (t : BT α) : BT.get d (false :: p) t = BT.get d p t.lt := rfl
@[simp] theorem BT.ytm (x : α) (t : BT α) : BT.put d x [] t = .node x t.lt t.rt := rfl
@[simp] theorem BT.put_t (x : α) (p : List Bool) (t : BT α) : BT.put d x (true :: p) t = .node (t.val d) t.lt (BT.put d x p t.rt) := rfl
@[simp] theorem BT.put_f (x : α) (p : List Bool) (t : BT α) : BT.put d x (false :: p) t = .node (t.val d) (BT.put d x p t.lt) t.rt := rfl
theorem BT.zrx : ∀ p : List Bool, BT.get d p .leaf = d
 | [] => rfl
 | true :: p => BT.zrx p
 | false :: p => BT.zrx p
theorem BT.zgj (x : α) : ∀ (q p : List Bool) (t : BT α), BT.get d p (BT.put d x q t) = if p = q then x else BT.get d p t
 | [], [], t => by simp [BT.val]
 | [], true :: p, t => by simp [BT.rt]
 | [], false :: p, t => by simp [BT.lt]
 | true :: q, [], t => by simp [BT.val]
 | false :: q, [], t => by simp [BT.val]
 | true :: q, true :: p, t => by simp [BT.rt, BT.zgj x q p]
 | false :: q, false :: p, t => by simp [BT.lt, BT.zgj x q p]
 | true :: q, false :: p, t => by simp [BT.lt]
 | false :: q, true :: p, t => by simp [BT.rt]
end
def zta : Nat → Nat → List Bool
 | 0, _ => []
 | f + 1, n => match Nat.beq n 0 with
   | true => []
   | false => Nat.beq (Nat.mod n 2) 1 :: zta f (Nat.div n 2)
def path (n : Nat) : List Bool := zta n n
def zw7 : List Bool → Nat
 | [] => 0
 | b :: p => (match b with | true => 1 | false => 0) + 2 * zw7 p
theorem zpb : ∀ (f n : Nat), n ≤ f → zw7 (zta f n) = n
 | 0, n, h => by
   have : n = 0 := by omega
   subst this; rfl
 | f + 1, n, h => by
   unfold zta
   cases e : Nat.beq n 0
   · have hn : n ≠ 0 := fun hh => by subst hh; cases e
     simp only [zw7]
     have hd : Nat.div n 2 = n / 2 := rfl
     have hm : Nat.mod n 2 = n % 2 := rfl
     rw [zpb f (Nat.div n 2) (by rw [hd]; omega), hd, hm]
     cases e2 : Nat.beq (n % 2) 1
     · have : n % 2 ≠ 1 := fun hh => by rw [hh] at e2; cases e2
       show 0 + 2 * (n / 2) = n
       omega
     · have : n % 2 = 1 := Nat.eq_of_beq_eq_true e2
       show 1 + 2 * (n / 2) = n
       omega
   · have : n = 0 := Nat.eq_of_beq_eq_true e
     subst this; rfl
theorem zl3 {m n : Nat} (h : path m = path n) : m = n := by
 have h1 := zpb m m (Nat.le_refl _)
 have h2 := zpb n n (Nat.le_refl _)
 rw [show zta m m = path m from rfl, h] at h1
 rw [← h1]; exact h2
structure XH where
 n : Nat
 t : BT (Option yz4)
noncomputable def xg (lv : Nat) (h : XH) (l i : Nat) : Option yz4 := match Nat.beq l lv with
 | true => BT.get none (path i) h.t
 | false => none
structure XHR (lv : Nat) (E : Nat → Nat → Option yz4) (h : XH) (H : Heap) : Prop where
 lv : H.lv = lv
 out : H.E = E
 len : H.L.length = h.n
 get : ∀ i, (H.L[i]?).join = BT.get none (path i) h.t
theorem XHR.xg {lv : Nat} {E : Nat → Nat → Option yz4} {h : XH} {H : Heap} (k : XHR lv E h H) {l i : Nat} {o : yz4} (hg : xg lv h l i = some o) : H.get l i = some o := by
 unfold Go.Ab.xg at hg
 split at hg
 ·rename_i hl
  have : l = lv := Nat.eq_of_beq_eq_true hl
  unfold Heap.get
  rw [if_pos (by rw [this, k.lv]), k.get, hg]
 ·cases hg
inductive Eff where
 | keep (v : V)
 | push (mk : Nat → Nat → V) (o : yz4)
 | set (l i : Nat) (o : yz4) (v : V)
 | zfh (i : Nat) (v : V)
def Eff.on (H : Heap) : Eff → V × Heap
 | .keep v => (v, H)
 | .push mk o => (mk H.lv H.L.length, H.push o)
 | .set l i o v => (v, H.set l i o)
 | .zfh i v => (v, H.zfh i)
noncomputable def Eff.onX (lv : Nat) (h : XH) : Eff → Option (V × XH)
 | .keep v => some (v, h)
 | .push mk o => some (mk lv h.n, ⟨Nat.succ h.n, BT.put none (some o) (path h.n) h.t⟩)
 | .set l i o v => match Nat.beq l lv with
   | true => match Nat.blt i h.n with
     | true => some (v, ⟨h.n, BT.put none (some o) (path i) h.t⟩)
     | false => none
   | false => none
 | .zfh i v => match Nat.blt i h.n with
   | true => some (v, ⟨h.n, BT.put none none (path i) h.t⟩)
   | false => none
theorem zwy {a b : Nat} (h : Nat.blt a b = true) : a < b := by
 unfold Nat.blt at h
 exact Nat.le_of_ble_eq_true h
theorem Eff.yn8 {lv : Nat} {E : Nat → Nat → Option yz4} {h h' : XH} {H : Heap} {v : V} (k : XHR lv E h H) {e : Eff} (he : e.onX lv h = some (v, h')) : (e.on H).1 = v ∧ XHR lv E h' (e.on H).2 := by
 cases e with
 | keep u =>
   simp only [Eff.onX, Option.some.injEq, Prod.mk.injEq] at he
   obtain ⟨rfl, rfl⟩ := he
   exact ⟨rfl, k⟩
 | push mk o =>
   simp only [Eff.onX, Option.some.injEq, Prod.mk.injEq] at he
   obtain ⟨rfl, rfl⟩ := he
   refine ⟨by simp only [Eff.on, k.lv, k.len], k.lv, k.out, by simp [Eff.on, Heap.push, k.len], fun i => ?_⟩
   simp only [Eff.on, Heap.push]
   rw [BT.zgj]
   by_cases hi : i = h.n
   · subst hi
     rw [if_pos rfl, ← k.len]; simp
   · rw [if_neg (fun hh => hi (zl3 hh)), ← k.get]
     by_cases h2 : i < H.L.length
     · rw [List.getElem?_append_left h2]
     · rw [List.getElem?_eq_none (show (H.L ++ [some o]).length ≤ i by have := k.len; simp; omega), List.getElem?_eq_none (show H.L.length ≤ i by omega)]
 | set l i o u =>
   simp only [Eff.onX] at he
   split at he
   · rename_i hl
     split at he
     · rename_i hi
       simp only [Option.some.injEq, Prod.mk.injEq] at he
       obtain ⟨rfl, rfl⟩ := he
       have hl' : l = lv := Nat.eq_of_beq_eq_true hl
       have hi' : i < H.L.length := by rw [k.len]; exact zwy hi
       have hs : H.set l i o = { H with L := H.L.set i (some o) } := by unfold Heap.set; rw [if_pos (by rw [hl', k.lv])]
       refine ⟨rfl, ?_, ?_, ?_, fun j => ?_⟩
       · simp only [Eff.on, hs]; exact k.lv
       · simp only [Eff.on, hs]; exact k.out
       · simp only [Eff.on, hs, List.length_set]; exact k.len
       · simp only [Eff.on, hs]
         rw [BT.zgj, List.getElem?_set]
         by_cases hj : i = j
         · subst hj; rw [if_pos rfl, if_pos rfl, if_pos hi']; rfl
         · rw [if_neg hj, if_neg (fun hh => hj (zl3 hh).symm)]; exact k.get j
     · cases he
   · cases he
 | zfh i u =>
   simp only [Eff.onX] at he
   split at he
   · rename_i hi
     simp only [Option.some.injEq, Prod.mk.injEq] at he
     obtain ⟨rfl, rfl⟩ := he
     have hi' : i < H.L.length := by rw [k.len]; exact zwy hi
     refine ⟨rfl, k.lv, k.out, by simp only [Eff.on, Heap.zfh, List.length_set]; exact k.len, fun j => ?_⟩
     simp only [Eff.on, Heap.zfh]
     rw [BT.zgj, List.getElem?_set]
     by_cases hj : i = j
     · subst hj; rw [if_pos rfl, if_pos rfl, if_pos hi']; rfl
     · rw [if_neg hj, if_neg (fun hh => hj (zl3 hh).symm)]; exact k.get j
   · cases he
noncomputable def evT (T : BT V) : Operand → V
 | .tmp j => BT.get .any (path j) T
 | .const v => ofConst v
 | .global k => gv k
 | .func f => .fn f [] []
noncomputable def zrg (n : Nat) (T : BT V) (dst : Option Nat) (v : V) : Option (BT V) :=
 match dst with
 | none => some T
 | some d => match Nat.blt d n with
   | true => some (BT.put .any v (path d) T)
   | false => none
noncomputable def zmt (ops : Array Oper) (T : BT V) (o : Oper) : Option Bool :=
 match o.guard with
 | none => some true
 | some (j, want) => match (ops[j]?).bind (·.dst) with
   | some d => match BT.get .any (path d) T with
     | .bool b => some (b == want)
     | .tup _ => some false
     | _ => none
   | none => none
abbrev DL := List (Nat × List V)
structure XR (n lv : Nat) (E : Nat → Nat → Option yz4) (T : BT V) (h : XH) (D : DL) (σ : St) : Prop where
 heap : XHR lv E h σ.H
 defers : σ.d = D
 e0 : σ.e0 = E
 len : σ.t.length = n
 get : ∀ j, σ.t.getD j .any = BT.get .any (path j) T
section
variable {n lv : Nat} {E : Nat → Nat → Option yz4} {T T' : BT V} {h h' : XH} {σ : St} {D : DL}
theorem XR.ev (k : XR n lv E T h D σ) : σ.ev = evT T := by
 funext o
 cases o with
 | tmp j => exact k.get j
 | const v => rfl
 | global g => rfl
 | func f => rfl
theorem XR.wanted (k : XR n lv E T h D σ) (ops : Array Oper) (o : Oper) : zzv ops σ o = zmt ops T o := by
 unfold zzv zmt
 simp only [k.get]
 cases o.guard with
 | none => rfl
 | some p =>
   obtain ⟨j, w⟩ := p
   simp only
   cases (ops[j]?).bind (fun x => x.dst) with
   | none => rfl
   | some d =>
     simp only
     cases BT.get V.any (path d) T <;> rfl
theorem XR.put (k : XR n lv E T h D σ) {H' : Heap} (hh : XHR lv E h' H') {dst : Option Nat} {v : V} (hp : zrg n T dst v = some T') : XR n lv E T' h' D ({ σ with H := H' }.put dst v) := by
 unfold zrg at hp
 split at hp
 ·injection hp with hp; subst hp
  exact ⟨hh, k.defers, k.e0, k.len, k.get⟩
 ·rename_i d
  split at hp
  ·rename_i hd
   injection hp with hp; subst hp
   have hd' : d < n := zwy hd
   refine ⟨hh, k.defers, k.e0, by simp [St.put, k.len], fun j => ?_⟩
   rw [BT.zgj]
   simp only [St.put]
   rw [List.getD_eq_getElem?_getD, List.getElem?_set]
   by_cases e : d = j
   ·subst e
    rw [if_pos rfl, if_pos rfl, if_pos (by rw [k.len]; exact hd')]
    rfl
   ·rw [if_neg e, if_neg (fun hh => e (zl3 hh).symm), ← List.getD_eq_getElem?_getD]
    exact k.get j
  ·cases hp
theorem XR.yrb (k : XR n lv E T h D σ) {dst : Option Nat} {v : V} (hp : zrg n T dst v = some T') : XR n lv E T' h D (σ.put dst v) := by
 have := k.put (H' := σ.H) k.heap hp
 exact this
end
noncomputable def zfl (j : Nat) (vs : List V) : BT V → BT V := @List.rec V (fun _ => Nat → BT V → BT V) (fun _ T => T) (fun v _ ih j T => ih (Nat.succ j) (BT.put .any v (path j) T)) vs j
theorem yn6 (j : Nat) (T : BT V) : zfl j [] T = T := rfl
theorem yjr (j : Nat) (v : V) (vs : List V) (T : BT V) : zfl j (v :: vs) T = zfl (Nat.succ j) vs (BT.put .any v (path j) T) := rfl
theorem zwt : ∀ (vs : List V) (j k : Nat) (T : BT V), BT.get .any (path k) (zfl j vs T) = if j ≤ k ∧ k < j + vs.length then vs.getD (k - j) .any else BT.get .any (path k) T
 | [], j, k, T => by
   rw [yn6, if_neg (by simp only [List.length_nil]; omega)]
 | v :: vs, j, k, T => by
   rw [yjr, zwt vs, BT.zgj]
   simp only [Nat.succ_eq_add_one, List.length_cons]
   by_cases h1 : j = k
   · subst h1
     rw [if_neg (by omega), if_pos rfl, if_pos (by omega)]; simp
   · rw [if_neg (fun hh => h1 (zl3 hh).symm)]
     by_cases h2 : j + 1 ≤ k ∧ k < j + 1 + vs.length
     · rw [if_pos h2, if_pos (by omega), show k - j = (k - (j + 1)) + 1 by omega]; rfl
     · rw [if_neg h2, if_neg (by omega)]
theorem yj2 {n lv : Nat} {E : Nat → Nat → Option yz4} {args : List V} {h : XH} {H : Heap} (hl : Nat.ble args.length n = true) (hh : XHR lv E h H) : XR n lv E (zfl 0 args .leaf) h [] ⟨args ++ List.replicate (n - args.length) .any, H, [], E⟩ := by
 have hl' := Nat.le_of_ble_eq_true hl
 refine ⟨hh, rfl, rfl, by simp; omega, fun j => ?_⟩
 rw [zwt, BT.zrx]
 simp only [Nat.zero_le, true_and, Nat.zero_add, Nat.sub_zero]
 rw [List.getD_eq_getElem?_getD, List.getElem?_append]
 split
 ·rw [List.getD_eq_getElem?_getD]
 ·rw [List.getElem?_replicate]
  split <;> simp
end Go.Ab


namespace Go.Ab
open Go
set_option linter.unusedVariables false
set_option linter.unusedSimpArgs false
def keyOf : V → Option (Nat × Nat)
 | .ptr l i _ => some (l, i)
 | .ap l i _ _ _ => some (l, i)
 | .hs l i _ _ _ _ => some (l, i)
 | .map l i => some (l, i)
 | _ => none
def z52 (g : Nat → Nat → Option yz4) (v : V) : Heap := match keyOf v with
 | some (l, i) => ⟨Nat.succ l, [], fun _ _ => g l i⟩
 | none => ⟨0, [], fun _ _ => none⟩
theorem zbn {g : Nat → Nat → Option yz4} {v : V} {l i : Nat} (h : keyOf v = some (l, i)) : (z52 g v).get l i = g l i := by
 unfold z52
 rw [h]
 unfold Heap.get
 simp
section
variable {P : Program} {g : Nat → Nat → Option yz4} {H : Heap} (hg : ∀ l i o, g l i = some o → H.get l i = some o)
include hg
theorem yc1 {v : V} {l i : Nat} {o : yz4} (h : keyOf v = some (l, i)) (ho : g l i = some o) : (z52 g v).get l i = some o ∧ H.get l i = some o := ⟨by rw [zbn h, ho], hg _ _ _ ho⟩
theorem yc7 {t : Nat} {x v : V} (h : z8f P (z52 g x) t x = some v) : z8f P H t x = some v := by
 cases x with
 | ptr l i off =>
   simp only [z8f, zbn (g := g) (v := .ptr l i off) rfl] at h
   cases ho : g l i with
   | none => rw [ho] at h; cases h
   | some o => rw [ho] at h; simp only [z8f, hg _ _ _ ho]; exact h
 | ap l i ver idx off =>
   simp only [z8f, zsz, zbn (g := g) (v := .ap l i ver idx off) rfl] at h
   cases ho : g l i with
   | none => rw [ho] at h; cases h
   | some o => rw [ho] at h; simp only [z8f, zsz, hg _ _ _ ho]; exact h
 | ref cs off => exact h
 | _ => cases h
theorem yqo {t : Nat} {x v : V} (h : zha P (z52 g x) t x = some v) : zha P H t x = some v := by
 cases x with
 | hs l i ver off n full =>
   simp only [zha, zbn (g := g) (v := .hs l i ver off n full) rfl] at h
   cases ho : g l i with
   | none => rw [ho] at h; simp only at h; split at h <;> cases h
   | some o => rw [ho] at h; simp only [zha, hg _ _ _ ho]; exact h
 | map l i =>
   simp only [zha, zbn (g := g) (v := .map l i) rfl] at h
   cases ho : g l i with
   | none => rw [ho] at h; simp only at h; split at h <;> cases h
   | some o => rw [ho] at h; simp only [zha, hg _ _ _ ho]; exact h
 | _ => exact h
theorem y4p {t : Nat} {x y v : V} (h : zzn P (z52 g x) t x y = some v) : zzn P H t x y = some v := by
 cases x with
 | hs l i ver off n full =>
   cases ho : g l i with
   | none =>
     unfold zzn at h
     simp only [zbn (g := g) (v := .hs l i ver off n full) rfl, ho] at h
     split at h
     · split at h
       · split at h
         · cases h
         · split at h <;> cases h
         · cases h
       · cases h
     · cases h
   | some o =>
     obtain ⟨h1, h2⟩ := yc1 hg (v := .hs l i ver off n full) rfl ho
     unfold zzn at h ⊢
     simp only [h1] at h
     simp only [h2]
     exact h
 | _ => exact h
theorem ykm {t : Nat} {x v : V} {lo hi mx : Option V} (h : zb3 P (z52 g x) t x lo hi mx = some v) : zb3 P H t x lo hi mx = some v := by
 cases x with
 | hs l i ver off n full =>
   cases ho : g l i with
   | none =>
     unfold zb3 at h
     simp only [zbn (g := g) (v := .hs l i ver off n full) rfl, ho] at h
     split at h <;> cases h
   | some o =>
     obtain ⟨h1, h2⟩ := yc1 hg (v := .hs l i ver off n full) rfl ho
     unfold zb3 at h ⊢
     simp only [h1] at h
     simp only [h2]
     exact h
 | _ => exact h
theorem yna {x : V} {es : List (V × V)} (h : y6q (z52 g x) x = some es) : y6q H x = some es := by
 cases x with
 | map l i =>
   simp only [y6q, zbn (g := g) (v := .map l i) rfl] at h
   cases ho : g l i with
   | none => rw [ho] at h; cases h
   | some o => rw [ho] at h; simp only [y6q, hg _ _ _ ho]; exact h
 | mapn => exact h
 | _ => cases h
theorem yi3 {t : Nat} {x k v : V} {ok : Bool} (h : zqe P (z52 g x) t x k ok = some v) : zqe P H t x k ok = some v := by
 unfold zqe at h ⊢
 split at h
 ·cases he : y6q (z52 g x) x with
  | none => rw [he] at h; simp at h
  | some es => rw [he] at h; rw [yna hg he]; exact h
 ·cases h
theorem yms {sz : Nat} {x : V} {ys : List V} (h : z98 (z52 g x) sz x = some ys) : z98 H sz x = some ys := by
 cases x with
 | hs l i ver off n full =>
   simp only [z98, zbn (g := g) (v := .hs l i ver off n full) rfl] at h
   cases ho : g l i with
   | none => rw [ho] at h; cases h
   | some o => rw [ho] at h; simp only [z98, hg _ _ _ ho]; exact h
 | nils => exact h
 | sl s xs f => exact h
 | _ => cases h
theorem yri {sz : Nat} {x : V} {ys : List V} (h : zgr (z52 g x) sz x = some ys) : zgr H sz x = some ys := by
 cases x with
 | str s => exact h
 | _ =>
   simp only [zgr] at h ⊢
   exact yms hg h
end
def xpv (P : Program) (g : Nat → Nat → Option yz4) (ρ : Operand → V) (op : Op) : Option V :=
 match op with
 | .load t a => z8f P (z52 g (ρ a)) t (ρ a)
 | .indexAddr t x i => zzn P (z52 g (ρ x)) t (ρ x) (ρ i)
 | .slice t x lo hi mx => zb3 P (z52 g (ρ x)) t (ρ x) (lo.map ρ) (hi.map ρ) (mx.map ρ)
 | .lookup t x k ok => zqe P (z52 g (ρ x)) t (ρ x) (ρ k) ok
 | .call c => match c.callee with
   | .builtin .len => match c.args.toList, c.argTypes.toList with
     | [x], [t] => zha P (z52 g (ρ x)) t (ρ x)
     | _, _ => none
   | .builtin .min => zk6 false (c.args.toList.map ρ)
   | .builtin .max => zk6 true (c.args.toList.map ρ)
   | _ => none
 | op => pv P ⟨0, [], fun _ _ => none⟩ ρ op
theorem ymm {P : Program} {g : Nat → Nat → Option yz4} {H : Heap} (hg : ∀ l i o, g l i = some o → H.get l i = some o) {ρ : Operand → V} {op : Op} {v : V} (h : xpv P g ρ op = some v) : pv P H ρ op = some v := by
 cases op with
 | load t a => exact yc7 hg h
 | indexAddr t x i => exact y4p hg h
 | slice t x lo hi mx => exact ykm hg h
 | lookup t x k ok => exact yi3 hg h
 | call c =>
   simp only [xpv] at h
   simp only [pv, z9u]
   split at h
   · rename_i hc
     rw [hc]
     simp only
     split at h
     · rename_i x t e1 e2
       rw [e1, e2]
       exact yqo hg h
     · cases h
   · rename_i hc; rw [hc]; exact h
   · rename_i hc; rw [hc]; exact h
   · cases h
 | makeFunc f a b =>
   cases f with
   | func k => exact h
   | _ => cases h
 | _ => exact h
def yli (P : Program) (g : Nat → Nat → Option yz4) (t : Nat) (a x : V) : Option Eff :=
 if x.yzv && (P.info? t).isSome && x.cells.length == P.cellsOf t then
  match a with
  | .ptr l i off => match g l i with
    | some (.cells cs) => if off + x.cells.length ≤ cs.length then some (.set l i (.cells (z3n cs off x.cells)) .any) else none
    | _ => none
  | .ap l i ver idx off => match g l i with
    | some (.arr ver' ty sz xs cp) => if ver' = ver then match xs[idx]? with
      | some y => if off + x.cells.length ≤ y.cells.length ∧ fits y (z3n y.cells off x.cells) = true then
          some (.set l i (.arr ver ty sz (xs.set idx (z8r y (z3n y.cells off x.cells))) cp) .any) else none
      | none => none else none
    | _ => none
  | _ => none
 else none
def zq4 (P : Program) (g : Nat → Nat → Option yz4) (t : Nat) (m k x : V) : Option Eff :=
 match P.underlying t with
 | some (.map kt _) => match m with
   | .map l i => match g l i with
     | some (.map es) => match zxq P kt k with
       | some d => match y4r d k es 0 with
         | some r => some (.set l i (.map (zvl es k x r)) .any)
         | none => none
       | none => none
     | _ => none
   | _ => none
 | _ => none
def y0e (g : Nat → Nat → Option yz4) (e size : Nat) (s : V) (ys : List V) : Option Eff :=
 match s with
 | .nils => match ys with
   | [] => some (.keep .nils)
   | y :: r => if (y :: r).length ≤ zc3 then some (.push (fun lv n => .hs lv n 0 0 (y :: r).length false) (.arr 0 e size (y :: r) none)) else none
 | .sl sz xs true => if sz = size then match ys with
   | [] => some (.keep (.sl sz xs true))
   | y :: r => if xs.length + (y :: r).length ≤ zc3 then some (.push (fun lv n => .hs lv n 0 0 (xs.length + (y :: r).length) false) (.arr 0 e size (xs ++ y :: r) none)) else none else none
 | .hs l i' ver 0 n false => match g l i' with
   | some (.arr ver' e' sz xs _) => if ver' = ver ∧ e' = e ∧ sz = size ∧ n = xs.length ∧ xs.length + ys.length ≤ zc3 then
       some (.set l i' (.arr (ver + 1) e sz (xs ++ ys) none) (.hs l i' (ver + 1) 0 (xs.length + ys.length) false)) else none
   | _ => none
 | _ => none
def you (P : Program) (g : Nat → Nat → Option yz4) (t u : Nat) (s x : V) : Option Eff :=
 match P.underlying t, P.underlying u with
 | some (.slice e), some du =>
   match P.info? e with
   | some i =>
     match zgr (z52 g x) i.size x, i.zero with
     | some ys, some z =>
       if zsj du && decide (0 < i.size) && decide (i.bytes ≤ 524288) && z.cells.size == i.size then y0e g e i.size s ys else none
     | _, _ => none
   | none => none
 | _, _ => none
def yur (g : Nat → Nat → Option yz4) (x : V) (str : Bool) : Option Eff :=
 match x, str with
 | .ptr l i 0, true => match g l i with
   | some (.siter s pos) => if pos < s.length then some (.set l i (.siter s (pos + (zat s pos).2)) (.tup [.bool true, .int .i64 pos, .int .i32 (zat s pos).1])) else some (.keep (.tup [.bool false]))
   | _ => none
 | _, _ => none
def yjq (P : Program) (t : Nat) (r : Option V) : Option Eff :=
 match r with
 | none => some (.push (fun lv n => .map lv n) (.map []))
 | some (.int _ _) => match P.underlying t with
   | some (.map _ _) => some (.push (fun lv n => .map lv n) (.map []))
   | _ => none
 | _ => none
def yrx (P : Program) (t : Nat) (x : V) : Option Eff :=
 match x with
 | .str s => match P.underlying t with
   | some .string => some (.push (fun lv n => .ptr lv n 0) (.siter s 0))
   | _ => none
 | _ => none
def eox (P : Program) (g : Nat → Nat → Option yz4) (ρ : Operand → V) (op : Op) : Option Eff :=
 match op with
 | .alloc t => match zeroV P t with
   | some z => if z.yzv then some (.push (fun lv n => .ptr lv n 0) (.cells z.cells)) else none
   | none => none
 | .box _ x => if (ρ x).yzv then some (.push (fun lv n => .ptr lv n 0) (.cells (ρ x).cells)) else none
 | .store t a x => yli P g t (ρ a) (ρ x)
 | .makeMap t r => yjq P t (r.map ρ)
 | .mapUpdate t m k x => zq4 P g t (ρ m) (ρ k) (ρ x)
 | .insert t m k x => zq4 P g t (ρ m) (ρ k) (ρ x)
 | .range t x => yrx P t (ρ x)
 | .next i b => yur g (ρ i) b
 | .call c => match c.callee with
   | .builtin .append => match c.args.toList, c.argTypes.toList with
     | [s, x], [t, u] => you P g t u (ρ s) (ρ x)
     | _, _ => none
   | .builtin .copy => none
   | _ => (xpv P g ρ (.call c)).map .keep
 | o => (xpv P g ρ o).map .keep
section
variable {P : Program} {g : Nat → Nat → Option yz4} {H : Heap} (hg : ∀ l i o, g l i = some o → H.get l i = some o)
include hg
theorem yq3 {t : Nat} {a x : V} {e : Eff} (h : yli P g t a x = some e) : zh2 P H t a x = some (e.on H) := by
 unfold yli at h
 unfold zh2
 split at h
 ·rename_i hc
  rw [if_pos hc]
  split at h
  ·rename_i l i off
   split at h
   ·rename_i cs ho
    simp only [hg _ _ _ ho]
    split at h
    ·rename_i hle
     injection h with h; subst h
     rw [if_pos hle]; rfl
    ·cases h
   ·cases h
  ·rename_i l i ver idx off
   split at h
   ·rename_i ver' ty sz xs cp ho
    simp only [hg _ _ _ ho]
    split at h
    ·rename_i hv
     rw [if_pos hv]
     split at h
     ·rename_i y hy
      simp only [hy]
      split at h
      ·rename_i hle
       injection h with h; subst h
       rw [if_pos hle]; rfl
      ·cases h
     ·cases h
    ·cases h
   ·cases h
  ·cases h
 ·cases h
theorem zvr {t : Nat} {m k x : V} {e : Eff} (h : zq4 P g t m k x = some e) : zh8 P H t m k x = some (e.on H) := by
 unfold zq4 at h
 unfold zh8
 split at h
 ·rename_i kt et ht
  simp only [ht]
  split at h
  ·rename_i l i
   split at h
   ·rename_i es ho
    simp only [hg _ _ _ ho]
    split at h
    ·rename_i d hd
     simp only [hd]
     split at h
     ·rename_i r hr
      injection h with h; subst h
      simp only [hr]; rfl
     ·cases h
    ·cases h
   ·cases h
  ·cases h
 ·cases h
theorem yep {e' size : Nat} {s : V} {ys : List V} {e : Eff} (h : y0e g e' size s ys = some e) : z7d H e' size s ys = some (e.on H) := by
 unfold y0e at h
 unfold z7d
 split at h
 ·split at h
  ·injection h with h; subst h; rfl
  ·split at h
   ·rename_i hr; injection h with h; subst h; simp only [if_pos hr]; rfl
   ·cases h
 ·split at h
  ·rename_i hz
   simp only [if_pos hz]
   split at h
   ·injection h with h; subst h; rfl
   ·split at h
    ·rename_i hr; injection h with h; subst h; simp only [if_pos hr]; rfl
    ·cases h
  ·cases h
 ·split at h
  ·rename_i ho
   simp only [hg _ _ _ ho]
   split at h
   ·rename_i hr; injection h with h; subst h; rw [if_pos hr]; rfl
   ·cases h
  ·cases h
 ·cases h
theorem yl1 {ρ : Operand → V} {op : Op} {e : Eff} (h : eox P g ρ op = some e) : ox P H ρ op = some (e.on H) := by
 have keep : ∀ {o : Op}, (xpv P g ρ o).map Eff.keep = some e → (pv P H ρ o).map (fun v => (v, H)) = some (e.on H) := fun {o} hh => by
  simp only [Option.map_eq_some_iff] at hh
  obtain ⟨v, hv, rfl⟩ := hh
  rw [ymm hg hv]; rfl
 cases op with
 | alloc t =>
   simp only [eox] at h
   simp only [ox, y0l]
   split at h
   · rename_i z hz
     simp only [hz]
     split at h
     · rename_i hs; injection h with h; subst h; rw [if_pos hs]; rfl
     · cases h
   · cases h
 | box t x =>
   simp only [eox] at h
   simp only [ox, ypl]
   split at h
   · rename_i hs; injection h with h; subst h; rw [if_pos hs]; rfl
   · cases h
 | store t a x => exact yq3 hg h
 | makeMap t r =>
   simp only [eox, yjq] at h
   simp only [ox, zxk]
   split at h
   · rename_i hr; rw [hr]; injection h with h; subst h; rfl
   · rename_i hr; rw [hr]
     split at h
     · rename_i ht; simp only [ht]; injection h with h; subst h; rfl
     · cases h
   · cases h
 | mapUpdate t m k x => exact zvr hg h
 | insert t m k x => exact zvr hg h
 | range t x =>
   simp only [eox, yrx] at h
   simp only [ox, y7g]
   split at h
   · rename_i s hs
     rw [hs]
     split at h
     · rename_i ht; simp only [ht]; injection h with h; subst h; rfl
     · cases h
   · cases h
 | next i b =>
   simp only [eox, yur] at h
   simp only [ox, y7p]
   split at h
   · rename_i l j hx
     rw [hx]
     split at h
     · rename_i s pos ho
       simp only [hg _ _ _ ho]
       split at h
       · rename_i hp; injection h with h; subst h; rw [if_pos hp]; rfl
       · rename_i hp; injection h with h; subst h; rw [if_neg hp]; rfl
     · cases h
   · cases h
 | call c =>
   simp only [eox] at h
   simp only [ox]
   split at h
   · rename_i hc
     rw [hc]
     simp only
     split at h
     · rename_i s x t u e1 e2
       rw [e1, e2]
       simp only
       unfold you at h
       unfold hAppend
       split at h
       · rename_i et du ht hu
         simp only [ht, hu]
         split at h
         · rename_i i hi
           simp only [hi]
           split at h
           · rename_i ys z h1 h2
             simp only [yri hg h1, h2]
             split at h
             · rename_i hcc; rw [if_pos hcc]; exact yep hg h
             · cases h
           · cases h
         · cases h
       · cases h
     · cases h
   · cases h
   · rename_i h1 h2
     have := keep h
     split
     · rename_i hc; exact (h1 hc).elim
     · rename_i hc; exact (h2 hc).elim
     · exact this
 | _ =>
   simp only [eox] at h
   simp only [ox]
   exact keep h
end
section
variable {P : Program} {g : Nat → Nat → Option yz4} {H : Heap} (hg : ∀ l i o, g l i = some o → H.get l i = some o)
include hg
theorem y01 {x : V} {p : Nat × Nat × Nat × Nat} (h : y3d (z52 g x) x = some p) : y3d H x = some p := by
 cases x with
 | ap l i ver idx off =>
   simp only [y3d, zbn (g := g) (v := .ap l i ver idx off) rfl] at h
   cases ho : g l i with
   | none => rw [ho] at h; cases h
   | some o => rw [ho] at h; simp only [y3d, hg _ _ _ ho]; exact h
 | _ => cases h
theorem yi2 {x : V} (h : y0d (z52 g x) x = true) : y0d H x = true := by
 cases x with
 | ap l i ver idx off =>
   simp only [y0d, zbn (g := g) (v := .ap l i ver idx off) rfl] at h
   cases ho : g l i with
   | none => rw [ho] at h; cases h
   | some o => rw [ho] at h; simp only [y0d, hg _ _ _ ho]; exact h
 | _ => cases h
theorem yp9 {op : BinOp} {t : Nat} {x y v : V} (h : ybo P (z52 g x) op t x y = some v) : ybo P H op t x y = some v := by
 unfold ybo at h ⊢
 split at h
 ·rename_i p e h1 h2 h3
  rw [h1, y01 hg h2, h3]; exact h
 ·cases h
theorem yic {op : BinOp} {t : Nat} {xo yo : Operand} {x y v : V} (h : yf1 P (z52 g x) op t xo yo x y = some v) : yf1 P H op t xo yo x y = some v := by
 unfold yf1 at h ⊢
 split at h
 ·exact h
 ·exact yp9 hg h
theorem ypj {s d : Nat} {x v : V} (h : zxr P (z52 g x) s d x = some v) : zxr P H s d x = some v := by
 unfold zxr at h ⊢
 split at h
 ·rename_i t p h1 h2 h3
  rw [h1, h2, y01 hg h3]; exact h
 ·rename_i u ty sz n o h1 h2 h3
  rw [h1, h2, y01 hg h3]
  dsimp only at h ⊢
  split at h
  ·rename_i j hj
   split at h
   ·rename_i hc
    simp only [Bool.and_eq_true] at hc
    rw [hc.1.1.1, hc.1.1.2, yi2 hg hc.1.2, hc.2]; exact h
   ·cases h
  ·cases h
 ·cases h
omit hg in
theorem yr8 {H' : Heap} {s d : Nat} {x v : V} (h : ym4 P s d x = some v) : zxr P H' s d x = none := by
 unfold ym4 at h
 split at h
 ·split at h
  ·split at h
   ·unfold zxr; split <;> first | rfl | simp_all [y3d]
   ·unfold zxr; split <;> first | rfl | simp_all [y3d]
   ·cases h
  ·cases h
 ·cases h
theorem yku {s d : Nat} {x v : V} (h : zwb P (z52 g x) s d x = some v) : zwb P H s d x = some v := by
 unfold zwb at h ⊢
 split at h
 ·rename_i u hu
  rw [ypj hg hu]
  exact h
 ·rw [yr8 h]
  exact h
theorem y54 {x v : V} (h : zch (z52 g x) x = some v) : zch H x = some v := by
 cases x with
 | hs l i ver off n full =>
   simp only [zch, zbn (g := g) (v := .hs l i ver off n full) rfl] at h
   cases ho : g l i with
   | none => rw [ho] at h; cases h
   | some o => rw [ho] at h; simp only [zch, hg _ _ _ ho]; exact h
 | nils => exact h
 | _ => cases h
end
def ys3 (P : Program) (lv : Nat) (g : Nat → Nat → Option yz4) (pt : Nat) (p n : V) : Option Eff :=
 match p, n with
 | .nilp, .int .i64 (.ofNat 0) => some (.keep (.str []))
 | .ap l i ver 0 0, .int .i64 (.ofNat m) => match g l i, P.underlying pt with
   | some (.arr ver' ty sz xs cp), some (.pointer e) => match Nat.beq ver' ver && Nat.beq sz 1 && Nat.beq l lv && Nat.beq e ty && Nat.beq (P.cellsOf ty) 1 && Nat.blt 0 m && Nat.ble m xs.length && Nat.ble m zc3 with
     | true => match ze0 (xs.take m) with
       | some s => some (.zfh i (.str s))
       | none => none
     | false => none
   | _, _ => none
 | _, _ => none
def y6u (P : Program) (t : Nat) (n c : V) : Option Eff :=
 match n, c with
 | .int _ (.ofNat n), .int _ (.ofNat c) => match P.underlying t with
   | some (.slice e) => match P.info? e, zeroV P e with
     | some i, some z => match z.yzv && Nat.beq z.cells.length i.size && Nat.blt 0 i.size && Nat.ble n c && Nat.ble c 1000000 && Nat.ble i.bytes 100000 with
       | true => some (.push (fun lv k => .hs lv k 0 0 n false) (.arr 0 e i.size (List.replicate n z) none))
       | false => none
     | _, _ => none
   | _ => none
 | _, _ => none
def yoo (P : Program) (t : Nat) : Option Eff := match zeroV P t, P.info? t with
 | some z, some i => if z.yzv && z.cells.length == i.size && Nat.blt 0 i.size then some (.push (fun lv k => .ap lv k 0 0 0) (.arr 0 t i.size [z] (some 1))) else none
 | _, _ => none
def y74 (P : Program) (lv : Nat) (g : Nat → Nat → Option yz4) (ρ : Operand → V) (op : Op) : Option Eff := match op with
 | .alloc t => match yrg P t with
   | true => yoo P t
   | false => none
 | .makeSlice t n c => y6u P t (ρ n) (ρ c)
 | .convert s d x => (zwb P (z52 g (ρ x)) s d (ρ x)).map .keep
 | .binOp op t x y _ => (yf1 P (z52 g (ρ x)) op t x y (ρ x) (ρ y)).map .keep
 | .call c => match c.callee with
   | .builtin .unsafeSliceData => match c.args.toList with
     | [x] => (zch (z52 g (ρ x)) (ρ x)).map .keep
     | _ => none
   | .builtin .unsafeString => match c.args.toList, c.argTypes.toList with
     | [p, n], [pt, _] => ys3 P lv g pt (ρ p) (ρ n)
     | _, _ => none
   | _ => none
 | _ => none
theorem zwv {P : Program} {g : Nat → Nat → Option yz4} {H : Heap} (hg : ∀ l i o, g l i = some o → H.get l i = some o) {ρ : Operand → V} {op : Op} {e : Eff} (h : y74 P H.lv g ρ op = some e) : zf4 P H ρ op = some (e.on H) := by
 have keep : ∀ {q q' : Option V}, (∀ v, q = some v → q' = some v) → q.map Eff.keep = some e → (q'.map fun v => (v, H)) = some (e.on H) := fun {q q'} hq hh => by
  simp only [Option.map_eq_some_iff] at hh
  obtain ⟨v, hv, rfl⟩ := hh
  rw [hq v hv]; rfl
 cases op with
 | alloc t =>
   simp only [y74] at h
   simp only [zf4]
   split at h
   · rename_i hb
     rw [hb]
     unfold yoo at h
     unfold zyl
     split at h
     · rename_i z i h1 h2
       simp only [h1, h2]
       split at h
       · rename_i hc; injection h with h; subst h; rw [if_pos hc]; rfl
       · cases h
     · cases h
   · cases h
 | makeSlice t n c =>
   simp only [y74] at h
   simp only [zf4]
   unfold y6u at h
   unfold zpx
   split at h
   · rename_i k1 n' k2 c' e1 e2
     rw [e1, e2]
     try dsimp only
     split at h
     · rename_i el ht
       rw [ht]
       try dsimp only
       split at h
       · rename_i i z h1 h2
         rw [h1, h2]
         try dsimp only
         split at h
         · rename_i hc; injection h with h; subst h; rw [hc]; rfl
         · cases h
       · cases h
     · cases h
   · cases h
 | convert s d x => exact keep (fun v hv => yku hg hv) h
 | binOp op t x y ty => exact keep (fun v hv => yic hg hv) h
 | call c =>
   simp only [y74] at h
   simp only [zf4]
   split at h
   · rename_i hc
     rw [hc]
     try dsimp only
     split at h
     · rename_i x hx
       rw [hx]
       exact keep (fun v hv => y54 hg hv) h
     · cases h
   · rename_i hc
     rw [hc]
     try dsimp only
     split at h
     · rename_i p n pt it h1 h2
       rw [h1, h2]
       try dsimp only
       unfold ys3 at h
       unfold yfr
       split at h
       · rename_i e1 e2
         rw [e1, e2]
         injection h with h; subst h; rfl
       · rename_i l i ver m e1 e2
         rw [e1, e2]
         try dsimp only
         split at h
         · rename_i ver' ty sz xs cp e' h3 h4
           simp only [hg _ _ _ h3, h4]
           try dsimp only
           split at h
           · rename_i hc2
             rw [hc2]
             try dsimp only
             split at h
             · rename_i s hs; rw [hs]; injection h with h; subst h; rfl
             · cases h
           · cases h
         · cases h
       · cases h
     · cases h
   · cases h
 | _ => cases h
end Go.Ab

