/-
  THE TYPED MACHINE: states and their shapes.
-/
import Derived.Test.YtflgdagdibabiaaGreatLib4
namespace Go.Ab
open Go
set_option linter.unusedVariables false
set_option linter.unusedSimpArgs false
set_option linter.unusedSectionVars false
theorem HL.zpt {T : Nat → Type} : ∀ {a b : List DTy} (x : HL T a) (y : HL T b), HL.fst a (HL.app x y) = x
 | [], _, _, _ => rfl
 | _ :: _, _, x, y => by simp only [HL.app, HL.fst]; rw [HL.zpt]; rfl
theorem HL.zpu {T : Nat → Type} : ∀ {a b : List DTy} (x : HL T a) (y : HL T b), HL.snd a (HL.app x y) = y
 | [], _, _, _ => rfl
 | _ :: _, _, x, y => by simp only [HL.app, HL.snd]; rw [HL.zpu]
section
variable (D : Dat) (n : Nat) (M : z6z D.T) (c : TV D.T)
theorem ysv : yce D n .any c M = .ok (M, ()) := rfl
theorem yun (t : DTy) : yce D n (.d t) c M = (match asD D t c with
  | .ok x => .ok (M, (x, ()))
  | .frz s => .frz s
  | .bad => .bad) := rfl
theorem ytq (f : Nat) (a b : List Sh) (f' : Nat) (a' b' : List (TV D.T)) : yce D n (.fn f a b) (.fn f' a' b') M = if f = f' then (match zss D n a a' M with
  | .ok (M, x) => match zss D n b b' M with
    | .ok (M, y) => .ok (M, HL.app x y)
    | .frz s => .frz s
    | .bad => .bad
  | .frz s => .frz s
  | .bad => .bad) else .bad := rfl
theorem ypv (cs : List (TV D.T)) (sh : Sh) (l : List Sh) : zss D n (sh :: l) (c :: cs) M = (match yce D n sh c M with
  | .ok (M, x) => match zss D n l cs M with
    | .ok (M, y) => .ok (M, HL.app x y)
    | .frz s => .frz s
    | .bad => .bad
  | .frz s => .frz s
  | .bad => .bad) := rfl
variable (m : Nat → Nat)
theorem ytn (f : Nat) (a b : List Sh) (x : HL D.T (Sh.z8q a)) (y : HL D.T (Sh.z8q b)) : zlb D m (.fn f a b) (HL.app x y) = .fn f (z5c D m a x) (z5c D m b y) := by
 show TV.fn f (z5c D m a (HL.fst _ (HL.app x y))) (z5c D m b (HL.snd _ (HL.app x y))) = _
 rw [HL.zpt, HL.zpu]
theorem yqo (sh : Sh) (l : List Sh) (x : HL D.T sh.tys) (y : HL D.T (Sh.z8q l)) : z5c D m (sh :: l) (HL.app x y) = zlb D m sh x :: z5c D m l y := by
 show zlb D m sh (HL.fst _ (HL.app x y)) :: z5c D m l (HL.snd _ (HL.app x y)) = _
 rw [HL.zpt, HL.zpu]
end
theorem zcu {α : Type} : ∀ {l : List (Nat × α)} {j : Nat} {a : α}, fnd l j = some a → (j, a) ∈ l
 | [], j, a, h => by simp [fnd] at h
 | (i, b) :: r, j, a, h => by
   rw [yzi] at h
   split at h
   · rename_i e; injection h with h; subst h; subst e; exact List.mem_cons_self
   · exact List.mem_cons_of_mem _ (zcu h)
section
variable {P : Program} {D : Dat} {F : Fr} {ρ : List Slot} {ts : TS D.T} {σ : St} {lv : Nat} {T : Nat → Type}
def zso : Slot := ⟨.nils, none, []⟩
def Src.is (ρ : List Slot) (sl : Slot) : Src T → Prop
 | .slot s => ρ[s]? = some sl
 | .nil => sl = zso
def Agr (ρ : List Slot) (M : z6z T) (ρ' : List Slot) : Prop := ∀ (k : Nat) (src : Src T), fnd M k = some src → ∃ sl, ρ'[k]? = some sl ∧ src.is ρ sl
structure MOk (n : Nat) (M : z6z T) : Prop where
 lt : ∀ k src, fnd M k = some src → k < n
 inj : ∀ k k' s, fnd M k = some (.slot s) → fnd M k' = some (.slot s) → k = k'
 one : ∀ k src, (k, src) ∈ M → fnd M k = some src
def yik (M M' : z6z T) : Prop := ∀ k src, fnd M k = some src → fnd M' k = some src
theorem yik.agr {M M' : z6z T} (h : yik M M') {ρ' : List Slot} (k : Agr ρ M' ρ') : Agr ρ M ρ' := fun j src hj => k j src (h j src hj)
theorem zj7 {n k s : Nat} {M M' : z6z T} (h : zwx n k s M = some M') : yik M M' ∧ fnd M' k = some (.slot s) ∧ (MOk n M → MOk n M') := by
 unfold zwx at h
 split at h
 ·rename_i s' hk
  split at h
  ·rename_i e; injection h with h; subst h; subst e; exact ⟨fun _ _ h => h, hk, fun h => h⟩
  ·cases h
 ·cases h
 ·rename_i hk
  split at h
  ·rename_i hc
   injection h with h; subst h
   refine ⟨fun j src hj => ?_, by rw [yzi, if_pos rfl], fun hM => ⟨fun j src hj => ?_, fun j j' q hj hj' => ?_, fun j src hm => by
    rw [yzi]
    rcases List.mem_cons.1 hm with hm | hm
    ·injection hm with h1 h2; subst h1; subst h2; rw [if_pos rfl]
    ·have := hM.one j src hm
     split
     ·rename_i e; subst e; rw [hk] at this; cases this
     ·exact this⟩⟩
   ·rw [yzi]; split
    ·rename_i e; subst e; rw [hk] at hj; cases hj
    ·exact hj
   ·rw [yzi] at hj
    split at hj
    ·rename_i e; subst e; exact hc.1
    ·exact hM.lt j src hj
   ·have hno : ∀ j', fnd M j' ≠ some (.slot s) := fun j' hj' => by
     have := List.all_eq_true.1 hc.2 _ (zcu hj')
     simp [Src.yqz] at this
    rw [yzi] at hj hj'
    split at hj <;> split at hj'
    ·rename_i e1 e2; rw [← e1, ← e2]
    ·injection hj with hj; injection hj with hj; subst hj; exact (hno _ hj').elim
    ·injection hj' with hj'; injection hj' with hj'; subst hj'; exact (hno _ hj).elim
    ·exact hM.inj j j' q hj hj'
  ·cases h
theorem y05 {n k : Nat} {M M' : z6z T} (h : ykx n k M = some M') : yik M M' ∧ fnd M' k = some .nil ∧ (MOk n M → MOk n M') := by
 unfold ykx at h
 split at h
 ·rename_i hk; injection h with h; subst h; exact ⟨fun _ _ h => h, hk, fun h => h⟩
 ·cases h
 ·rename_i hk
  split at h
  ·rename_i hc
   injection h with h; subst h
   refine ⟨fun j src hj => ?_, by rw [yzi, if_pos rfl], fun hM => ⟨fun j src hj => ?_, fun j j' q hj hj' => ?_, fun j src hm => by
    rw [yzi]
    rcases List.mem_cons.1 hm with hm | hm
    ·injection hm with h1 h2; subst h1; subst h2; rw [if_pos rfl]
    ·have := hM.one j src hm
     split
     ·rename_i e; subst e; rw [hk] at this; cases this
     ·exact this⟩⟩
   ·rw [yzi]; split
    ·rename_i e; subst e; rw [hk] at hj; cases hj
    ·exact hj
   ·rw [yzi] at hj
    split at hj
    ·rename_i e; subst e; exact hc
    ·exact hM.lt j src hj
   ·rw [yzi] at hj hj'
    split at hj
    ·injection hj with hj; cases hj
    ·split at hj'
     ·injection hj' with hj'; cases hj'
     ·exact hM.inj j j' q hj hj'
  ·cases h
theorem FR.inj {α : Type} {a b : α} (h : FR.ok a = FR.ok b) : a = b := by cases h; rfl
theorem FR.pair {α β : Type} {a c : α} {b d : β} (h : FR.ok (a, b) = FR.ok (c, d)) : a = c ∧ b = d := ⟨congrArg Prod.fst (FR.inj h), congrArg Prod.snd (FR.inj h)⟩
theorem zu8 {o : Option (z6z T)} {M : z6z T} {u : Unit} (h : frU o = .ok (M, u)) : o = some M := by
 unfold frU at h
 split at h
 ·injection h with h; injection h with h; rw [h]
 ·cases h
def zxi (D : Dat) (ρ : List Slot) (lv n : Nat) (M M' : z6z D.T) (x : TV D.T) (v : V) : Prop := yik M M' ∧ (MOk n M → MOk n M') ∧ ∀ ρ', Agr ρ M' ρ' → VR D ρ' lv x v
def FitL (D : Dat) (ρ : List Slot) (lv n : Nat) (M M' : z6z D.T) (xs : List (TV D.T)) (vs : List V) : Prop := yik M M' ∧ (MOk n M → MOk n M') ∧ ∀ ρ', Agr ρ M' ρ' → VRL D ρ' lv xs vs
variable (hD : D.Ok P)
include hD
mutual
theorem zuv {n : Nat} : ∀ (sh : Sh) {c : TV D.T} {v : V} {M M' : z6z D.T} {x : HL D.T sh.tys}, yce D n sh c M = .ok (M', x) → VR D ρ lv c v → zxi D ρ lv n M M' (zlb D (fun k => k) sh x) v
 | .any, c, v, M, M', x, h, hv => by
   rw [ysv] at h
   cases h
   exact ⟨fun _ _ h => h, fun h => h, fun ρ' _ => (by simp only [VR] : VR D ρ' lv .any v)⟩
 | .d t, c, v, M, M', x, h, hv => by
   rw [yun] at h
   split at h
   · rename_i y hy
     cases h
     exact ⟨fun _ _ h => h, fun h => h, fun ρ' _ => (VR.tv hD (zsb hD hy hv) : VR D ρ' lv (D.tv t y) v)⟩
   · cases h
   · cases h
 | .own k, c, v, M, M', x, h, hv => by
   show zxi D ρ lv n M M' (.own k) v
   cases c <;> first | (cases h; done) | skip
   case own s =>
     obtain ⟨h1, h2, h3⟩ := zj7 (zu8 h)
     refine ⟨h1, h3, fun ρ' ha => ?_⟩
     obtain ⟨sl, e1, e2⟩ := ha k _ h2
     simp only [Src.is] at e2
     simp only [VR] at hv
     obtain ⟨sl', e3, e4, e5⟩ := hv
     rw [e2] at e3; injection e3 with e3; subst e3
     simp only [VR]
     exact ⟨sl, e1, e4, e5⟩
   case nils =>
     obtain ⟨h1, h2, h3⟩ := y05 (zu8 h)
     refine ⟨h1, h3, fun ρ' ha => ?_⟩
     obtain ⟨sl, e1, e2⟩ := ha k _ h2
     simp only [Src.is] at e2
     subst e2
     simp only [VR] at hv; subst hv
     simp only [VR]
     exact ⟨zso, e1, rfl, rfl⟩
 | .ptr k off, c, v, M, M', x, h, hv => by
   show zxi D ρ lv n M M' (.ptr k off) v
   cases c <;> first | (cases h; done) | skip
   case ptr s off' =>
     replace h : (if off = off' then frU (zwx n k s M) else .bad) = .ok (M', ()) := h
     by_cases e : off = off'
     · rw [if_pos e] at h
       subst e
       obtain ⟨h1, h2, h3⟩ := zj7 (zu8 h)
       refine ⟨h1, h3, fun ρ' ha => ?_⟩
       obtain ⟨sl, e1, e2⟩ := ha k _ h2
       simp only [Src.is] at e2
       simp only [VR] at hv
       obtain ⟨sl', i, e3, e4, e5⟩ := hv
       rw [e2] at e3; injection e3 with e3; subst e3
       simp only [VR]
       exact ⟨sl, i, e1, e4, e5⟩
     · rw [if_neg e] at h; cases h
 | .map k, c, v, M, M', x, h, hv => by
   show zxi D ρ lv n M M' (.map k) v
   cases c <;> first | (cases h; done) | skip
   case map s =>
     obtain ⟨h1, h2, h3⟩ := zj7 (zu8 h)
     refine ⟨h1, h3, fun ρ' ha => ?_⟩
     obtain ⟨sl, e1, e2⟩ := ha k _ h2
     simp only [Src.is] at e2
     simp only [VR] at hv
     obtain ⟨sl', i, e3, e4, e5⟩ := hv
     rw [e2] at e3; injection e3 with e3; subst e3
     simp only [VR]
     exact ⟨sl, i, e1, e4, e5⟩
 | .mc t, c, v, M, M', x, h, hv => by
   cases c <;> first | (cases h; done) | skip
   case mc t' es =>
     replace h : (match zrc t' t es with | some es => FR.ok (M, (List.map Prod.fst es, (List.map Prod.snd es, ()))) | none => .bad) = .ok (M', x) := h
     cases hys : zrc t' t es with
     | none => rw [hys] at h; cases h
     | some ys =>
       rw [hys] at h
       obtain ⟨e1, e2⟩ := zui hys
       subst e1
       replace e2 : ys = es := e2
       subst e2
       cases h
       refine ⟨fun _ _ h => h, fun h => h, fun ρ' ha => ?_⟩
       show VR D ρ' lv (.mc t' (List.zip (List.map Prod.fst ys) (List.map Prod.snd ys))) v
       rw [show List.zip (List.map Prod.fst ys) (List.map Prod.snd ys) = ys from zvm ys]
       unfold VR at hv ⊢
       exact hv
 | .bp k, c, v, M, M', x, h, hv => by
   show zxi D ρ lv n M M' (.bp k 0) v
   cases c <;> first | (cases h; done) | skip
   case bp s off =>
     cases off with
     | succ off => cases h
     | zero =>
     obtain ⟨h1, h2, h3⟩ := zj7 (zu8 h)
     refine ⟨h1, h3, fun ρ' ha => ?_⟩
     obtain ⟨sl, e1, e2⟩ := ha k _ h2
     simp only [Src.is] at e2
     simp only [VR] at hv
     obtain ⟨sl', i, e3, e4, e5⟩ := hv
     rw [e2] at e3; injection e3 with e3; subst e3
     simp only [VR]
     exact ⟨sl, i, e1, e4, e5⟩
 | .nilp, c, v, M, M', x, h, hv => by
   show zxi D ρ lv n M M' .nilp v
   cases c <;> first | (cases h; done) | skip
   cases h; exact ⟨fun _ _ h => h, fun h => h, fun ρ' _ => by simpa only [VR] using hv⟩
 | .nilf, c, v, M, M', x, h, hv => by
   show zxi D ρ lv n M M' .nilf v
   cases c <;> first | (cases h; done) | skip
   cases h; exact ⟨fun _ _ h => h, fun h => h, fun ρ' _ => by simpa only [VR] using hv⟩
 | .nili, c, v, M, M', x, h, hv => by
   show zxi D ρ lv n M M' .nili v
   cases c <;> first | (cases h; done) | skip
   cases h; exact ⟨fun _ _ h => h, fun h => h, fun ρ' _ => by simpa only [VR] using hv⟩
 | .nils, c, v, M, M', x, h, hv => by
   show zxi D ρ lv n M M' .nils v
   cases c <;> first | (cases h; done) | skip
   cases h; exact ⟨fun _ _ h => h, fun h => h, fun ρ' _ => by simpa only [VR] using hv⟩
 | .fn f a b, c, v, M, M', x, h, hv => by
   cases c <;> first | (cases h; done) | skip
   case fn f' a' b' =>
     rw [ytq] at h
     by_cases e : f = f'
     · rw [if_pos e] at h
       subst e
       split at h
       · rename_i M1 y hy
         split at h
         · rename_i M2 z hz
           cases h
           simp only [VR] at hv
           obtain ⟨as, bs, rfl, k1, k2⟩ := hv
           obtain ⟨a1, a2, a3⟩ := zdi a hy k1
           obtain ⟨b1, b2, b3⟩ := zdi b hz k2
           refine ⟨fun j src hj => b1 j src (a1 j src hj), fun h => b2 (a2 h), fun ρ' ha => ?_⟩
           rw [ytn]
           simp only [VR]
           exact ⟨as, bs, rfl, a3 ρ' (b1.agr ha), b3 ρ' ha⟩
         · cases h
         · cases h
       · cases h
       · cases h
     · rw [if_neg e] at h; cases h
 | .iface t s, c, v, M, M', x, h, hv => by
   show zxi D ρ lv n M M' (.iface t (zlb D (fun k => k) s x)) v
   cases c <;> first | (cases h; done) | skip
   case iface t' y' =>
     replace h : (if t = t' then yce D n s y' M else .bad) = .ok (M', x) := h
     by_cases e : t = t'
     · rw [if_pos e] at h
       subst e
       simp only [VR] at hv
       obtain ⟨y, rfl, k1⟩ := hv
       obtain ⟨a1, a2, a3⟩ := zuv s h k1
       exact ⟨a1, a2, fun ρ' ha => by simp only [VR]; exact ⟨y, rfl, a3 ρ' ha⟩⟩
     · rw [if_neg e] at h; cases h
 | .agg cs, c, v, M, M', x, h, hv => by
   show zxi D ρ lv n M M' (.agg (z5c D (fun k => k) cs x)) v
   cases c <;> first | (cases h; done) | skip
   case agg vs =>
     replace h : zss D n cs vs M = .ok (M', x) := h
     simp only [VR] at hv
     obtain ⟨y, rfl, k1⟩ := hv
     obtain ⟨a1, a2, a3⟩ := zdi cs h k1
     exact ⟨a1, a2, fun ρ' ha => by simp only [VR]; exact ⟨y, rfl, a3 ρ' ha⟩⟩
 | .tup cs, c, v, M, M', x, h, hv => by
   show zxi D ρ lv n M M' (.tup (z5c D (fun k => k) cs x)) v
   cases c <;> first | (cases h; done) | skip
   case tup vs =>
     replace h : zss D n cs vs M = .ok (M', x) := h
     simp only [VR] at hv
     obtain ⟨y, rfl, k1⟩ := hv
     obtain ⟨a1, a2, a3⟩ := zdi cs h k1
     exact ⟨a1, a2, fun ρ' ha => by simp only [VR]; exact ⟨y, rfl, a3 ρ' ha⟩⟩
 | .ref cs off, c, v, M, M', x, h, hv => by
   show zxi D ρ lv n M M' (.ref (z5c D (fun k => k) cs x) off) v
   cases c <;> first | (cases h; done) | skip
   case ref vs off' =>
     replace h : (if off = off' then zss D n cs vs M else .bad) = .ok (M', x) := h
     by_cases e : off = off'
     · rw [if_pos e] at h
       subst e
       simp only [VR] at hv
       obtain ⟨y, rfl, k1⟩ := hv
       obtain ⟨a1, a2, a3⟩ := zdi cs h k1
       exact ⟨a1, a2, fun ρ' ha => by simp only [VR]; exact ⟨y, rfl, a3 ρ' ha⟩⟩
     · rw [if_neg e] at h; cases h
theorem zdi {n : Nat} : ∀ (l : List Sh) {cs : List (TV D.T)} {vs : List V} {M M' : z6z D.T} {x : HL D.T (Sh.z8q l)}, zss D n l cs M = .ok (M', x) → VRL D ρ lv cs vs → FitL D ρ lv n M M' (z5c D (fun k => k) l x) vs
 | [], cs, vs, M, M', x, h, hv => by
   cases cs with
   | nil => cases h; exact ⟨fun _ _ h => h, fun h => h, fun ρ' _ => (by simpa only [VRL] using hv : VRL D ρ' lv [] vs)⟩
   | cons c cs => cases h
 | sh :: l, cs, vs, M, M', x, h, hv => by
   cases cs with
   | nil => cases h
   | cons c cs =>
     simp only [VRL] at hv
     obtain ⟨v, r, rfl, k1, k2⟩ := hv
     rw [ypv] at h
     split at h
     · rename_i M1 y hy
       split at h
       · rename_i M2 z hz
         cases h
         obtain ⟨a1, a2, a3⟩ := zuv sh hy k1
         obtain ⟨b1, b2, b3⟩ := zdi l hz k2
         refine ⟨fun j src hj => b1 j src (a1 j src hj), fun h => b2 (a2 h), fun ρ' ha => ?_⟩
         rw [yqo]
         simp only [VRL]
         exact ⟨v, r, rfl, a3 ρ' (b1.agr ha), b3 ρ' ha⟩
       · cases h
       · cases h
     · cases h
     · cases h
end
theorem yn6 {n : Nat} (hR : TRr D F ρ ts σ) {o : OSh} {src : Src D.T} {M M' : z6z D.T} {x : HL D.T o.tys} (h : ycf D n ts o src M = .ok (M', x)) :
  yik M M' ∧ (MOk n M → MOk n M') ∧ (∀ s, src = .slot s → ∃ o', fnd ts.o s = some o' ∧ o'.live) ∧ ∀ ρ' sl, Agr ρ M' ρ' → src.is ρ sl → OR D ρ' F.lv σ.H.L sl (zne D (fun k => k) o x) := by
 cases o with
 | cells cs =>
   cases src with
   | nil => cases h
   | slot s =>
     simp only [ycf] at h
     cases ho : fnd ts.o s with
     | none => rw [ho] at h; cases h
     | some o' =>
       rw [ho] at h
       cases o' <;> first | (cases h; done) | skip
       rename_i vs
       obtain ⟨sl', k1, k2⟩ := hR.ob s _ ho
       simp only [OR] at k2
       obtain ⟨i, us, q1, q2, q3⟩ := k2
       obtain ⟨a1, a2, a3⟩ := zdi hD cs h q3
       refine ⟨a1, a2, fun s' e => by injection e with e; subst e; exact ⟨_, ho, trivial⟩, fun ρ' sl ha hs => ?_⟩
       simp only [Src.is] at hs
       rw [k1] at hs; injection hs with hs; subst hs
       simp only [zne, OR]
       exact ⟨i, us, q1, q2, a3 ρ' ha⟩
 | st i =>
   cases src with
   | nil => cases h
   | slot s =>
     simp only [ycf] at h
     cases ho : fnd ts.o s with
     | none => rw [ho] at h; cases h
     | some o' =>
       rw [ho] at h
       cases o' <;> first | (cases h; done) | skip
       rename_i vs
       replace h : (match zeu D (D.fl i) vs with | .ok x => FR.ok (M, (D.make i x, ())) | .frz s => .frz s | .bad => .bad) = .ok (M', x) := h
       obtain ⟨sl', k1, k2⟩ := hR.ob s _ ho
       simp only [OR] at k2
       obtain ⟨i', us, q1, q2, q3⟩ := k2
       cases hl : zeu D (D.fl i) vs with
       | frz s => rw [hl] at h; cases h
       | bad => rw [hl] at h; cases h
       | ok y =>
         rw [hl] at h
         cases h
         refine ⟨fun _ _ h => h, fun h => h, fun s' e => by injection e with e; subst e; exact ⟨_, ho, trivial⟩, fun ρ' sl ha hs => ?_⟩
         simp only [Src.is] at hs
         rw [k1] at hs; injection hs with hs; subst hs
         obtain ⟨m1, m2⟩ := zl1 hl q3
         show OR D ρ' F.lv σ.H.L sl' (.cells (D.leaves (D.fl i) (D.get i (D.make i y))))
         rw [hD.getMake]
         simp only [OR]
         refine ⟨i', us, q1, q2, .of (by rw [zq3, m1]) fun j c v hc hv => ?_⟩
         rw [zib, Option.map_eq_some_iff] at hc
         obtain ⟨p, hp, rfl⟩ := hc
         exact VR.leaf (m2 j p v hp hv)
 | acc ty t w =>
   cases src with
   | nil =>
     cases h
     refine ⟨fun _ _ h => h, fun h => h, fun s e => (by cases e), fun ρ' sl ha hs => ?_⟩
     simp only [Src.is] at hs
     subst hs
     show OR D ρ' F.lv σ.H.L zso (.acc ty t [] w)
     simp only [OR, zso]
     exact ⟨rfl, fun j x v hx => by simp at hx, .inl ⟨trivial, trivial⟩⟩
   | slot s =>
     simp only [ycf] at h
     cases ho : fnd ts.o s with
     | none => rw [ho] at h; cases h
     | some o' =>
       rw [ho] at h
       cases o' <;> first | (cases h; done) | skip
       rename_i ty' t' xs w'
       replace h : (if ty = ty' ∧ (w = true → w' = true) then (match zm1 t' t xs with | some xs => FR.ok (M, (xs, ())) | none => .bad) else .bad) = .ok (M', x) := h
       by_cases hc : ty = ty' ∧ (w = true → w' = true)
       · rw [if_pos hc] at h
         cases hys : zm1 t' t xs with
         | none => rw [hys] at h; cases h
         | some ys =>
           rw [hys] at h
           obtain ⟨e1, e2⟩ := zbz hys
           subst e1
           replace e2 : ys = xs := e2
           subst e2
           cases h
           obtain ⟨sl', k1, k2⟩ := hR.ob s _ ho
           refine ⟨fun _ _ h => h, fun h => h, fun s' e => by injection e with e; subst e; exact ⟨_, ho, trivial⟩, fun ρ' sl ha hs => ?_⟩
           simp only [Src.is] at hs
           rw [k1] at hs; injection hs with hs; subst hs
           obtain ⟨hty, hw⟩ := hc
           subst hty
           simp only [OR] at k2
           obtain ⟨q1, q2, q3⟩ := k2
           show OR D ρ' F.lv σ.H.L sl' (.acc ty t' ys w)
           simp only [OR]
           refine ⟨q1, q2, ?_⟩
           cases hk : sl'.k with
           | none =>
             rw [hk] at q3
             rcases q3 with q | ⟨q, q'⟩
             · exact .inl q
             · exact .inr ⟨q, fun e => q' (hw e)⟩
           | some i => rw [hk] at q3; exact q3
       · rw [if_neg hc] at h; cases h
 | siter =>
   cases src with
   | nil => cases h
   | slot s =>
     simp only [ycf] at h
     cases ho : fnd ts.o s with
     | none => rw [ho] at h; cases h
     | some o' =>
       rw [ho] at h
       cases o' <;> first | (cases h; done) | skip
       rename_i l pos
       cases h
       obtain ⟨sl', k1, k2⟩ := hR.ob s _ ho
       refine ⟨fun _ _ h => h, fun h => h, fun s' e => by injection e with e; subst e; exact ⟨_, ho, trivial⟩, fun ρ' sl ha hs => ?_⟩
       simp only [Src.is] at hs
       rw [k1] at hs; injection hs with hs; subst hs
       exact k2
 | mp ty t =>
   cases src with
   | nil => cases h
   | slot s =>
     simp only [ycf] at h
     cases ho : fnd ts.o s with
     | none => rw [ho] at h; cases h
     | some o' =>
       rw [ho] at h
       cases o' <;> first | (cases h; done) | skip
       rename_i ty' t' es
       replace h : (if ty = ty' then (match zrc t' t es with | some es => FR.ok (M, (List.map Prod.fst es, (List.map Prod.snd es, ()))) | none => .bad) else .bad) = .ok (M', x) := h
       by_cases hc : ty = ty'
       · rw [if_pos hc] at h
         cases hys : zrc t' t es with
         | none => rw [hys] at h; cases h
         | some ys =>
           rw [hys] at h
           obtain ⟨e1, e2⟩ := zui hys
           subst e1
           replace e2 : ys = es := e2
           subst e2
           cases h
           obtain ⟨sl', k1, k2⟩ := hR.ob s _ ho
           refine ⟨fun _ _ h => h, fun h => h, fun s' e => by injection e with e; subst e; exact ⟨_, ho, trivial⟩, fun ρ' sl ha hs => ?_⟩
           simp only [Src.is] at hs
           rw [k1] at hs; injection hs with hs; subst hs
           subst hc
           show OR D ρ' F.lv σ.H.L sl' (.mp ty t' (List.zip (List.map Prod.fst ys) (List.map Prod.snd ys)))
           rw [show List.zip (List.map Prod.fst ys) (List.map Prod.snd ys) = ys from zvm ys]
           exact k2
       · rw [if_neg hc] at h; cases h
 | mit t =>
   cases src with
   | nil => cases h
   | slot s =>
     simp only [ycf] at h
     cases ho : fnd ts.o s with
     | none => rw [ho] at h; cases h
     | some o' =>
       rw [ho] at h
       cases o' <;> first | (cases h; done) | skip
       rename_i t' last es
       replace h : (match zrc t' t es with | some es => FR.ok (M, (List.map Prod.fst es, (List.map Prod.snd es, ()))) | none => .bad) = .ok (M', x) := h
       cases hys : zrc t' t es with
       | none => rw [hys] at h; cases h
       | some ys =>
         rw [hys] at h
         obtain ⟨e1, e2⟩ := zui hys
         subst e1
         replace e2 : ys = es := e2
         subst e2
         cases h
         obtain ⟨sl', k1, k2⟩ := hR.ob s _ ho
         refine ⟨fun _ _ h => h, fun h => h, fun s' e => by injection e with e; subst e; exact ⟨_, ho, trivial⟩, fun ρ' sl ha hs => ?_⟩
         simp only [Src.is] at hs
         rw [k1] at hs; injection hs with hs; subst hs
         show OR D ρ' F.lv σ.H.L sl' (.mit t' none (List.zip (List.map Prod.fst ys) (List.map Prod.snd ys)))
         rw [show List.zip (List.map Prod.fst ys) (List.map Prod.snd ys) = ys from zvm ys]
         simp only [OR] at k2 ⊢
         obtain ⟨i, fs, vis, q1, q2, q3, q4, q5, _⟩ := k2
         exact ⟨i, fs, vis, q1, q2, q3, q4, q5, fun p hp => by cases hp⟩
 | bld ty k =>
   cases src with
   | nil => cases h
   | slot s =>
     simp only [ycf] at h
     cases ho : fnd ts.o s with
     | none => rw [ho] at h; cases h
     | some o' =>
       rw [ho] at h
       cases o' <;> first | (cases h; done) | skip
       rename_i ty' b
       replace h : (if ty = ty' then (match b with | some q => frU (zwx n k q M) | none => frU (ykx n k M)) else .bad) = .ok (M', x) := h
       by_cases hty : ty = ty'
       · rw [if_pos hty] at h
         subst hty
         obtain ⟨sl', k1, k2⟩ := hR.ob s _ ho
         simp only [OR] at k2
         obtain ⟨i, u, c, q1, q2, q3, q4⟩ := k2
         cases b with
         | some q =>
           obtain ⟨h1, h2, h3⟩ := zj7 (zu8 h)
           refine ⟨h1, h3, fun s' e => by injection e with e; subst e; exact ⟨_, ho, trivial⟩, fun ρ' sl ha hs => ?_⟩
           simp only [Src.is] at hs
           rw [k1] at hs; injection hs with hs; subst hs
           obtain ⟨sq, e1, e2⟩ := ha k _ h2
           simp only [Src.is] at e2
           simp only [yez, VR] at q4
           obtain ⟨sq', e3, e4, e5⟩ := q4
           rw [e2] at e3; injection e3 with e3; subst e3
           simp only [zne, OR]
           exact ⟨i, u, c, q1, q2, q3, by simp only [yez, VR]; exact ⟨sq, e1, e4, e5⟩⟩
         | none =>
           obtain ⟨h1, h2, h3⟩ := y05 (zu8 h)
           refine ⟨h1, h3, fun s' e => by injection e with e; subst e; exact ⟨_, ho, trivial⟩, fun ρ' sl ha hs => ?_⟩
           simp only [Src.is] at hs
           rw [k1] at hs; injection hs with hs; subst hs
           obtain ⟨sq, e1, e2⟩ := ha k _ h2
           simp only [Src.is] at e2
           subst e2
           simp only [yez, VR] at q4
           subst q4
           simp only [zne, OR]
           exact ⟨i, u, _, q1, q2, q3, by simp only [yez, VR]; exact ⟨zso, e1, rfl, rfl⟩⟩
       · rw [if_neg hty] at h; cases h
omit hD in
theorem yda {m : Nat → Nat} {o : OSh} {x : HL D.T o.tys} : (zne D m o x).live := by cases o <;> trivial
omit hD in
theorem yo5 (n : Nat) (o : OSh) (os : List OSh) (k : Nat) (M : z6z D.T) : ydf D n ts (o :: os) k M = (match fnd M k with
  | some src => match ycf D n ts o src M with
    | .ok (M, x) => match ydf D n ts os (k + 1) M with
      | .ok (M, y) => .ok (M, HL.app x y)
      | .frz s => .frz s
      | .bad => .bad
    | .frz s => .frz s
    | .bad => .bad
  | none => .bad) := rfl
omit hD in
theorem yoa (m : Nat → Nat) (o : OSh) (os : List OSh) (k : Nat) (x : HL D.T o.tys) (y : HL D.T (z92 os)) : zaj D m (o :: os) k (HL.app x y) = (m k, zne D m o x) :: zaj D m os (k + 1) y := by
 show (m k, zne D m o (HL.fst _ (HL.app x y))) :: zaj D m os (k + 1) (HL.snd _ (HL.app x y)) = _
 rw [HL.zpt, HL.zpu]
theorem zrr {n : Nat} (hR : TRr D F ρ ts σ) : ∀ (os : List OSh) {k : Nat} {M M' : z6z D.T} {x : HL D.T (z92 os)}, ydf D n ts os k M = .ok (M', x) →
  yik M M' ∧ (MOk n M → MOk n M') ∧ (∀ j, j < os.length → ∃ src, fnd M' (k + j) = some src ∧ ∀ s, src = .slot s → ∃ o', fnd ts.o s = some o' ∧ o'.live) ∧
  (∀ ρ', Agr ρ M' ρ' → ∀ j o, (j, o) ∈ zaj D (fun k => k) os k x → k ≤ j ∧ j < k + os.length ∧ o.live ∧ ∃ sl, ρ'[j]? = some sl ∧ OR D ρ' F.lv σ.H.L sl o)
 | [], k, M, M', x, h => by
   cases h
   exact ⟨fun _ _ h => h, fun h => h, fun j hj => by simp at hj, fun ρ' _ j o hm => by cases hm⟩
 | o :: os, k, M, M', x, h => by
   rw [yo5] at h
   split at h
   · rename_i src hsrc
     split at h
     · rename_i M1 y hy
       split at h
       · rename_i M2 z hz
         cases h
         obtain ⟨a1, a2, a3, a4⟩ := yn6 hD hR hy
         obtain ⟨b1, b2, b3, b4⟩ := zrr hR os hz
         refine ⟨fun j s hj => b1 j s (a1 j s hj), fun h => b2 (a2 h), fun j hj => ?_, fun ρ' ha j o' hm => ?_⟩
         · cases j with
           | zero => exact ⟨src, b1 _ _ (a1 _ _ hsrc), a3⟩
           | succ j =>
             obtain ⟨src', e1, e2⟩ := b3 j (by simpa using hj)
             exact ⟨src', by rw [← e1]; congr 1; omega, e2⟩
         · rw [yoa] at hm
           rcases List.mem_cons.1 hm with hm | hm
           · injection hm with h1 h2
             subst h1; subst h2
             obtain ⟨sl, e1, e2⟩ := ha j src (b1 _ _ (a1 _ _ hsrc))
             exact ⟨Nat.le_refl _, by simp, yda, sl, e1, a4 ρ' sl (b1.agr ha) e2⟩
           · obtain ⟨e1, e2, e3⟩ := b4 ρ' ha j o' hm
             exact ⟨by omega, by simp only [List.length_cons]; omega, e3⟩
       · cases h
       · cases h
     · cases h
     · cases h
   · cases h
omit hD in
theorem yny (n : Nat) (p : Nat × Sh) (l : List (Nat × Sh)) (M : z6z D.T) : ykf D n ts (p :: l) M = (match fnd ts.t p.1 with
  | some v => match yce D n p.2 v M with
    | .ok (M, x) => match ykf D n ts l M with
      | .ok (M, y) => .ok (M, HL.app x y)
      | .frz s => .frz s
      | .bad => .bad
    | .frz s => .frz s
    | .bad => .bad
  | none => .bad) := rfl
omit hD in
theorem yqf (m : Nat → Nat) (p : Nat × Sh) (l : List (Nat × Sh)) (x : HL D.T p.2.tys) (y : HL D.T (ypq l)) : yli D m (p :: l) (HL.app x y) = (p.1, zlb D m p.2 x) :: yli D m l y := by
 show (p.1, zlb D m p.2 (HL.fst _ (HL.app x y))) :: yli D m l (HL.snd _ (HL.app x y)) = _
 rw [HL.zpt, HL.zpu]
theorem y03 {n : Nat} (hR : TRr D F ρ ts σ) : ∀ (l : List (Nat × Sh)) {M M' : z6z D.T} {x : HL D.T (ypq l)}, ykf D n ts l M = .ok (M', x) →
  yik M M' ∧ (MOk n M → MOk n M') ∧ ∀ ρ', Agr ρ M' ρ' → ∀ j c, (j, c) ∈ yli D (fun k => k) l x → ∃ v, σ.t[j]? = some v ∧ VR D ρ' F.lv c v
 | [], M, M', x, h => by
   cases h
   exact ⟨fun _ _ h => h, fun h => h, fun ρ' _ j o hm => by cases hm⟩
 | p :: l, M, M', x, h => by
   rw [yny] at h
   split at h
   · rename_i c hc
     split at h
     · rename_i M1 y hy
       split at h
       · rename_i M2 z hz
         cases h
         obtain ⟨v, k1, k2⟩ := hR.tm _ _ hc
         obtain ⟨a1, a2, a3⟩ := zuv hD p.2 hy k2
         obtain ⟨b1, b2, b3⟩ := y03 hR l hz
         refine ⟨fun j s hj => b1 j s (a1 j s hj), fun h => b2 (a2 h), fun ρ' ha j c' hm => ?_⟩
         rw [yqf] at hm
         rcases List.mem_cons.1 hm with hm | hm
         · injection hm with h1 h2
           subst h1; subst h2
           exact ⟨v, k1, a3 ρ' (b1.agr ha)⟩
         · exact b3 ρ' ha j c' hm
       · cases h
       · cases h
     · cases h
     · cases h
   · cases h
omit hD in
theorem yri (hR : TRr D F ρ ts σ) {M : z6z D.T} {n : Nat} (hM : MOk n M) (hall : ∀ j, j < n → ∃ src, fnd M j = some src ∧ ∀ s, src = .slot s → ∃ o', fnd ts.o s = some o' ∧ o'.live) :
  ∃ ρ' : List Slot, ρ'.length = n ∧ Agr ρ M ρ' ∧ ∀ j sl, ρ'[j]? = some sl → ∃ src, fnd M j = some src ∧ src.is ρ sl := by
 have step : ∀ m, m ≤ n → ∃ ρ' : List Slot, ρ'.length = m ∧ ∀ j, j < m → ∃ sl src, ρ'[j]? = some sl ∧ fnd M j = some src ∧ src.is ρ sl := fun m => by
  induction m with
  | zero => exact fun _ => ⟨[], rfl, fun j hj => by omega⟩
  | succ m ih =>
    intro hm
    obtain ⟨ρ', h1, h2⟩ := ih (by omega)
    obtain ⟨src, k1, k2⟩ := hall m (by omega)
    have hsl : ∃ sl, src.is ρ sl := by
      cases src with
      | nil => exact ⟨zso, rfl⟩
      | slot s =>
        obtain ⟨o', e1, _⟩ := k2 s rfl
        obtain ⟨sl, e2, _⟩ := hR.ob s o' e1
        exact ⟨sl, e2⟩
    obtain ⟨sl, hsl⟩ := hsl
    refine ⟨ρ' ++ [sl], by simp [h1], fun j hj => ?_⟩
    by_cases e : j = m
    · subst e; exact ⟨sl, src, by rw [← h1]; simp, k1, hsl⟩
    · obtain ⟨sl', src', e1, e2, e3⟩ := h2 j (by omega)
      exact ⟨sl', src', lookup_append e1, e2, e3⟩
 obtain ⟨ρ', h1, h2⟩ := step n (Nat.le_refl _)
 refine ⟨ρ', h1, fun k src hk => ?_, fun j sl hj => ?_⟩
 ·obtain ⟨sl, src', e1, e2, e3⟩ := h2 k (hM.lt k src hk)
  rw [hk] at e2; injection e2 with e2; subst e2
  exact ⟨sl, e1, e3⟩
 ·obtain ⟨sl', src', e1, e2, e3⟩ := h2 j (by rw [← h1]; exact (List.getElem?_eq_some_iff.1 hj).1)
  rw [hj] at e1; injection e1 with e1; subst e1
  exact ⟨src', e2, e3⟩
omit hD in
theorem zro : ∀ {n k : Nat} {src : Src T}, fnd (pins n) k = some src → k < n ∧ src = .slot k
 | 0, k, src, h => by simp [pins, fnd] at h
 | n + 1, k, src, h => by
   simp only [pins, yzi] at h
   split at h
   · rename_i e; injection h with h; subst e; exact ⟨by omega, h.symm⟩
   · obtain ⟨h1, h2⟩ := zro h; exact ⟨by omega, h2⟩
omit hD in
theorem yd5 : ∀ {n k : Nat}, k < n → fnd (pins (T := T) n) k = some (.slot k)
 | 0, k, h => by omega
 | n + 1, k, h => by
   simp only [pins, yzi]
   split
   · rename_i e; rw [e]
   · exact yd5 (by omega)
omit hD in
theorem yl6 : ∀ {n k : Nat} {src : Src T}, (k, src) ∈ pins (T := T) n → fnd (pins n) k = some src
 | 0, k, src, h => by cases h
 | n + 1, k, src, h => by
   simp only [pins, yzi]
   rcases List.mem_cons.1 h with h | h
   · injection h with h1 h2; subst h1; subst h2; rw [if_pos rfl]
   · have := yl6 h
     split
     · rename_i e; subst e; have := (zro this).1; omega
     · exact this
theorem LSh.zsk (hR : TRr D F ρ ts σ) {l : LSh} {x : HL D.T l.tys} (hp : F.pin.length ≤ l.pin) (hp2 : l.pin ≤ l.os.length) (h : l.fit D ts = .ok x) : ∃ ρ', TRr D F ρ' (l.bld D x) σ := by
 unfold LSh.fit at h
 by_cases hnt0 : ts.nt = l.nt ∧ ts.d.isEmpty = true
 rotate_left
 ·rw [if_neg hnt0] at h; cases h
 rw [if_pos hnt0] at h
 obtain ⟨hnt, hde⟩ := hnt0
 have hde : ts.d = [] := by simpa using hde
 split at h
 ·rename_i M y hy
  split at h
  ·rename_i M' z hz
   cases h
   obtain ⟨a1, a2, a3⟩ := y03 hD hR l.ts hy
   obtain ⟨b1, b2, b3, b4⟩ := zrr hD hR l.os hz
   have hM : MOk l.os.length M' := b2 (a2 ⟨fun k src h => by have := (zro h).1; omega, fun k k' s h h' => by have e := (zro h).2; have e' := (zro h').2; injection e with e; injection e' with e'; omega, fun k src hm => yl6 hm⟩)
   obtain ⟨ρ', c1, c2, c3⟩ := yri hR hM fun j hj => by simpa using b3 j hj
   have hb : l.bld D (HL.app y z) = ⟨yli D (fun k => k) l.ts y, zaj D (fun k => k) l.os 0 z, l.os.length, l.nt, []⟩ := by
    show (⟨yli D (fun k => k) l.ts (HL.fst _ (HL.app y z)), zaj D (fun k => k) l.os 0 (HL.snd _ (HL.app y z)), l.os.length, l.nt, []⟩ : TS D.T) = _
    rw [HL.zpt, HL.zpu]
   rw [hb]
   have place : ∀ s sl i, ρ'[s]? = some sl → sl.k = some i → ∃ s0 o0, fnd M' s = some (.slot s0) ∧ fnd ts.o s0 = some o0 ∧ o0.live ∧ ρ[s0]? = some sl := fun s sl i hs hk => by
    obtain ⟨src, e1, e2⟩ := c3 s sl hs
    cases src with
    | nil => simp only [Src.is] at e2; subst e2; cases hk
    | slot s0 =>
      obtain ⟨src', e3, e4⟩ := b3 s (by rw [← c1]; exact (List.getElem?_eq_some_iff.1 hs).1)
      rw [Nat.zero_add, e1] at e3; injection e3 with e3; subst e3
      obtain ⟨o0, f1, f2⟩ := e4 s0 rfl
      exact ⟨s0, o0, e1, f1, f2, e2⟩
   refine ⟨ρ', c1, hR.nt.trans hnt, fun j c hj => a3 ρ' (b1.agr c2) j c (zcu hj), fun s o ho => ?_, fun s s' o o' sl sl' i h1 h2 l1 l2 r1 r2 k1 k2 => ?_, fun s o sl i h1 l1 r1 k1 => ?_, hR.lv, hR.E, hR.e0, (by have := hR.d; rw [hde] at this; exact this), hR.out, fun j sl hj => ?_⟩
   rotate_right
   ·have hlt := (List.getElem?_eq_some_iff.1 hj).1
    obtain ⟨sl', e1, e2⟩ := c2 j _ (b1 _ _ (a1 _ _ (yd5 (n := l.pin) (k := j) (by omega))))
    simp only [Src.is] at e2
    rw [hR.pin j sl hj] at e2; injection e2 with e2; subst e2; exact e1
   ·obtain ⟨_, _, _, sl, e1, e2⟩ := b4 ρ' c2 s o (zcu ho)
    exact ⟨sl, e1, e2⟩
   ·obtain ⟨s0, o0, d1, d2, d3, d4⟩ := place s sl i r1 k1
    obtain ⟨s1, o1, e1, e2, e3, e4⟩ := place s' sl' i r2 k2
    have := hR.inj s0 s1 o0 o1 sl sl' i d2 e2 d3 e3 d4 e4 k1 k2
    subst this
    exact hM.inj s s' s0 d1 e1
   ·obtain ⟨s0, o0, d1, d2, d3, d4⟩ := place s sl i r1 k1
    exact hR.mine s0 o0 sl i d2 d3 d4 k1
  ·cases h
  ·cases h
 ·cases h
 ·cases h
omit hD in
def TR (D : Dat) (F : Fr) (ts : TS D.T) (σ : St) : Prop := ∃ τ ρ, zqp σ τ ∧ TRr D F ρ ts τ
omit hD in
theorem TRr.tr (hR : TRr D F ρ ts σ) : TR D F ts σ := ⟨σ, ρ, .refl σ, hR⟩
omit hD in
theorem TR.freeze (h : TR D F ts σ) {s : Nat} {ts' : TS D.T} (hf : ts.freeze D s = some ts') : TR D F ts' σ := by
 obtain ⟨τ, ρ, h1, h2⟩ := h
 obtain ⟨υ, h3, h4⟩ := zv8 h2 hf
 exact ⟨υ, ρ, h1.trans h3, h4⟩
theorem LSh.zj9 {R : Type} {l : LSh} (hp : F.pin.length ≤ l.pin) (hp2 : l.pin ≤ l.os.length) {k : HL D.T l.tys → Option R} {r : R} : ∀ {f : Nat} {ts : TS D.T}, TR D F ts σ → LSh.enter D l k f ts = some r → ∃ x, k x = some r ∧ TR D F (l.bld D x) σ
 | 0, ts, hT, h => by simp [LSh.enter] at h
 | f + 1, ts, hT, h => by
   simp only [LSh.enter] at h
   split at h
   · rename_i x hx
     obtain ⟨τ, ρ, h1, h2⟩ := hT
     obtain ⟨ρ', h3⟩ := LSh.zsk hD h2 hp hp2 hx
     exact ⟨x, h, τ, ρ', h1, h3⟩
   · split at h
     · rename_i s _ ts' hf
       obtain ⟨x, h1, h2⟩ := LSh.zj9 hp hp2 (hT.freeze hf) h
       exact ⟨x, h1, h2⟩
     · cases h
   · cases h
end
end Go.Ab


namespace Go.Ab
open Go
set_option linter.unusedVariables false
set_option linter.unusedSimpArgs false
set_option linter.unusedSectionVars false
section
variable {P : Program} {D : Dat} {F : Fr} {ρ : List Slot} {ts : TS D.T} {σ : St} {lv : Nat} {T : Nat → Type}
theorem zu7 {α : Type} : ∀ (a b : List (Nat × α)) (j : Nat), fnd (a ++ b) j = match fnd a j with | some x => some x | none => fnd b j
 | [], b, j => rfl
 | (i, x) :: a, b, j => by
   rw [List.cons_append, yzi, yzi]
   split
   · rfl
   · exact zu7 a b j
theorem VR.zll {ρ' : List Slot} {lv' : Nat} {t : DTy} {x : t.S D.T} {v : V} (h : VR D ρ lv (D.leaf t x) v) : VR D ρ' lv' (D.leaf t x) v := by
 cases t <;> first | (simp only [Dat.leaf, VR]; done) | simpa only [Dat.leaf, VR] using h
theorem VR.data {ρ' : List Slot} {lv' : Nat} {t : DTy} {x : t.S D.T} {v : V} (hD : D.Ok P) (h : VR D ρ lv (D.tv t x) v) : VR D ρ' lv' (D.tv t x) v := by
 cases t with
 | st i =>
   simp only [Dat.tv, VR] at h ⊢
   obtain ⟨vs, rfl, h⟩ := h
   refine ⟨vs, rfl, .of h.length fun j c v hc hv => ?_⟩
   have := h.yb8 hc hv
   rw [zib, Option.map_eq_some_iff] at hc
   obtain ⟨p, hp, rfl⟩ := hc
   exact VR.zll this
 | bool => exact VR.zll (t := .bool) h
 | int k => exact VR.zll (t := .int k) h
 | str => exact VR.zll (t := .str) h
 | nat => exact VR.zll (t := .nat) (x := x) h
 | sl t => exact VR.zll (t := .sl t) h
def Maps (m : Nat → Nat) (ρ ρ' : List Slot) : Prop := ∀ (j : Nat) (sl : Slot), ρ[j]? = some sl → ρ'[m j]? = some sl
variable {m : Nat → Nat} {ρ' : List Slot}
mutual
theorem VR.maps (hm : Maps m ρ ρ') (hD : D.Ok P) : ∀ (sh : Sh) {x : HL D.T sh.tys} {v : V}, VR D ρ lv (zlb D (fun k => k) sh x) v → VR D ρ' lv (zlb D m sh x) v
 | .any, x, v, h => (by simp only [VR] : VR D ρ' lv .any v)
 | .d t, x, v, h => by
   replace h : VR D ρ lv (D.tv t x.1) v := h
   show VR D ρ' lv (D.tv t x.1) v
   exact VR.data hD h
 | .own k, x, v, h => by
   replace h : VR D ρ lv (.own k) v := h
   show VR D ρ' lv (.own (m k)) v
   simp only [VR] at h ⊢
   obtain ⟨sl, h1, h2⟩ := h
   exact ⟨sl, hm k sl h1, h2⟩
 | .ptr k off, x, v, h => by
   replace h : VR D ρ lv (.ptr k off) v := h
   show VR D ρ' lv (.ptr (m k) off) v
   simp only [VR] at h ⊢
   obtain ⟨sl, i, h1, h2⟩ := h
   exact ⟨sl, i, hm k sl h1, h2⟩
 | .map k, x, v, h => by
   replace h : VR D ρ lv (.map k) v := h
   show VR D ρ' lv (.map (m k)) v
   simp only [VR] at h ⊢
   obtain ⟨sl, i, h1, h2⟩ := h
   exact ⟨sl, i, hm k sl h1, h2⟩
 | .mc t, x, v, h => by
   replace h : VR D ρ lv (.mc t (List.zip x.1 x.2.1)) v := h
   show VR D ρ' lv (.mc t (List.zip x.1 x.2.1)) v
   unfold VR at h ⊢
   exact h
 | .bp k, x, v, h => by
   replace h : VR D ρ lv (.bp k 0) v := h
   show VR D ρ' lv (.bp (m k) 0) v
   simp only [VR] at h ⊢
   obtain ⟨sl, i, h1, h2⟩ := h
   exact ⟨sl, i, hm k sl h1, h2⟩
 | .nilp, x, v, h => by
   replace h : VR D ρ lv .nilp v := h
   show VR D ρ' lv .nilp v
   simpa only [VR] using h
 | .nilf, x, v, h => by
   replace h : VR D ρ lv .nilf v := h
   show VR D ρ' lv .nilf v
   simpa only [VR] using h
 | .nili, x, v, h => by
   replace h : VR D ρ lv .nili v := h
   show VR D ρ' lv .nili v
   simpa only [VR] using h
 | .nils, x, v, h => by
   replace h : VR D ρ lv .nils v := h
   show VR D ρ' lv .nils v
   simpa only [VR] using h
 | .fn f a b, x, v, h => by
   replace h : VR D ρ lv (.fn f (z5c D (fun k => k) a (HL.fst _ x)) (z5c D (fun k => k) b (HL.snd _ x))) v := h
   show VR D ρ' lv (.fn f (z5c D m a (HL.fst _ x)) (z5c D m b (HL.snd _ x))) v
   simp only [VR] at h ⊢
   obtain ⟨as, bs, h1, h2, h3⟩ := h
   exact ⟨as, bs, h1, VRL.maps hm hD a h2, VRL.maps hm hD b h3⟩
 | .iface t s, x, v, h => by
   replace h : VR D ρ lv (.iface t (zlb D (fun k => k) s x)) v := h
   show VR D ρ' lv (.iface t (zlb D m s x)) v
   simp only [VR] at h ⊢
   obtain ⟨y, h1, h2⟩ := h
   exact ⟨y, h1, VR.maps hm hD s h2⟩
 | .agg cs, x, v, h => by
   replace h : VR D ρ lv (.agg (z5c D (fun k => k) cs x)) v := h
   show VR D ρ' lv (.agg (z5c D m cs x)) v
   simp only [VR] at h ⊢
   obtain ⟨y, h1, h2⟩ := h
   exact ⟨y, h1, VRL.maps hm hD cs h2⟩
 | .tup cs, x, v, h => by
   replace h : VR D ρ lv (.tup (z5c D (fun k => k) cs x)) v := h
   show VR D ρ' lv (.tup (z5c D m cs x)) v
   simp only [VR] at h ⊢
   obtain ⟨y, h1, h2⟩ := h
   exact ⟨y, h1, VRL.maps hm hD cs h2⟩
 | .ref cs off, x, v, h => by
   replace h : VR D ρ lv (.ref (z5c D (fun k => k) cs x) off) v := h
   show VR D ρ' lv (.ref (z5c D m cs x) off) v
   simp only [VR] at h ⊢
   obtain ⟨y, h1, h2⟩ := h
   exact ⟨y, h1, VRL.maps hm hD cs h2⟩
theorem VRL.maps (hm : Maps m ρ ρ') (hD : D.Ok P) : ∀ (l : List Sh) {x : HL D.T (Sh.z8q l)} {vs : List V}, VRL D ρ lv (z5c D (fun k => k) l x) vs → VRL D ρ' lv (z5c D m l x) vs
 | [], x, vs, h => by
   replace h : VRL D ρ lv [] vs := h
   show VRL D ρ' lv [] vs
   simpa only [VRL] using h
 | sh :: l, x, vs, h => by
   replace h : VRL D ρ lv (zlb D (fun k => k) sh (HL.fst _ x) :: z5c D (fun k => k) l (HL.snd _ x)) vs := h
   show VRL D ρ' lv (zlb D m sh (HL.fst _ x) :: z5c D m l (HL.snd _ x)) vs
   simp only [VRL] at h ⊢
   obtain ⟨v, r, h1, h2, h3⟩ := h
   exact ⟨v, r, h1, VR.maps hm hD sh h2, VRL.maps hm hD l h3⟩
end
theorem OR.maps (hm : Maps m ρ ρ') (hD : D.Ok P) {L : List (Option zz7)} {sl : Slot} {o : OSh} {x : HL D.T o.tys} (h : OR D ρ lv L sl (zne D (fun k => k) o x)) : OR D ρ' lv L sl (zne D m o x) := by
 cases o with
 | cells cs =>
   simp only [zne, OR] at h ⊢
   obtain ⟨i, vs, h1, h2, h3⟩ := h
   exact ⟨i, vs, h1, h2, VRL.maps hm hD cs h3⟩
 | st i =>
   simp only [zne, OR] at h ⊢
   obtain ⟨j, vs, h1, h2, h3⟩ := h
   refine ⟨j, vs, h1, h2, .of h3.length fun k c v hc hv => ?_⟩
   have := h3.yb8 hc hv
   rw [zib, Option.map_eq_some_iff] at hc
   obtain ⟨p, hp, rfl⟩ := hc
   exact VR.zll this
 | acc ty t w => exact h
 | siter => exact h
 | mp ty t => exact h
 | mit t => exact h
 | bld ty k =>
   simp only [zne, OR] at h ⊢
   obtain ⟨i, u, c, h1, h2, h3, h4⟩ := h
   refine ⟨i, u, c, h1, h2, h3, ?_⟩
   simp only [yez, VR] at h4 ⊢
   obtain ⟨sl, k1, k2⟩ := h4
   exact ⟨sl, hm k sl k1, k2⟩
theorem zr3 : ∀ (os : List OSh) {k : Nat} {x : HL D.T (z92 os)} {s : Nat} {o : TO D.T}, (s, o) ∈ zaj D m os k x → ∃ j, k ≤ j ∧ j < k + os.length ∧ s = m j ∧ ∃ (osh : OSh) (y : HL D.T osh.tys), o = zne D m osh y ∧ (j, zne D (fun k => k) osh y) ∈ zaj D (fun k => k) os k x
 | [], k, x, s, o, h => by cases h
 | osh :: os, k, x, s, o, h => by
   replace h : (s, o) ∈ (m k, zne D m osh (HL.fst _ x)) :: zaj D m os (k + 1) (HL.snd _ x) := h
   rcases List.mem_cons.1 h with h | h
   · injection h with h1 h2
     exact ⟨k, Nat.le_refl _, by simp, h1, osh, HL.fst _ x, h2, List.mem_cons_self⟩
   · obtain ⟨j, h1, h2, h3, osh', y, h4, h5⟩ := zr3 os h
     exact ⟨j, by omega, by simp only [List.length_cons]; omega, h3, osh', y, h4, List.mem_cons_of_mem _ h5⟩
theorem zs7 : ∀ {M : z6z D.T} {s : Nat} {o : TO D.T}, fnd (ziq D M) s = some o → o = .gone ∧ ∃ k, (k, Src.slot s) ∈ M
 | [], s, o, h => by simp [ziq, fnd] at h
 | (k, .slot s') :: M, s, o, h => by
   simp only [ziq, yzi] at h
   split at h
   · rename_i e; injection h with h; subst e; exact ⟨h.symm, k, List.mem_cons_self⟩
   · obtain ⟨h1, k', h2⟩ := zs7 h; exact ⟨h1, k', List.mem_cons_of_mem _ h2⟩
 | (k, .nil) :: M, s, o, h => by
   simp only [ziq] at h
   obtain ⟨h1, k', h2⟩ := zs7 h
   exact ⟨h1, k', List.mem_cons_of_mem _ h2⟩
theorem zpq : ∀ {M : z6z D.T} {s : Nat}, fnd (ziq D M) s = none → ∀ k, (k, Src.slot s) ∉ M
 | [], s, h, k, hm => by cases hm
 | (k', .slot s') :: M, s, h, k, hm => by
   simp only [ziq, yzi] at h
   split at h
   · cases h
   · rename_i e
     rcases List.mem_cons.1 hm with hm | hm
     · injection hm with _ hm; injection hm with hm; exact e hm.symm
     · exact zpq h k hm
 | (k', .nil) :: M, s, h, k, hm => by
   simp only [ziq] at h
   rcases List.mem_cons.1 hm with hm | hm
   · injection hm with _ hm; cases hm
   · exact zpq h k hm
structure Left (D : Dat) (lv : Nat) (L : List (Option zz7)) (ρ : List Slot) (p : Nat) (L' : List (Option zz7)) (ρ' : List Slot) (os : List OSh) (y : HL D.T (z92 os)) : Prop where
 len : ρ'.length = os.length
 ob : ∀ j o, (j, o) ∈ zaj D (fun k => k) os 0 y → ∃ sl, ρ'[j]? = some sl ∧ OR D ρ' lv L' sl o
 inj : ∀ (s s' : Nat) (sl sl' : Slot) (i : Nat), ρ'[s]? = some sl → ρ'[s']? = some sl' → sl.k = some i → sl'.k = some i → s = s'
 mine : ∀ (s : Nat) (sl : Slot) (i : Nat), ρ'[s]? = some sl → sl.k = some i → L.length ≤ i ∨ ∃ (k : Nat) (sl0 : Slot), ρ[k]? = some sl0 ∧ sl0.k = some i
 out : ∀ i, i < L.length → (∀ (k : Nat) (sl0 : Slot), ρ[k]? = some sl0 → sl0.k ≠ some i) → i < L'.length ∧ L'[i]? = L[i]?
 pin : ∀ (j : Nat) (sl : Slot), j < p → ρ[j]? = some sl → ρ'[j]? = some sl
theorem TRr.after (hR : TRr D F ρ ts σ) (hD : D.Ok P) {M : z6z D.T} {n p : Nat} (hM : MOk n M) {ρ0 : List Slot} (hA : Agr ρ M ρ0) (h0 : ∀ j sl, ρ0[j]? = some sl → ∃ src, fnd M j = some src ∧ src.is ρ sl ∧ ∀ s, src = .slot s → ∃ o', fnd ts.o s = some o' ∧ o'.live)
  (hMk : ∀ k s, (k, Src.slot s) ∈ M → fnd M k = some (.slot s)) (hp : ∀ k, k < p → ∃ s, fnd M k = some (.slot s)) {L' : List (Option zz7)} {ρ' : List Slot} {os : List OSh} {y : HL D.T (z92 os)} (hpo : p ≤ os.length) (hL : Left D F.lv σ.H.L ρ0 p L' ρ' os y) :
  TRr D F (ρ ++ ρ'.drop p) (zg5 D M p ts os y) { σ with H := ⟨F.lv, L', F.E⟩ } ∧ Maps (zal D M p ts.nx) ρ' (ρ ++ ρ'.drop p) := by
 have hmaps : Maps (zal D M p ts.nx) ρ' (ρ ++ ρ'.drop p) := fun j sl hj => by
  unfold zal
  by_cases hjp : j < p
  ·rw [if_pos hjp]
   obtain ⟨s, hs⟩ := hp j hjp
   obtain ⟨sl0, e1, e2⟩ := hA j _ hs
   have := hL.pin j sl0 hjp e1
   rw [hj] at this; injection this with this; subst this
   rw [hs]
   exact lookup_append e2
  ·rw [if_neg hjp, ← hR.nx, List.getElem?_append_right (by omega), List.getElem?_drop]
   rw [← hj]; congr 1; omega
 have minj : ∀ j j', j < os.length → j' < os.length → zal D M p ts.nx j = zal D M p ts.nx j' → j = j' := fun j j' hj hj' h => by
  unfold zal at h
  have low : ∀ j s, fnd M j = some (.slot s) → s < ts.nx := fun j s hs => by
   obtain ⟨sl0, e1, e2⟩ := hA j _ hs
   rw [← hR.nx]
   exact (List.getElem?_eq_some_iff.1 e2).1
  by_cases h1 : j < p <;> by_cases h2 : j' < p
  ·rw [if_pos h1, if_pos h2] at h
   obtain ⟨s, hs⟩ := hp j h1
   obtain ⟨s', hs'⟩ := hp j' h2
   rw [hs, hs'] at h
   simp only at h
   subst h
   exact hM.inj j j' s hs hs'
  ·obtain ⟨s, hs⟩ := hp j h1; rw [if_pos h1, if_neg h2, hs] at h; simp only at h; have := low j s hs; omega
  ·obtain ⟨s, hs⟩ := hp j' h2; rw [if_neg h1, if_pos h2, hs] at h; simp only at h; have := low j' s hs; omega
  ·rw [if_neg h1, if_neg h2] at h; omega
 have kinds : ∀ s o, fnd (zg5 D M p ts os y).o s = some o → (∃ j, j < os.length ∧ s = zal D M p ts.nx j ∧ ∃ (osh : OSh) (z : HL D.T osh.tys), o = zne D (zal D M p ts.nx) osh z ∧ (j, zne D (fun k => k) osh z) ∈ zaj D (fun k => k) os 0 y) ∨ (o = .gone ∧ ∃ k, (k, Src.slot s) ∈ M) ∨ (fnd ts.o s = some o ∧ ∀ k, (k, Src.slot s) ∉ M) := fun s o h => by
  simp only [zg5] at h
  rw [zu7] at h
  split at h
  ·rename_i o' ho'
   injection h with h; subst h
   obtain ⟨j, h1, h2, h3, h4⟩ := zr3 os (zcu ho')
   exact .inl ⟨j, by omega, h3, h4⟩
  ·rw [zu7] at h
   split at h
   ·rename_i o' ho'
    injection h with h; subst h
    obtain ⟨h1, h2⟩ := zs7 ho'
    exact .inr (.inl ⟨h1, h2⟩)
   ·rename_i hn
    exact .inr (.inr ⟨h, zpq hn⟩)
 have apart : ∀ s o sl i, fnd ts.o s = some o → o.live → (∀ k, (k, Src.slot s) ∉ M) → ρ[s]? = some sl → sl.k = some i → ∀ (k : Nat) (sl0 : Slot), ρ0[k]? = some sl0 → sl0.k ≠ some i := fun s o sl i ho hl hno hs hk k sl0 h1 h2 => by
  obtain ⟨src, e1, e2, e3⟩ := h0 k sl0 h1
  cases src with
  | nil => simp only [Src.is] at e2; subst e2; cases h2
  | slot s0 =>
    obtain ⟨o', f1, f2⟩ := e3 s0 rfl
    have := hR.inj s s0 o o' sl sl0 i ho f1 hl f2 hs e2 hk h2
    subst this
    exact hno k (zcu e1)
 have passed : ∀ (k : Nat) (sl0 : Slot) (i : Nat), ρ0[k]? = some sl0 → sl0.k = some i → ¬ F.out i := fun k sl0 i h1 h2 => by
  obtain ⟨src, e1, e2, e3⟩ := h0 k sl0 h1
  cases src with
  | nil => simp only [Src.is] at e2; subst e2; cases h2
  | slot s0 =>
    obtain ⟨o', f1, f2⟩ := e3 s0 rfl
    exact hR.mine s0 o' sl0 i f1 f2 e2 h2
 have oldlt : ∀ s o sl i, fnd ts.o s = some o → o.live → ρ[s]? = some sl → sl.k = some i → i < σ.H.L.length := fun s o sl i ho hl hs hk => by
  obtain ⟨q, h1, h2⟩ := hR.ob s o ho
  rw [hs] at h1; injection h1 with h1; subst h1
  exact h2.lt hl hk
 have slotOld : ∀ s o sl, fnd ts.o s = some o → (ρ ++ ρ'.drop p)[s]? = some sl → ρ[s]? = some sl := fun s o sl ho h => by
  obtain ⟨q, h1, h2⟩ := hR.ob s o ho
  rw [lookup_append h1] at h; rw [h1, h]
 have slotNew : ∀ j sl, j < os.length → (ρ ++ ρ'.drop p)[zal D M p ts.nx j]? = some sl → ρ'[j]? = some sl := fun j sl hj h => by
  have hlt : j < ρ'.length := by rw [hL.len]; exact hj
  have := hmaps j ρ'[j] (List.getElem?_eq_getElem hlt)
  rw [this] at h; injection h with h; rw [← h]; exact List.getElem?_eq_getElem hlt
 refine ⟨⟨?_, hR.nt, fun j x hj => ?_, fun s o ho => ?_, fun s s' o o' sl sl' i h1 h2 l1 l2 r1 r2 k1 k2 => ?_, fun s o sl i h1 l1 r1 k1 => ?_, rfl, rfl, hR.e0, hR.d.more _, fun i hi => ?_, fun j sl hj => lookup_append (hR.pin j sl hj)⟩, hmaps⟩
 ·simp only [zg5, List.length_append, List.length_drop, hL.len, hR.nx]
 ·obtain ⟨v, h1, h2⟩ := hR.tm j x hj
  exact ⟨v, h1, h2.more _⟩
 ·rcases kinds s o ho with ⟨j, h1, h2, osh, z, h3, h4⟩ | ⟨rfl, k, h1⟩ | ⟨h1, h2⟩
  ·obtain ⟨sl, e1, e2⟩ := hL.ob j _ h4
   refine ⟨sl, by rw [h2]; exact hmaps j sl e1, ?_⟩
   rw [h3]; exact OR.maps hmaps hD e2
  ·obtain ⟨sl0, e1, e2⟩ := hA k _ (hMk k s h1)
   exact ⟨sl0, lookup_append e2, by simp only [OR]⟩
  ·obtain ⟨q, e1, e2⟩ := hR.ob s o h1
   exact ⟨q, lookup_append e1, e2.mono _ fun i hi hl => (hL.out i (e2.lt hl hi) (apart s o q i h1 hl h2 e1 hi)).2⟩
 ·rcases kinds s o h1 with ⟨j, a1, a2, osh, z, a3, a4⟩ | ⟨rfl, k, a1⟩ | ⟨a1, a2⟩
  ·rcases kinds s' o' h2 with ⟨j', b1, b2, osh', z', b3, b4⟩ | ⟨rfl, k', b1⟩ | ⟨b1, b2⟩
   ·rw [a2, b2]
    congr 1
    rw [a2] at r1; rw [b2] at r2
    exact hL.inj j j' sl sl' i (slotNew j sl a1 r1) (slotNew j' sl' b1 r2) k1 k2
   ·exact l2.elim
   ·exfalso
    rw [a2] at r1
    have q2 := slotOld s' o' sl' b1 r2
    rcases hL.mine j sl i (slotNew j sl a1 r1) k1 with h | ⟨k, sl0, e1, e2⟩
    ·have := oldlt s' o' sl' i b1 l2 q2 k2; omega
    ·exact apart s' o' sl' i b1 l2 b2 q2 k2 k sl0 e1 e2
  ·exact l1.elim
  ·rcases kinds s' o' h2 with ⟨j', b1, b2, osh', z', b3, b4⟩ | ⟨rfl, k', b1⟩ | ⟨b1, b2⟩
   ·exfalso
    rw [b2] at r2
    have q1 := slotOld s o sl a1 r1
    rcases hL.mine j' sl' i (slotNew j' sl' b1 r2) k2 with h | ⟨k, sl0, e1, e2⟩
    ·have := oldlt s o sl i a1 l1 q1 k1; omega
    ·exact apart s o sl i a1 l1 a2 q1 k1 k sl0 e1 e2
   ·exact l2.elim
   ·exact hR.inj s s' o o' sl sl' i a1 b1 l1 l2 (slotOld _ _ _ a1 r1) (slotOld _ _ _ b1 r2) k1 k2
 ·rcases kinds s o h1 with ⟨j, a1, a2, osh, z, a3, a4⟩ | ⟨rfl, k, a1⟩ | ⟨a1, a2⟩
  ·rw [a2] at r1
   rcases hL.mine j sl i (slotNew j sl a1 r1) k1 with h | ⟨k, sl0, e1, e2⟩
   ·intro ho; have := (hR.out i ho).1; omega
   ·exact passed k sl0 i e1 e2
  ·exact l1.elim
  ·exact hR.mine s o sl i a1 l1 (slotOld _ _ _ a1 r1) k1
 ·obtain ⟨h1, h2⟩ := hR.out i hi
  obtain ⟨h3, h4⟩ := hL.out i h1 fun k sl0 e1 e2 => passed k sl0 i e1 e2 hi
  exact ⟨h3, h4.trans h2⟩
end
end Go.Ab


namespace Go.Ab
open Go
set_option linter.unusedVariables false
set_option linter.unusedSimpArgs false
set_option linter.unusedSectionVars false
section
variable {P : Program} {D : Dat} {F : Fr} {ρ : List Slot} {ts : TS D.T} {σ : St} {lv : Nat}
def Ent.Flat (P : Program) (e : Ent D) (x : HL D.T (Sh.z8q e.args ++ z92 e.aos)) (o : HL D.T (Sh.z8q e.outs ++ z92 e.ros) ⊕ HL D.T (e.pan.tys ++ z92 e.pos)) : Prop :=
 ∀ (lv : Nat) (L : List (Option zz7)) (E : Nat → Nat → Option zz7) (ρ0 : List Slot) (vargs : List V), ρ0.length = e.aos.length → VRL D ρ0 lv (z5c D (fun k => k) e.args (HL.fst _ x)) vargs →
  (∀ j o, (j, o) ∈ zaj D (fun k => k) e.aos 0 (HL.snd _ x) → ∃ sl, ρ0[j]? = some sl ∧ OR D ρ0 lv L sl o) →
  (∀ (s s' : Nat) (sl sl' : Slot) (i : Nat), ρ0[s]? = some sl → ρ0[s']? = some sl' → sl.k = some i → sl'.k = some i → s = s') →
  zxc P e.f vargs ⟨lv, L, E⟩ fun out H' => ∃ L' ρ', H' = ⟨lv, L', E⟩ ∧
   match o with
   | .inl y => Left D lv L ρ0 e.p L' ρ' e.ros (HL.snd _ y) ∧ (∀ q ∈ e.ren, ∀ sl, ρ0[q.1]? = some sl → ∃ sl', ρ'[q.2]? = some sl' ∧ sl'.v = sl.v) ∧ ∃ vs, out = .ret (zhx vs) ∧ VRL D ρ' lv (z5c D (fun k => k) e.outs (HL.fst _ y)) vs
   | .inr y => Left D lv L ρ0 e.p L' ρ' e.pos (HL.snd _ y) ∧ ∃ v, out = .pan v ∧ VR D ρ' lv (zlb D (fun k => k) e.pan (HL.fst _ y)) v
def Ent.Pure (P : Program) (e : Ent D) (x : HL D.T (Sh.z8q e.args ++ z92 e.aos)) (y : HL D.T (Sh.z8q e.outs ++ z92 e.ros)) : Prop :=
 e.aos = [] ∧ e.ros = [] ∧ e.ren = [] ∧ ∀ (lv : Nat) (vargs : List V), VRL D [] lv (z5c D (fun k => k) e.args (HL.fst _ x)) vargs → ∃ vs, (∀ ρ lv', VRL D ρ lv' (z5c D (fun k => k) e.outs (HL.fst _ y)) vs) ∧ yjj P e.f vargs (zhx vs)
def Ent.Ok (P : Program) (e : Ent D) : Prop := ∀ (R : Type) (x : HL D.T (Sh.z8q e.args ++ z92 e.aos)) (k : HL D.T (Sh.z8q e.outs ++ z92 e.ros) → Option R) (kp : HL D.T (e.pan.tys ++ z92 e.pos) → Option R) (r : R), e.go x k kp = some r →
 match e.pure with
 | true => ∃ y, k y = some r ∧ e.Pure P x y
 | false => (∃ y, k y = some r ∧ e.Flat P x (.inl y)) ∨ ∃ y, kp y = some r ∧ e.Flat P x (.inr y)
theorem TRr.zde {M : z6z D.T} {p nx : Nat} {ρ0 ρ' : List Slot} (hA : ∀ k s, fnd M k = some (.slot s) → ∃ sl, ρ0[k]? = some sl ∧ ρ[s]? = some sl) (hm : Maps (zal D M p nx) ρ' ρ) : ∀ (l : List (Nat × Nat)) {ts : TS D.T}, (∀ q ∈ l, ∀ sl, ρ0[q.1]? = some sl → ∃ sl', ρ'[q.2]? = some sl' ∧ sl'.v = sl.v) → TRr D F ρ ts σ → TRr D F ρ (Go.Ab.zde D M p nx l ts) σ
 | [], ts, _, hR => hR
 | q :: l, ts, h, hR => by
   simp only [Go.Ab.zde]
   split
   · rename_i s hs
     obtain ⟨sl, h1, h2⟩ := hA _ _ hs
     obtain ⟨sl', h3, h4⟩ := h q List.mem_cons_self sl h1
     exact TRr.zde hA hm l (fun q hq => h q (List.mem_cons_of_mem _ hq)) (hR.zln _ fun x v hx => VR.ren h2 (hm _ _ h3) h4 hx)
   · exact TRr.zde hA hm l (fun q hq => h q (List.mem_cons_of_mem _ hq)) hR
variable (hD : D.Ok P)
include hD
theorem VR.ye9 {cs : List (TV D.T)} {vs : List V} (h : VRL D ρ lv cs vs) : VR D ρ lv (Go.Ab.ye9 D cs) (zhx vs) := by
 cases cs with
 | nil => simp only [VRL] at h; subst h; simp only [Go.Ab.ye9, zhx, VR]; exact ⟨[], rfl, by simp only [VRL]⟩
 | cons c cs =>
   have h0 := h
   simp only [VRL] at h
   obtain ⟨v, r, rfl, h1, h2⟩ := h
   cases cs with
   | nil => simp only [VRL] at h2; subst h2; exact h1
   | cons d ds =>
     have h20 := h2
     simp only [VRL] at h2
     obtain ⟨v', r', rfl, _, _⟩ := h2
     simp only [Go.Ab.ye9, zhx, VR]
     exact ⟨_, rfl, h0⟩
theorem Ent.zsk (hR : TRr D F ρ ts σ) {e : Ent D} {vs : List (TV D.T)} {vargs : List V} {M : z6z D.T} {x : HL D.T (Sh.z8q e.args ++ z92 e.aos)} (hv : VRL D ρ F.lv vs vargs) (h : e.fit D vs ts = .ok (M, x)) :
  MOk e.aos.length M ∧ ∃ ρ0 : List Slot, ρ0.length = e.aos.length ∧ Agr ρ M ρ0 ∧ (∀ j sl, ρ0[j]? = some sl → ∃ src, fnd M j = some src ∧ src.is ρ sl ∧ ∀ s, src = .slot s → ∃ o', fnd ts.o s = some o' ∧ o'.live) ∧
   VRL D ρ0 F.lv (z5c D (fun k => k) e.args (HL.fst _ x)) vargs ∧ ∀ j o, (j, o) ∈ zaj D (fun k => k) e.aos 0 (HL.snd _ x) → ∃ sl, ρ0[j]? = some sl ∧ OR D ρ0 F.lv σ.H.L sl o := by
 unfold Ent.fit at h
 split at h
 ·rename_i M1 y hy
  split at h
  ·rename_i M2 z hz
   cases h
   obtain ⟨a1, a2, a3⟩ := zdi hD e.args hy hv
   obtain ⟨b1, b2, b3, b4⟩ := zrr hD hR e.aos hz
   have hM : MOk e.aos.length M := b2 (a2 ⟨fun k src h => by simp [fnd] at h, fun k k' s h => by simp [fnd] at h, fun k src h => by cases h⟩)
   obtain ⟨ρ0, c1, c2, c3⟩ := yri hR hM fun j hj => by simpa using b3 j hj
   refine ⟨hM, ρ0, c1, c2, fun j sl hj => ?_, by rw [HL.zpt]; exact a3 ρ0 (b1.agr c2), fun j o hm => ?_⟩
   ·obtain ⟨src, e1, e2⟩ := c3 j sl hj
    obtain ⟨src', e3, e4⟩ := b3 j (by rw [← c1]; exact (List.getElem?_eq_some_iff.1 hj).1)
    rw [Nat.zero_add, e1] at e3; injection e3 with e3; subst e3
    exact ⟨src, e1, e2, e4⟩
   ·rw [HL.zpu] at hm
    obtain ⟨_, _, _, e5⟩ := b4 ρ0 c2 j o hm
    exact e5
  ·cases h
  ·cases h
 ·cases h
 ·cases h
omit hD in
theorem yqp (hR : TRr D F ρ ts σ) : { σ with H := ⟨F.lv, σ.H.L, F.E⟩ } = σ := by
 have e1 := hR.lv; have e2 := hR.E
 obtain ⟨t, ⟨l, L, E⟩, d, e0⟩ := σ
 simp only at e1 e2; subst e1; subst e2; rfl
omit hD in
theorem ydl (hR : TRr D F ρ ts σ) {M : z6z D.T} {n : Nat} (hM : MOk n M) {ρ0 : List Slot} (h0 : ∀ j sl, ρ0[j]? = some sl → ∃ src, fnd M j = some src ∧ src.is ρ sl ∧ ∀ s, src = .slot s → ∃ o', fnd ts.o s = some o' ∧ o'.live) :
  ∀ (s s' : Nat) (sl sl' : Slot) (i : Nat), ρ0[s]? = some sl → ρ0[s']? = some sl' → sl.k = some i → sl'.k = some i → s = s' := fun s s' sl sl' i h1 h2 k1 k2 => by
 obtain ⟨src, e1, e2, e3⟩ := h0 s sl h1
 obtain ⟨src', f1, f2, f3⟩ := h0 s' sl' h2
 cases src with
 | nil => simp only [Src.is] at e2; subst e2; cases k1
 | slot q =>
   cases src' with
   | nil => simp only [Src.is] at f2; subst f2; cases k2
   | slot q' =>
     obtain ⟨o, g1, g2⟩ := e3 q rfl
     obtain ⟨o', g3, g4⟩ := f3 q' rfl
     have := hR.inj q q' o o' sl sl' i g1 g3 g2 g4 e2 f2 k1 k2
     subst this
     exact hM.inj s s' q e1 f1
theorem zj5 {R : Type} (hR : TRr D F ρ ts σ) {f : Nat} {vs : List (TV D.T)} {vargs : List V} {k kp : TV D.T → TS D.T → Option R} {kf : Nat → Option R} {r : R} (hv : VRL D ρ F.lv vs vargs) : ∀ {tbl : List (Ent D)}, (∀ e ∈ tbl, e.Ok P) → y09 D f vs ts k kp kf tbl = some r →
  ((∃ e ∈ tbl, e.pure = false) ∧ ∃ (Post : Out → yz3 → Prop), zxc P f vargs σ.H Post ∧ (∀ rv H', Post (.ret rv) H' → ∃ z ts' ρ', VR D ρ' F.lv z rv ∧ TRr D F ρ' ts' { σ with H := H' } ∧ k z ts' = some r) ∧
    (∀ v H', Post (.pan v) H' → ∃ z ts' ρ', VR D ρ' F.lv z v ∧ TRr D F ρ' ts' { σ with H := H' } ∧ kp z ts' = some r)) ∨
  (∃ rv, yjj P f vargs rv ∧ ∃ z ρ' ts', (∀ ρ', VR D ρ' F.lv z rv) ∧ TRr D F ρ' ts' σ ∧ k z ts' = some r ∧ ts'.t = ts.t ∧ ts'.nt = ts.nt) ∨ ∃ s, kf s = some r
 | [], _, h => by simp [y09, yum] at h
 | e :: tbl, htbl, h => by
   have up : ∀ {A B : Prop}, (((∃ e ∈ tbl, e.pure = false) ∧ A) ∨ B) → ((∃ e' ∈ e :: tbl, e'.pure = false) ∧ A) ∨ B := fun {A B} h => h.imp (fun ⟨⟨e', h1, h2⟩, h3⟩ => ⟨⟨e', List.mem_cons_of_mem _ h1, h2⟩, h3⟩) fun h => h
   simp only [y09] at h
   split at h
   · exact up (zj5 hR hv (fun e he => htbl e (List.mem_cons_of_mem _ he)) h)
   · rename_i hf
     have hf := Nat.eq_of_beq_eq_true hf
     subst hf
     split at h
     · exact up (zj5 hR hv (fun e he => htbl e (List.mem_cons_of_mem _ he)) h)
     · exact .inr (.inr ⟨_, h⟩)
     · rename_i M x hfit
       split at h
       · rename_i hc
         obtain ⟨c1, c2, c3, c4⟩ := hc
         obtain ⟨hM, ρ0, d1, d2, d3, d4, d5⟩ := Ent.zsk hD hR hv hfit
         have hp : ∀ k, k < e.p → ∃ s, fnd M k = some (.slot s) := fun k hk => by
           have := List.all_eq_true.1 c4 k (List.mem_range.2 hk)
           split at this
           · rename_i s hs; exact ⟨s, hs⟩
           · cases this
         have hmk : ∀ k s, (k, Src.slot s) ∈ M → fnd M k = some (.slot s) := fun k s hm => hM.one k _ hm
         have hinj := ydl hR hM d3
         have hok := htbl e List.mem_cons_self _ _ _ _ _ h
         cases hpure : e.pure with
         | true =>
           rw [hpure] at hok
           obtain ⟨y, hy, e1, e2, en, e3⟩ := hok
           have hr0 : ρ0 = [] := List.eq_nil_of_length_eq_zero (by rw [d1, e1]; rfl)
           rw [hr0] at d4
           obtain ⟨us, f1, f2⟩ := e3 F.lv vargs d4
           have hleft : Left D F.lv σ.H.L ρ0 e.p σ.H.L [] e.ros (HL.snd _ y) := by
             refine ⟨by rw [e2]; rfl, fun j o hm => ?_, fun s s' sl sl' i h1 => by simp at h1, fun s sl i h1 => by simp at h1, fun i hi _ => ⟨hi, rfl⟩, fun j sl hj hs => ?_⟩
             · obtain ⟨j', _, hlt, _⟩ := zr3 e.ros hm
               rw [e2] at hlt; simp at hlt
             · rw [hr0] at hs; simp at hs
           obtain ⟨g1, g2⟩ := TRr.after hR hD hM d2 d3 hmk hp c2 hleft
           rw [yqp hR] at g1
           rw [en] at hy
           exact .inr (.inl ⟨_, f2, _, _, _, fun ρ' => VR.ye9 hD (VRL.maps (ρ := []) (fun j sl hj => by simp at hj) hD e.outs (f1 _ _)), g1, hy, rfl, rfl⟩)
         | false =>
           rw [hpure] at hok
           have hHeap : σ.H = ⟨F.lv, σ.H.L, F.E⟩ := y6y σ.H hR.lv hR.E
           refine .inl ⟨⟨e, List.mem_cons_self, hpure⟩, ?_⟩
           rcases hok with ⟨y, hy, hflat⟩ | ⟨y, hy, hflat⟩
           · have hh := hflat F.lv σ.H.L F.E ρ0 vargs d1 d4 d5 hinj
             rw [← hHeap] at hh
             refine ⟨_, hh, fun rv H' ⟨L', ρ', e1, e2, en, vs', e3, e4⟩ => ?_, fun v H' ⟨L', ρ', e1, e2, en, vs', e3, e4⟩ => (by cases e3)⟩
             injection e3 with e3
             subst e1; subst e3
             obtain ⟨g1, g2⟩ := TRr.after hR hD hM d2 d3 hmk hp c2 e2
             exact ⟨_, _, _, VR.ye9 hD (VRL.maps g2 hD e.outs e4), g1.zde (fun k s hk => (d2 k _ hk).imp fun sl h => ⟨h.1, lookup_append h.2⟩) g2 _ en, hy⟩
           · have hh := hflat F.lv σ.H.L F.E ρ0 vargs d1 d4 d5 hinj
             rw [← hHeap] at hh
             refine ⟨_, hh, fun v H' ⟨L', ρ', e1, e2, vs', e3, e4⟩ => (by cases e3), fun rv H' ⟨L', ρ', e1, e2, vs', e3, e4⟩ => ?_⟩
             injection e3 with e3
             subst e1; subst e3
             obtain ⟨g1, g2⟩ := TRr.after hR hD hM d2 d3 hmk hp c3 e2
             exact ⟨_, _, _, VR.maps g2 hD e.pan e4, g1, hy⟩
       · cases h
theorem zq9 {R : Type} (hR : TRr D F ρ ts σ) {f : Nat} {vs : List (TV D.T)} {vargs : List V} {chk : z6z D.T → Bool} {k kp : TV D.T → TS D.T → Option R} {r : R} (hv : VRL D ρ F.lv vs vargs) : ∀ {tbl : List (Ent D)}, (∀ e ∈ tbl, e.Ok P ∧ e.pure = false) → zxa D f vs ts chk k kp tbl = some r →
  ∃ (M : z6z D.T) (Post : Out → yz3 → Prop), chk M = true ∧ (∀ k s, (k, Src.slot s) ∈ M → ∃ o', fnd ts.o s = some o' ∧ o'.live) ∧ zxc P f vargs σ.H Post ∧
   (∀ out H', Post out H' → H'.lv = F.lv ∧ ∀ i, i < σ.H.L.length → (∀ k s sl, (k, Src.slot s) ∈ M → ρ[s]? = some sl → sl.k ≠ some i) → H'.L[i]? = σ.H.L[i]?) ∧
   (∀ rv H', Post (.ret rv) H' → ∃ z ts' ρ', VR D ρ' F.lv z rv ∧ TRr D F ρ' ts' { σ with H := H' } ∧ k z ts' = some r) ∧
   (∀ v H', Post (.pan v) H' → ∃ z ts' ρ', VR D ρ' F.lv z v ∧ TRr D F ρ' ts' { σ with H := H' } ∧ kp z ts' = some r)
 | [], _, h => by simp [zxa, yrn] at h
 | e :: tbl, htbl, h => by
   simp only [zxa] at h
   split at h
   · exact zq9 hR hv (fun e he => htbl e (List.mem_cons_of_mem _ he)) h
   · rename_i hf
     have hf := Nat.eq_of_beq_eq_true hf
     subst hf
     split at h
     · rename_i M x hfit
       split at h
       · rename_i hc
         obtain ⟨c0, c1, c2, c3, c4⟩ := hc
         obtain ⟨hM, ρ0, d1, d2, d3, d4, d5⟩ := Ent.zsk hD hR hv hfit
         have hp : ∀ k, k < e.p → ∃ s, fnd M k = some (.slot s) := fun k hk => by
           have := List.all_eq_true.1 c4 k (List.mem_range.2 hk)
           split at this
           · rename_i s hs; exact ⟨s, hs⟩
           · cases this
         have hmk : ∀ k s, (k, Src.slot s) ∈ M → fnd M k = some (.slot s) := fun k s hm => hM.one k _ hm
         have hinj := ydl hR hM d3
         obtain ⟨hok, hpure⟩ := htbl e List.mem_cons_self
         have hok := hok _ _ _ _ _ h
         rw [hpure] at hok
         have hHeap : σ.H = ⟨F.lv, σ.H.L, F.E⟩ := y6y σ.H hR.lv hR.E
         have hlive : ∀ k s, (k, Src.slot s) ∈ M → ∃ o', fnd ts.o s = some o' ∧ o'.live := fun k s hm => by
           obtain ⟨sl, e1, e2⟩ := d2 k _ (hmk k s hm)
           obtain ⟨src, f1, _, f3⟩ := d3 k sl e1
           rw [hmk k s hm] at f1; injection f1 with f1
           exact f3 s f1.symm
         have frame : ∀ {p : Nat} {L' : List (Option zz7)} {ρ' : List Slot} {os : List OSh} {y : HL D.T (z92 os)}, Left D F.lv σ.H.L ρ0 p L' ρ' os y → ∀ i, i < σ.H.L.length → (∀ k s sl, (k, Src.slot s) ∈ M → ρ[s]? = some sl → sl.k ≠ some i) → L'[i]? = σ.H.L[i]? := fun {p L' ρ' os y} hl i hi hno => by
           refine (hl.out i hi fun k sl0 e1 e2 => ?_).2
           obtain ⟨src, f1, f2, f3⟩ := d3 k sl0 e1
           cases src with
           | nil => simp only [Src.is] at f2; subst f2; cases e2
           | slot s => exact hno k s sl0 (zcu f1) f2 e2
         rcases hok with ⟨y, hy, hflat⟩ | ⟨y, hy, hflat⟩
         · have hh := hflat F.lv σ.H.L F.E ρ0 vargs d1 d4 d5 hinj
           rw [← hHeap] at hh
           refine ⟨M, _, c0, hlive, hh, fun out H' ⟨L', ρ', e1, e2, _⟩ => ⟨by rw [e1], fun i hi hno => by rw [e1]; exact frame e2 i hi hno⟩, fun rv H' ⟨L', ρ', e1, e2, en, vs', e3, e4⟩ => ?_, fun v H' ⟨L', ρ', e1, e2, en, vs', e3, e4⟩ => (by cases e3)⟩
           injection e3 with e3
           subst e1; subst e3
           obtain ⟨g1, g2⟩ := TRr.after hR hD hM d2 d3 hmk hp c2 e2
           exact ⟨_, _, _, VR.ye9 hD (VRL.maps g2 hD e.outs e4), g1.zde (fun k s hk => (d2 k _ hk).imp fun sl h => ⟨h.1, lookup_append h.2⟩) g2 _ en, hy⟩
         · have hh := hflat F.lv σ.H.L F.E ρ0 vargs d1 d4 d5 hinj
           rw [← hHeap] at hh
           refine ⟨M, _, c0, hlive, hh, fun out H' ⟨L', ρ', e1, e2, _⟩ => ⟨by rw [e1], fun i hi hno => by rw [e1]; exact frame e2 i hi hno⟩, fun v H' ⟨L', ρ', e1, e2, vs', e3, e4⟩ => (by cases e3), fun rv H' ⟨L', ρ', e1, e2, vs', e3, e4⟩ => ?_⟩
           injection e3 with e3
           subst e1; subst e3
           obtain ⟨g1, g2⟩ := TRr.after hR hD hM d2 d3 hmk hp c3 e2
           exact ⟨_, _, _, VR.maps g2 hD e.pan e4, g1, hy⟩
       · cases h
     · exact zq9 hR hv (fun e he => htbl e (List.mem_cons_of_mem _ he)) h
omit hD in
theorem yqb {ops : Array Oper} {k : Nat} {σ τ : St} {Q : zzj → St → Prop} (hw : zqp σ τ) (h : zef P ops k τ Q) : zef P ops k σ Q := fun W0 g0 H0 W a g hB hS hG => by
 obtain ⟨g', h1, h2⟩ := hw W0 g0 H0 W a g hB hS hG
 exact h W0 g0 H0 W a g' hB h1 h2
omit hD in
theorem znn {ops : Array Oper} {k : Nat} {o : Oper} (ho : ops[k]? = some o) : (ops.toList.drop k).take 1 = [o] := by
 have hk : k < ops.size := by
  rcases Nat.lt_or_ge k ops.size with q | q
  ·exact q
  ·rw [Array.getElem?_eq_none q] at ho; cases ho
 have hk' : k < ops.toList.length := by simpa using hk
 rw [← List.getElem_cons_drop (h := hk')]
 have : ops.toList[k] = o := by
  have h2 : ops.toList[k]? = some o := by simpa using ho
  rw [List.getElem?_eq_getElem hk'] at h2; injection h2
 simp [this]
omit hD in
theorem yow {ops : Array Oper} {k : Nat} {σ : St} {Q : zzj → St → Prop} {o : Oper} {v : V} {H' : yz3} (ho : ops[k]? = some o) (hw : z0b ops σ o = some true) (hox : ox P σ.H σ.ev o.op = some (v, H')) (h : zef P ops (k + 1) ({ σ with H := H' }.put o.dst v) Q) : zef P ops k σ Q :=
 zya 1 [] ({ σ with H := H' }.put o.dst v) [] (by rw [znn ho]; simp [zww, hw, hox]) zu1 h
omit hD in
theorem ypa {ops : Array Oper} {k : Nat} {σ : St} {Q : zzj → St → Prop} {o : Oper} (ho : ops[k]? = some o) (hw : z0b ops σ o = some false) (h : zef P ops (k + 1) (σ.put o.dst (.tup [])) Q) : zef P ops k σ Q :=
 zya 1 [] (σ.put o.dst (.tup [])) [] (by rw [znn ho]; simp [zww, hw]) zu1 h
omit hD in
theorem yn9 {ops : Array Oper} {k : Nat} {σ : St} {Q : zzj → St → Prop} {o : Oper} {c : Call} {f : Nat} {args : List V} {v : V} (ho : ops[k]? = some o) (hw : z0b ops σ o = some true) (hop : o.op = .call c) (hcal : ∃ x, c.callee = .value x) (ht : target σ.ev c = some (f, args)) (hc : yjj P f args v)
  (h : zef P ops (k + 1) (σ.put o.dst v) Q) : zef P ops k σ Q := by
 refine zya 1 [(v, none)] (σ.put o.dst v) [⟨f, args, σ.H, v, σ.H⟩] ?_ (y0o (hc σ.H) zu1) h
 obtain ⟨x, hx⟩ := hcal
 have hox : ox P σ.H σ.ev o.op = none := by rw [hop]; simp only [ox, hx, zd9, Option.map_none]
 rw [znn ho]
 rw [hop] at hox
 simp only [zww, hw, if_true, hop, hox, ht, Option.getD_none]
omit hD in
def y0r (ops : Array Oper) (ts : TS D.T) (o : Oper) : Prop := o.guard = none ∨ ∃ j want d, o.guard = some (j, want) ∧ (ops[j]?).bind (·.dst) = some d ∧ fnd ts.t d = some (.bool want)
omit hD in
theorem TRr.tmp (hR : TRr D F ρ ts σ) {d : Nat} {x : TV D.T} (h : fnd ts.t d = some x) : VR D ρ F.lv x (σ.t.getD d .any) := hR.ev (o := .tmp d) h
omit hD in
theorem y0r.wanted (hR : TRr D F ρ ts σ) {ops : Array Oper} {o : Oper} (h : y0r ops ts o) : z0b ops σ o = some true := by
 unfold z0b
 rcases h with h | ⟨j, want, d, h1, h2, h3⟩
 ·rw [h]
 ·have := hR.tmp h3
  simp only [VR] at this
  rw [h1]
  simp only [h2, this, beq_self_eq_true]
omit hD in
theorem y0r.freeze {ops : Array Oper} {o : Oper} (h : y0r ops ts o) {s : Nat} {ts' : TS D.T} (hf : ts.freeze D s = some ts') : y0r ops ts' o := by
 rcases h with h | ⟨j, want, d, h1, h2, h3⟩
 ·exact .inl h
 ·refine .inr ⟨j, want, d, h1, h2, ?_⟩
  unfold TS.freeze at hf
  split at hf
  ·rename_i ty t xs w _ ho
   injection hf with hf; subst hf
   simp only [TS.zln]
   rw [zq7 (TV.frz D s false (.sl t xs 0)), h3]
   rfl
  ·rename_i ty t es _ ho
   injection hf with hf; subst hf
   simp only [TS.zln]
   rw [zq7 (TV.frz D s true (.mc t es)), h3]
   rfl
  ·cases hf
omit hD in
theorem zsm (hR : TRr D F ρ ts σ) {c : Call} {x : Operand} {f : Nat} {a b vs : List (TV D.T)} (hc : c.callee = .value x) (h1 : ts.ev x = some (.fn f a b)) (h2 : ts.evs c.args.toList = some vs) : ∃ args, target σ.ev c = some (f, args) ∧ VRL D ρ F.lv (a ++ vs ++ b) args := by
 have hx := hR.ev h1
 simp only [VR] at hx
 obtain ⟨as, bs, e1, e2, e3⟩ := hx
 exact ⟨as ++ c.args.toList.map σ.ev ++ bs, by simp only [target, hc, e1], (e2.append (hR.evs h2)).append e3⟩
variable {tbl : List (Ent D)}
omit hD in
theorem y52 {W : World} {a : Act} {g : Gh} {c : Call} {f : Nat} {args : List V} {ty : TypeId} (hρ : ∀ x, Rel W g σ.H (σ.ev x) (a.eval x)) (h : target σ.ev c = some (f, args)) :
  ∃ caps as, zpn W g σ.H args (as ++ caps) ∧ ∀ w : World, (resolve a.eval c ty).run P w = .ok ⟨.fn (.func f) caps, as⟩ w := by
 unfold target at h
 split at h
 ·rename_i fo hc
  split at h
  ·rename_i f' first caps hf
   injection h with h; injection h with h1 h2; subst h1; subst h2
   have hr := hρ fo
   rw [hf] at hr
   generalize hrc : a.eval fo = rc at hr
   cases hr with
   | fn _ _ _ fs cs n1 n2 r1 r2 =>
     refine ⟨cs, fs ++ c.args.map a.eval, zmk (zmk ⟨n1, r1⟩ (zqv hρ c.args)) ⟨n2, r2⟩, fun w => ?_⟩
     simp [resolve, hc, hrc, Deferred.ofValue]
  ·cases h
 ·cases h
omit hD in
theorem ylp {ops : Array Oper} {k : Nat} {σ : St} {Q : zzj → St → Prop} {o : Oper} {c : Call} {f : Nat} {args : List V} (ho : ops[k]? = some o) (hw : z0b ops σ o = some true) (hop : o.op = .defer c) (ht : target σ.ev c = some (f, args))
  (h : zef P ops (k + 1) ({ σ with d := (f, args) :: σ.d }.put o.dst .any) Q) : zef P ops k σ Q := fun W0 g0 H0 W a g hB hS hG => by
 have hk : k < ops.size := by
  rcases Nat.lt_or_ge k ops.size with q | q
  ·exact q
  ·rw [Array.getElem?_eq_none q] at ho; cases ho
 rw [show ops.size - k = (ops.size - (k + 1)) + 1 by omega, List.range'_succ]
 simp only [wpOps, ho]
 rw [z0m hG hw, if_pos rfl]
 left
 unfold Oper.wp
 obtain ⟨caps, as, k1, k2⟩ := y52 (P := P) (ty := o.type) hG.ev ht
 have hex : (execOp a.eval o).run P W = .ok (.defer ⟨.fn (.func f) caps, as⟩) W := by
  unfold execOp; rw [hop]; simp [k2 W]
 rw [hex]
 have hG2 : z0d W { a with defers := ⟨.fn (.func f) caps, as⟩ :: a.defers } g { σ with d := (f, args) :: σ.d } := by
  refine ⟨hG.good, hG.size, hG.tmps, by simp [hG.dlen], fun j f' vs hj => ?_⟩
  cases j with
  | zero => simp at hj; obtain ⟨rfl, rfl⟩ := hj; exact ⟨caps, as, rfl, k1⟩
  | succ j => exact hG.defs j f' vs (by simpa using hj)
 have hG3 := hG2.next (.refl _ _ _) hG.good (.any undef) o.dst
 have hH : ({ σ with d := (f, args) :: σ.d }.put o.dst .any).H = σ.H := by cases o.dst <;> rfl
 have he : ({ σ with d := (f, args) :: σ.d }.put o.dst .any).e0 = σ.e0 := by cases o.dst <;> rfl
 exact h W0 g0 H0 W _ g hB (by rw [hH, he]; exact hS) hG3
omit hD in
theorem zij {ops : Array Oper} {k : Nat} {σ : St} {Q : zzj → St → Prop} {o : Oper} {v : V} {H' : yz3} (ho : ops[k]? = some o) (hw : z0b ops σ o = some true)
  (ht : ∀ W a g, z0d W a g σ → z8g P W g σ.H (execOp a.eval o) v H') (h : zef P ops (k + 1) ({ σ with H := H' }.put o.dst v) Q) : zef P ops k σ Q := fun W0 g0 H0 W a g hB hS hG => by
 have hk : k < ops.size := by
  rcases Nat.lt_or_ge k ops.size with q | q
  ·exact q
  ·rw [Array.getElem?_eq_none q] at ho; cases ho
 rw [show ops.size - k = (ops.size - (k + 1)) + 1 by omega, List.range'_succ]
 simp only [wpOps, ho]
 rw [z0m hG hw, if_pos rfl]
 left
 unfold Oper.wp
 obtain ⟨c, W', g', h1, h2, h3, h4⟩ := ht W a g hG
 have hn := hG.next h2 h3 h4 o.dst
 have hH : ({ σ with H := H' }.put o.dst v).H = H' := by cases o.dst <;> rfl
 have he : ({ σ with H := H' }.put o.dst v).e0 = σ.e0 := by cases o.dst <;> rfl
 have fin := h W0 g0 H0 W' (a.put o.dst c) g' hB (by rw [hH, he]; exact ⟨hS.1, hS.2.trans h2⟩) hn
 rcases h1 with h1 | ⟨h1, rfl⟩
 ·rw [h1]; exact fin
 ·rw [h1]; exact fin
omit hD in
theorem TRr.defer (hR : TRr D F ρ ts σ) {f : Nat} {xs : List (TV D.T)} {args : List V} (h : VRL D ρ F.lv xs args) : TRr D F ρ { ts with d := (f, xs) :: ts.d } { σ with d := (f, args) :: σ.d } :=
 ⟨hR.nx, hR.nt, hR.tm, hR.ob, hR.inj, hR.mine, hR.lv, hR.E, hR.e0, ⟨args, σ.d, rfl, h, hR.d⟩, hR.out, hR.pin⟩
omit hD in
theorem ye0 : ∀ (xs : List Int) (ws : List V), ws.length = xs.length → (∀ (j : Nat) (x : Int) (w : V), xs[j]? = some x → ws[j]? = some w → DR D (.int .u8) x w) → zrs ws = ynd xs
 | [], ws, hl, h => by obtain rfl : ws = [] := List.eq_nil_of_length_eq_zero hl; rfl
 | x :: xs, [], hl, h => by simp at hl
 | x :: xs, w :: ws, hl, h => by
   have h0 := h 0 x w rfl rfl
   have ih := ye0 xs ws (by simpa using hl) fun j y u hy hu => h (j + 1) y u (by simpa using hy) (by simpa using hu)
   cases h0
   simp only [zrs, ynd, ih]
   cases x with
   | ofNat m => cases ynd xs <;> rfl
   | negSucc m => cases ynd xs <;> rfl
omit hD in
theorem ypg {α : Type} (es : List α) : es.Perm (((List.range es.length).filter fun q => !([] : List Nat).contains q).filterMap fun q => es[q]?) := by
 have h1 : ((List.range es.length).filter fun q => !([] : List Nat).contains q) = List.range es.length := by simp
 rw [h1]
 have h2 : (List.range es.length).filterMap (fun q => es[q]?) = es := by
  apply List.ext_getElem?
  intro n
  have : ∀ (l : List Nat), (∀ q ∈ l, q < es.length) → (l.filterMap fun q => es[q]?)[n]? = (l[n]?).bind fun q => es[q]? := by
   intro l
   induction l generalizing n with
   | nil => simp
   | cons a l ih =>
     intro hl
     have ha := hl a (by simp)
     rw [List.filterMap_cons, List.getElem?_eq_getElem ha]
     cases n with
     | zero => simp [ha]
     | succ n => simpa using ih n fun q hq => hl q (by simp [hq])
  rw [this _ (by simp)]
  by_cases hn : n < es.length
  ·simp [hn]
  ·simp [hn]
 rw [h2]
omit hD in
theorem yqs {α : Type} {es fs : List α} {vis : List Nat} {j : Nat} {p : α} (h : es.Perm (((List.range fs.length).filter fun q => !vis.contains q).filterMap fun q => fs[q]?)) (hj : fs[j]? = some p) (hn : j ∉ vis) :
  ∃ m : Nat, es[m]? = some p ∧ (es.eraseIdx m).Perm (((List.range fs.length).filter fun q => !(vis ++ [j]).contains q).filterMap fun q => fs[q]?) := by
 have hlt := (List.getElem?_eq_some_iff.1 hj).1
 have hmem : j ∈ (List.range fs.length).filter fun q => !vis.contains q := by simp [hlt, hn]
 have hnd : ((List.range fs.length).filter fun q => !vis.contains q).Nodup := List.nodup_range.filter _
 have he : ((List.range fs.length).filter fun q => !(vis ++ [j]).contains q) = ((List.range fs.length).filter fun q => !vis.contains q).erase j := by
  rw [hnd.erase_eq_filter, List.filter_filter]
  refine List.filter_congr fun q _ => ?_
  by_cases e : q = j
  ·subst e; simp
  ·simp [e, bne]
 have hp := (List.perm_cons_erase hmem).filterMap fun q => fs[q]?
 rw [List.filterMap_cons, hj] at hp
 have hp2 := h.trans hp
 have hm : p ∈ es := hp2.mem_iff.2 (by simp)
 obtain ⟨m, hm⟩ := List.mem_iff_getElem?.1 hm
 refine ⟨m, hm, ?_⟩
 rw [he]
 have hml := (List.getElem?_eq_some_iff.1 hm).1
 have h1 : es.Perm (p :: es.eraseIdx m) := by
  have hpm : es[m] = p := by have := hm; rw [List.getElem?_eq_getElem hml] at this; injection this
  have h2 : es = es.take m ++ p :: es.drop (m + 1) := by
   conv => lhs; rw [← List.take_append_drop m es]
   rw [List.drop_eq_getElem_cons hml, hpm]
  rw [List.eraseIdx_eq_take_drop_succ]
  conv => lhs; rw [h2]
  exact List.perm_middle
 exact (List.perm_cons p).1 (h1.symm.trans hp2)
omit hD in
theorem yqi {α R : Type} {es : List (List UInt8 × α)} {f : List UInt8 → α → List (List UInt8 × α) → Option R} {g : Option R} {r : R} (h : y0f es f g = some r) (he : es = []) : g = some r := by
 subst he; exact h
omit hD in
theorem yq4 {α R : Type} {es : List (List UInt8 × α)} {f : List UInt8 → α → List (List UInt8 × α) → Option R} {g : Option R} {r : R} (h : y0f es f g = some r) (m : Nat) (p : List UInt8 × α) (hm : es[m]? = some p) : f p.1 p.2 (es.eraseIdx m) = some r := by
 cases es with
 | nil => simp at hm
 | cons e l =>
   simp only [y0f] at h
   split at h
   · rename_i hz
     injection h with h
     rw [← h]
     exact hz.choose_spec m p hm
   · cases h
omit hD in
theorem ys4 {α R : Type} {es : List (List UInt8 × α)} {f : List UInt8 → α → List (List UInt8 × α) → Option R} {g : Option R} {r : R} (h0 : es = [] → g = some r) (h1 : ∀ (m : Nat) (p : List UInt8 × α), es[m]? = some p → f p.1 p.2 (es.eraseIdx m) = some r) : y0f es f g = some r := by
 cases es with
 | nil => exact h0 rfl
 | cons e l =>
   have hz : ∃ z, ∀ i p, (e :: l)[i]? = some p → f p.1 p.2 ((e :: l).eraseIdx i) = some z := ⟨r, h1⟩
   simp only [y0f]
   rw [dif_pos hz]
   have a := hz.choose_spec 0 e rfl
   rw [h1 0 e rfl] at a
   exact a.symm
omit hD in
theorem VR.yra {t : DTy} (hf : t.flat = true) (x : t.S D.T) : VR D ρ lv (D.leaf t x) (y1c t x).v := by
 cases t <;> first | (cases hf; done) | (simp only [Dat.leaf, VR]; rfl)
theorem zuq {R : Type} {ops : Array Oper} {n : Nat} {o : Oper} {Q : zzj → St → Prop} {k kp : TV D.T → TS D.T → Option R} {r : R} (ho : ops[n]? = some o) (htbl : ∀ e ∈ tbl, e.Ok P)
  (hk : ∀ z ts' σ' ρ' v, TRr D F ρ' ts' σ' → VR D ρ' F.lv z v → k z ts' = some r → zef P ops (n + 1) (σ'.put o.dst v) Q)
  (hkp : ∀ z ts' σ' ρ' v, TRr D F ρ' ts' σ' → VR D ρ' F.lv z v → kp z ts' = some r → Q (.panic v) σ') : ∀ (fuel : Nat) {ts : TS D.T} {σ : St} {ρ : List Slot}, TRr D F ρ ts σ → y0r ops ts o → yea P D tbl o.op k kp fuel ts = some r → zef P ops n σ Q
 | 0, ts, σ, ρ, hR, hw, h => by simp [yea] at h
 | fuel + 1, ts, σ, ρ, hR, hw, h => by
   have hkf : ∀ s, (match ts.freeze D s with | some ts' => yea P D tbl o.op k kp fuel ts' | none => none) = some r → zef P ops n σ Q := fun s hs => by
     cases hf : ts.freeze D s with
     | none => rw [hf] at hs; cases hs
     | some ts' =>
       rw [hf] at hs
       obtain ⟨τ, h1, h2⟩ := zv8 hR hf
       exact yqb h1 (zuq ho htbl hk hkp fuel h2 (hw.freeze hf) hs)
   have hop : ∀ {kf : Nat → Option R}, (∀ s, kf s = some r → zef P ops n σ Q) → tOp P D ts o.op k kf = some r → zef P ops n σ Q := fun {kf} hkf h => by
     rcases ydz hD hR h with ⟨z, ts', v, H', ρ', h1, h2, h3, h4⟩ | ⟨s, hs⟩
     · exact yow ho (hw.wanted hR) h1 (hk z ts' _ ρ' v h3 h2 h4)
     · exact hkf s hs
   unfold yea at h
   simp only at h
   split at h
   · rename_i c hc
     split at h
     · rename_i x hcal
       split at h
       · rename_i f a b vs hx hvs
         obtain ⟨args, t1, t2⟩ := zsm hR hcal hx hvs
         rcases zj5 hD hR t2 htbl h with ⟨_, Post, h1, h2, h3⟩ | ⟨rv, h1, z, ρ', ts', h2, h3, h4, _⟩ | ⟨s, hs⟩
         · refine yq0 ho (hw.wanted hR) hc t1 h1 (fun rv H' hp => ?_) fun v H' hp => ?_
           · obtain ⟨z, ts', ρ', k1, k2, k3⟩ := h2 rv H' hp
             exact hk z ts' _ ρ' rv k2 k1 k3
           · obtain ⟨z, ts', ρ', k1, k2, k3⟩ := h3 v H' hp
             exact hkp z ts' _ ρ' v k2 k1 k3
         · exact yn9 ho (hw.wanted hR) hc ⟨x, hcal⟩ t1 h1 (hk z ts' σ ρ' rv h3 (h2 _) h4)
         · exact hkf s hs
       · cases h
     · exact hop hkf h
   · rename_i x hc
     split at h
     · rename_i t v hx
       have hv := hR.ev hx
       simp only [VR] at hv
       obtain ⟨u, e1, e2⟩ := hv
       exact ynj ho (hw.wanted hR) hc e1 (hkp _ ts σ ρ _ hR (by simp only [VR]; exact ⟨u, rfl, e2⟩) h)
     · cases h
   · rename_i c hc
     split at h
     · rename_i x hcal
       split at h
       · rename_i f a b vs hx hvs
         obtain ⟨args, t1, t2⟩ := zsm hR hcal hx hvs
         exact ylp ho (hw.wanted hR) hc t1 (hk .any _ _ ρ .any (hR.defer t2) (by simp only [VR]) h)
       · cases h
     · cases h
   · rename_i bo t x y ty hc
     split at h
     · rename_i hx hy
       split at h
       · rename_i hi hu
         have h1 := hR.ev hx
         have h2 := hR.ev hy
         simp only [VR] at h1 h2
         have turn : ∀ {b : Bool}, zy0 P bo t x y .nili .nili = some (.bool b) → k (.bool b) ts = some r → zef P ops n σ Q := fun {b} hb hkk => by
           refine zij ho (hw.wanted hR) (fun W a g hG => zq4 hG.good hG.ev (v := .bool b) (H' := σ.H) ?_) (hk (.bool b) ts _ ρ (.bool b) hR (by simp only [VR]) hkk)
           rw [hc]
           simp only [zou, hEq2, h1, h2, hb, Option.map_some]
         split at h
         · exact turn (by simp only [zy0, hi, hu]) h
         · exact turn (by simp only [zy0, hi, hu]) h
         · cases h
       · cases h
     · exact hop hkf h
   · rename_i t hc
     split at h
     · rename_i i hz hi
       split at h
       · rename_i hb
         simp only [Bool.and_eq_true] at hb
         have hsz : i.size = 2 := Nat.eq_of_beq_eq_true hb.2
         have hm : zou P σ.H σ.ev o.op = some (.ap σ.H.lv σ.H.L.length 0 0 0, σ.H.push (.arr 0 t 2 [.agg [.nilp, .nils]] (some 1))) := by
           rw [hc]
           simp only [zou, hb.1, y2v, hz, hi, hsz]
           rfl
         refine zij ho (hw.wanted hR) (fun W a g hG => zq4 hG.good hG.ev hm) (hk (.bp ts.nx 0) _ _ (ρ ++ [⟨.any, some σ.H.L.length, []⟩]) _ ?_ ?_ h)
         · refine hR.new _ _ _ hR.lv hR.E (by simp [yz3.push]) (fun i hi => by simp only [yz3.push]; rw [List.getElem?_append_left hi]) (fun i hi => by injection hi with hi; omega) ?_
           simp only [OR]
           exact ⟨σ.H.L.length, .nilp, .nils, rfl, by simp [yz3.push], .inl rfl, by simp only [yez, VR]⟩
         · simp only [VR]
           exact ⟨⟨.any, some σ.H.L.length, []⟩, σ.H.L.length, by rw [← hR.nx]; simp, rfl, by rw [hR.lv]⟩
       · exact hop hkf h
     · exact hop hkf h
   · rename_i s d x hc
     split at h
     · rename_i xs fl hx
       split at h
       · rename_i e hus hud
         split at h
         · rename_i hue
           obtain ⟨y, hy, h⟩ := zdl h
           have hv := hR.ev hx
           simp only [VR] at hv
           have hs : yru P s d (σ.ev x) = some (.str y) := by
             unfold yru
             rw [hus, hud]
             simp only [hue]
             obtain ⟨hv, _⟩ := hv
             generalize σ.ev x = u at hv
             cases hv with
             | nil => simp only [ynd, Option.some.injEq] at hy; subst hy; rfl
             | sl _ _ ws full hl hh =>
               simp only [Dat.len]
               rw [ye0 xs ws hl hh, hy]
               rfl
           refine zij ho (hw.wanted hR) (fun W a g hG => ?_) (hk (.str y) ts _ ρ (.str y) hR (by simp only [VR]) h)
           have hx' := hG.ev x
           unfold execOp
           rw [hc]
           exact y3c hG.good hs hx'
         · cases h
       · cases h
     · exact hop hkf h
   · rename_i t x hc
     split at h
     · exact hkf _ h
     · rename_i τ es hx
       split at h
       · rename_i kt vt ht
         have hv := hR.ev hx
         unfold VR at hv
         obtain ⟨hfl, hv⟩ := hv
         refine zij (v := .ptr σ.H.lv σ.H.L.length 0) (H' := σ.H.push (.mit (es.map fun p => (.str p.1, y1c τ p.2)) [])) ho (hw.wanted hR) (fun W a g hG => ?_) (hk (.ptr ts.nx 0) _ _ (ρ ++ [⟨.any, some σ.H.L.length, []⟩]) _ ?_ ?_ h)
         rotate_left
         · refine hR.new _ _ _ hR.lv hR.E (by simp [yz3.push]) (fun i hi => by simp only [yz3.push]; rw [List.getElem?_append_left hi]) (fun i hi => by injection hi with hi; omega) ?_
           simp only [OR]
           refine ⟨σ.H.L.length, es, [], rfl, hfl, by simp [yz3.push], by simp, ?_, fun p hp => by cases hp⟩
           exact ypg es
         · simp only [VR]
           exact ⟨⟨.any, some σ.H.L.length, []⟩, σ.H.L.length, by rw [← hR.nx]; simp, rfl, by rw [hR.lv]⟩
         · have hx' := hG.ev x
           rw [hv] at hx'
           unfold execOp
           rw [hc]
           exact yjo hG.good ht hx'
       · cases h
     · exact hop hkf h
   · rename_i x hc
     split at h
     · rename_i s hx
       split at h
       · rename_i τ last es hs
         have hv := hR.ev hx
         simp only [VR] at hv
         obtain ⟨sl, i, e1, e2, e3⟩ := hv
         obtain ⟨sl', k1, k2⟩ := hR.ob s _ hs
         rw [e1] at k1; injection k1 with k1; subst k1
         have k2' := k2
         simp only [OR] at k2
         obtain ⟨i', fs, vis, q1, q2, q3, q4, q5, _⟩ := k2
         rw [e2] at q1; injection q1 with q1; subst q1
         have hlt := (List.getElem?_eq_some_iff.1 q3).1
         refine yq5 ho (hw.wanted hR) hc e3 (hR.get q3) (fun q hq => by simpa using q4 q hq) (fun hall => ?_) fun j p hj hnj => ?_
         · have hnil : es = [] := by
             have : (List.filter (fun q => !vis.contains q) (List.range fs.length)) = [] := List.filter_eq_nil_iff.2 fun q hq => by
               have := hall q (by simpa using hq)
               simpa using this
             rw [this] at q5
             simpa using q5
           exact hk (.tup [.bool false]) ts σ ρ _ hR (by simp [VR, VRL]) (yqi h hnil)
         · rw [List.getElem?_map, Option.map_eq_some_iff] at hj
           obtain ⟨p', hp', rfl⟩ := hj
           obtain ⟨m, hm, hperm⟩ := yqs q5 hp' hnj
           have h' := yq4 h m p' hm
           refine hk _ _ _ ρ _ ?_ ?_ h'
           · have hmm : σ.H.set F.lv i (zz7.mit (fs.map fun p => (.str p.1, y1c τ p.2)) (vis ++ [j])) = { σ.H with L := σ.H.L.set i (some (.mit (fs.map fun p => (.str p.1, y1c τ p.2)) (vis ++ [j]))) } := by
               unfold yz3.set; rw [if_pos hR.lv.symm]
             rw [hmm]
             exact hR.upd hs trivial e1 e2 (.mit τ (some (p'.1, p'.2)) (es.eraseIdx m)) (.mit (fs.map fun p => (.str p.1, y1c τ p.2)) (vis ++ [j])) (by
               simp only [OR]
               refine ⟨i, fs, vis ++ [j], e2, q2, by simp [hlt], fun q hq => ?_, hperm, fun p hp => ⟨vis, j, rfl, by injection hp with hp; rw [hp', ← hp]⟩⟩
               rcases List.mem_append.1 hq with hq | hq
               · exact q4 q hq
               · simp at hq; subst hq; exact (List.getElem?_eq_some_iff.1 hp').1)
           · simp only [VR, VRL]
             exact ⟨_, rfl, _, _, rfl, rfl, _, _, rfl, rfl, _, _, rfl, VR.yra q2 _, rfl⟩
       · cases h
     · cases h
   · rename_i x hc
     split at h
     · rename_i s hx
       split at h
       · rename_i τ p es hs
         have hv := hR.ev hx
         simp only [VR] at hv
         obtain ⟨sl, i, e1, e2, e3⟩ := hv
         obtain ⟨sl', k1, k2⟩ := hR.ob s _ hs
         rw [e1] at k1; injection k1 with k1; subst k1
         simp only [OR] at k2
         obtain ⟨i', fs, vis, q1, q2, q3, q4, q5, q6⟩ := k2
         rw [e2] at q1; injection q1 with q1; subst q1
         obtain ⟨vis', j, rfl, hj⟩ := q6 p rfl
         refine zij (v := .tup [.str p.1, (y1c τ p.2).v]) (H' := σ.H) ho (hw.wanted hR) (fun W a g hG => ?_) (hk _ ts _ ρ _ hR ?_ h)
         rotate_left
         · simp only [VR, VRL]
           exact ⟨_, rfl, _, _, rfl, rfl, _, _, rfl, VR.yra q2 _, rfl⟩
         · have hx' := hG.ev x
           rw [e3] at hx'
           unfold execOp
           rw [hc]
           exact yk9 hG.good (hR.get q3) (by rw [List.getElem?_map, hj]; rfl) hx'
       · cases h
     · cases h
   · exact hop hkf h
omit hD in
theorem zs5 {R : Type} {ops : Array Oper} {n : Nat} {o : Oper} {go skip : TS D.T → Option R} {r : R} {G : Prop} (hR : TRr D F ρ ts σ) (h : y3k D ops.toList o ts go skip = some r)
  (h1 : ∀ ts', ts'.o = ts.o → TRr D F ρ ts' σ → y0r ops ts' o → go ts' = some r → G) (h2 : ∀ ts', ts'.o = ts.o → TRr D F ρ ts' σ → z0b ops σ o = some false → skip ts' = some r → G) : G := by
 unfold y3k at h
 split at h
 ·rename_i hg; exact h1 ts rfl hR (.inl hg) h
 ·rename_i j want hg
  have hj : ops.toList[j]? = ops[j]? := by simp
  rw [hj] at h
  split at h
  ·cases h
  ·rename_i d hd
   have tell : ∀ b : Bool, fnd ts.t d = some (.bool b) → TRr D F ρ { ts with t := (d, .bool b) :: ts.t } σ ∧ fnd ({ ts with t := (d, .bool b) :: ts.t } : TS D.T).t d = some (.bool b) ∧ σ.t.getD d .any = .bool b := fun b hb => by
    obtain ⟨v, e1, e2⟩ := hR.tm d _ hb
    refine ⟨hR.tell e1 e2, by simp only [yzi, if_true], ?_⟩
    simp only [VR] at e2
    rw [List.getD_eq_getElem?_getD, e1, e2]; rfl
   simp only [y2p] at h
   split at h
   ·rename_i b hb
    have wf : ∀ b' : Bool, b' = b → (b' == want) = false → z0b ops σ o = some false := fun b' e hne => by
     unfold z0b
     rw [hg]; simp only [hd, (tell b hb).2.2]; rw [← e, hne]
    split at h
    ·rename_i hbt
     subst hbt
     obtain ⟨t1, t2, t3⟩ := tell true hb
     split at h
     ·rename_i hwt; subst hwt; exact h1 _ (by rfl) t1 (.inr ⟨j, true, d, hg, hd, t2⟩) h
     ·rename_i hwt; exact h2 _ (by rfl) t1 (wf true rfl (by simpa using hwt)) h
    ·rename_i hbf
     have hbf : b = false := by simpa using hbf
     subst hbf
     obtain ⟨t1, t2, t3⟩ := tell false hb
     split at h
     ·rename_i hwt; subst hwt; exact h2 _ (by rfl) t1 (wf false rfl rfl) h
     ·rename_i hwt; have hwt : want = false := by simpa using hwt
      subst hwt; exact h1 _ (by rfl) t1 (.inr ⟨j, false, d, hg, hd, t2⟩) h
   ·rename_i vs hv
    have := hR.tmp hv
    simp only [VR] at this
    obtain ⟨us, e1, e2⟩ := this
    exact h2 ts rfl hR (by unfold z0b; rw [hg]; simp only [hd, e1]) h
   ·cases h
theorem ykm {R : Type} {ops : Array Oper} {n : Nat} {o : Oper} {Q : zzj → St → Prop} {k kp : TV D.T → TS D.T → Option R} {r : R} (ho : ops[n]? = some o) (htbl : ∀ e ∈ tbl, e.Ok P)
  (hk : ∀ z ts' σ' ρ' v, TRr D F ρ' ts' σ' → VR D ρ' F.lv z v → k z ts' = some r → zef P ops (n + 1) (σ'.put o.dst v) Q) (hkp : ∀ z ts' σ' ρ' v, TRr D F ρ' ts' σ' → VR D ρ' F.lv z v → kp z ts' = some r → Q (.panic v) σ') {ts : TS D.T} {σ : St} {ρ : List Slot}
  (hR : TRr D F ρ ts σ) (hw : y0r ops ts o) (h : yrt P D tbl ops.toList o k kp ts = some r) : zef P ops n σ Q := by
 unfold yrt at h
 split at h
 ·rename_i t x lo hcp
  split at h
  ·rename_i cx clo hx hlo
   rcases y4n hR h (hR.ev hx) (hR.ev hlo) with ⟨z, v, h1, h2, h3⟩ | h
   ·refine yow (H' := σ.H) ho (hw.wanted hR) ?_ (hk z ts _ ρ v hR h2 h3)
    unfold cpB at hcp
    split at hcp
    ·rename_i t' x' lo' d hop hdst
     split at hcp
     ·injection hcp with hcp
      injection hcp with e1 hcp
      injection hcp with e2 e3
      subst e1; subst e2; subst e3
      rw [hop]
      simp only [ox, pv, Option.map_some, Option.map_none, h1]
     ·cases hcp
    ·cases hcp
   ·exact zuq hD ho htbl hk hkp 9 hR hw h
  ·cases h
 ·have fall : yea P D tbl o.op k kp 9 ts = some r → zef P ops n σ Q := zuq hD ho htbl hk hkp 9 hR hw
  split at h
  ·unfold tLit at h
   split at h
   ·rename_i t len ps hop
    split at h
    ·rename_i e qs hu hqs
     split at h
     ·rename_i τ xs hb
      obtain ⟨p1, p2⟩ := hR.parts hqs
      obtain ⟨v, b1, b2⟩ := zlp hD p1 p2 hb
      simp only [VR] at b2
      obtain ⟨b2, b3, _⟩ := b2
      obtain ⟨ws, rfl⟩ := b3 (Nat.le_refl _)
      cases b2 with
      | sl _ _ _ _ hl hh =>
        have hlen : len ≠ 0 := fun e0 => by
          subst e0
          unfold zix at hb
          repeat (split at hb <;> try (first | (cases hb; done) | (injection hb with hb; injection hb with _ _ hb; cases hb; done)))
        refine zij (v := .hs σ.H.lv σ.H.L.length 0 0 ws.length false) (H' := σ.H.push (.arr 0 e (D.len τ) ws (some ws.length))) ho (hw.wanted hR) (fun W a g hG => ?_) (hk (.own ts.nx) _ _ (ρ ++ [⟨.hs σ.H.lv σ.H.L.length 0 0 ws.length false, some σ.H.L.length, ws⟩]) _ ?_ ?_ h)
        · unfold execOp
          rw [hop]
          obtain ⟨r1, r2⟩ := zom hG.ev ps
          exact y6d hG.good b1 hlen hu r1 r2
        · refine hR.new _ _ _ hR.lv hR.E (by simp [yz3.push]) (fun i hi => by simp only [yz3.push]; rw [List.getElem?_append_left hi]) (fun i hi => by injection hi with hi; omega) ?_
          simp only [OR]
          exact ⟨hl, hh, 0, some ws.length, by rw [hR.lv], by simp [yz3.push]⟩
        · simp only [VR]
          exact ⟨⟨.hs σ.H.lv σ.H.L.length 0 0 ws.length false, some σ.H.L.length, ws⟩, by rw [← hR.nx]; simp, rfl, rfl⟩
     ·exact fall h
    ·exact fall h
   ·exact fall h
  ·exact fall h
theorem zk1 {R : Type} {ops : Array Oper} {Q : zzj → St → Prop} {kn : TS D.T → Option R} {kp : TV D.T → TS D.T → Option R} {r : R} (htbl : ∀ e ∈ tbl, e.Ok P)
  (hkn : ∀ ts' σ' ρ', TRr D F ρ' ts' σ' → kn ts' = some r → Q .normal σ') (hkp : ∀ z ts' σ' ρ' v, TRr D F ρ' ts' σ' → VR D ρ' F.lv z v → kp z ts' = some r → Q (.panic v) σ') :
  ∀ (l : List Oper) (n : Nat) {ts : TS D.T} {σ : St} {ρ : List Slot}, (∀ j, l[j]? = ops[n + j]?) → TRr D F ρ ts σ → zu2 P D tbl ops.toList kn kp l ts = some r → zef P ops n σ Q
 | [], n, ts, σ, ρ, hl, hR, h => by
   simp only [zu2] at h
   exact yt2 (by have := hl 0; simp at this; exact this) (hkn ts σ ρ hR h)
 | o :: l, n, ts, σ, ρ, hl, hR, h => by
   have ho : ops[n]? = some o := by simpa using (hl 0).symm
   have hl' : ∀ j, l[j]? = ops[n + 1 + j]? := fun j => by have := hl (j + 1); simpa [Nat.add_assoc, Nat.add_comm 1 j] using this
   simp only [zu2, pOp] at h
   refine zs5 (n := n) hR h (fun ts1 _ hR1 hw h1 => ?_) fun ts1 _ hR1 hw h1 => ?_
   · refine ykm hD ho htbl (fun z ts' σ' ρ' v a1 a2 a3 => ?_) hkp hR1 hw h1
     split at a3
     · rename_i ts2 hp
       exact zk1 htbl hkn hkp l (n + 1) hl' (a1.put hp a2) a3
     · cases a3
   · split at h1
     · rename_i ts2 hp
       exact ypa ho hw (zk1 htbl hkn hkp l (n + 1) hl' (hR1.put hp (by simp only [VR]; exact ⟨[], rfl, by simp only [VRL]⟩)) h1)
     · cases h1
theorem zcg {R : Type} {ops : Array Oper} {kn : TS D.T → Option R} {r : R} (htbl : ∀ e ∈ tbl, e.Ok P) :
  ∀ (l : List Oper) {ts : TS D.T} {σ : St}, TRr D F ρ ts σ → zk5 P D tbl ops.toList kn l ts = some r → ∃ ans σ' cl ts', zlo P ops l ans σ = some (σ', [], cl) ∧ (∀ c ∈ cl, c.ok P) ∧ TRr D F ρ ts' σ' ∧ kn ts' = some r
 | [], ts, σ, hR, h => ⟨[], σ, [], ts, rfl, by simp, hR, h⟩
 | o :: l, ts, σ, hR, h => by
   simp only [zk5, pOp] at h
   refine zs5 (ops := ops) (n := 0) hR h (fun ts1 _ hR1 hw h1 => ?_) fun ts1 _ hR1 hw h1 => ?_
   · have hwt := hw.wanted hR1
     have hpv : ∀ {op : Op}, op = o.op → tP P D ts1 op (fun v => match ts1.put D o.dst v with | some ts => zk5 P D tbl ops.toList kn l ts | none => none) (fun _ => none) = some r → ∃ ans σ' cl ts', zlo P ops (o :: l) ans σ = some (σ', [], cl) ∧ (∀ c ∈ cl, c.ok P) ∧ TRr D F ρ ts' σ' ∧ kn ts' = some r := fun {op} he hh => by
       subst he
       rcases y4e hD hR1 hh with ⟨x, v, a1, a2, a3⟩ | ⟨s, hs⟩
       · cases hp : ts1.put D o.dst x with
         | none => rw [hp] at a3; cases a3
         | some ts2 =>
           rw [hp] at a3
           obtain ⟨ans, σ', cl, ts', b1, b2, b3, b4⟩ := zcg htbl l (hR1.put hp a2) a3
           exact ⟨ans, σ', cl, ts', by simp only [zlo, hwt, if_true, a1]; exact b1, b2, b3, b4⟩
       · cases hs
     split at h1
     · rename_i c hc
       split at h1
       · rename_i x hcal
         split at h1
         · rename_i f a b vs hx hvs
           obtain ⟨args, t1, t2⟩ := zsm hR1 hcal hx hvs
           rcases zj5 hD hR1 t2 (fun e he => htbl e (List.mem_filter.1 he).1) h1 with ⟨⟨e, he, hne⟩, _⟩ | ⟨rv, e1, z, ρ', ts', e2, e3, e4, _⟩ | ⟨s, hs⟩
           · have := (List.mem_filter.1 he).2
             rw [hne] at this; cases this
           · split at e4
             · rename_i ts2 hp
               obtain ⟨ans, σ', cl, ts', b1, b2, b3, b4⟩ := zcg htbl l (hR1.put hp (e2 ρ)) e4
               refine ⟨rv :: ans, σ', ⟨f, args, σ.H, rv, σ.H⟩ :: cl, ts', ?_, y0o (e1 σ.H) b2, b3, b4⟩
               have hpn : pv P σ.H σ.ev (.call c) = none := by simp [pv, zd9, hcal]
               simp only [zlo, hwt, if_true, hc, hpn, t1, b1]
             · cases e4
           · cases hs
         · cases h1
       · exact hpv rfl h1
     · unfold tPC at h1
       split at h1
       · rename_i t x lo hcp
         split at h1
         · rename_i cx clo hx hlo
           rcases y4n hR1 h1 (hR1.ev hx) (hR1.ev hlo) with ⟨z, v, a1, a2, a3⟩ | h1
           · cases hp : ts1.put D o.dst z with
             | none => rw [hp] at a3; cases a3
             | some ts2 =>
               rw [hp] at a3
               obtain ⟨ans, σ', cl, ts', b1, b2, b3, b4⟩ := zcg htbl l (hR1.put hp a2) a3
               refine ⟨ans, σ', cl, ts', ?_, b2, b3, b4⟩
               have hpv' : pv P σ.H σ.ev o.op = some v := by
                 unfold cpB at hcp
                 split at hcp
                 · rename_i t' x' lo' d hop hdst
                   split at hcp
                   · injection hcp with hcp
                     injection hcp with e1 hcp
                     injection hcp with e2 e3
                     subst e1; subst e2; subst e3
                     rw [hop]
                     simp only [pv, Option.map_some, Option.map_none, a1]
                   · cases hcp
                 · cases hcp
               simp only [zlo, hwt, if_true, hpv']; exact b1
           · exact hpv rfl h1
         · cases h1
       · exact hpv rfl h1
   · split at h1
     · rename_i ts2 hp
       obtain ⟨ans, σ', cl, ts', b1, b2, b3, b4⟩ := zcg htbl l (hR1.put hp (v := .tup []) (by simp only [VR]; exact ⟨[], rfl, by simp only [VRL]⟩)) h1
       exact ⟨ans, σ', cl, ts', by simp only [zlo, hw]; simpa using b1, b2, b3, b4⟩
     · cases h1
def zhu (ρ : List Slot) (s i : Nat) : Prop := ∃ sl, ρ[s]? = some sl ∧ sl.k = some i
omit hD in
theorem zoq {ts : TS D.T} {s : Nat} (h : z5b ts s = true) : ∃ o, fnd ts.o s = some o ∧ o.live := by
 unfold z5b at h
 split at h
 ·cases h
 ·rename_i o hne ho; exact ⟨o, ho, by cases o <;> first | trivial | exact (hne ho).elim⟩
 ·cases h
omit hD in
theorem zih {ts : TS D.T} {s : Nat} {o : TO D.T} (h : fnd ts.o s = some o) (hl : o.live) : z5b ts s = true := by
 unfold z5b; rw [h]; cases o <;> first | rfl | exact hl.elim
omit hD in
theorem y4o (hR : TRr D F ρ ts σ) {s i : Nat} (hl : z5b ts s = true) (hk : zhu ρ s i) : i < σ.H.L.length := by
 obtain ⟨o, h1, h2⟩ := zoq hl
 obtain ⟨sl, h3, h4⟩ := hk
 obtain ⟨sl', h5, h6⟩ := hR.ob s o h1
 rw [h3] at h5; injection h5 with h5; subst h5
 exact h6.lt h2 h4
omit hD in
theorem zyx (hR : TRr D F ρ ts σ) {s s' i : Nat} (hl : z5b ts s = true) (hl' : z5b ts s' = true) (hk : zhu ρ s i) (hk' : zhu ρ s' i) : s = s' := by
 obtain ⟨o, h1, h2⟩ := zoq hl
 obtain ⟨sl, h3, h4⟩ := hk
 obtain ⟨o', h1', h2'⟩ := zoq hl'
 obtain ⟨sl', h3', h4'⟩ := hk'
 exact hR.inj s s' o o' sl sl' i h1 h1' h2 h2' h3 h3' h4 h4'
structure zy6 (ρ : List Slot) (ts : TS D.T) (rds : Rds) (wrs : Wrs) (prev : List (Nat × Info)) : Prop where
 q : ∀ p ∈ prev, p.2.eff = false → (∀ x, ¬ p.2.K x) ∨ ∃ R, (p.1, R) ∈ rds ∧ ∀ l, R = some l → ∀ x, p.2.K x → ∃ s ∈ l, z5b ts s = true ∧ zhu ρ s x
 e : ∀ p ∈ prev, p.2.eff = true → ∃ w, (p.1, w) ∈ wrs ∧ ∀ s, w = some s → ∀ x, p.2.W x → z5b ts s = true ∧ zhu ρ s x
def ztk (ρ : List Slot) (R : List Nat) : Info := ⟨false, fun i => ∃ s ∈ R, zhu ρ s i, fun _ => False, false⟩
def yu3 (W : Nat → Prop) : Info := ⟨true, fun _ => False, W, false⟩
def yug (W : Nat → Prop) : Info := ⟨true, fun _ => False, W, true⟩
omit hD in
theorem ym3 {q s : Nat} (h : (!Nat.beq q s) = true) : q ≠ s := fun e => by subst e; rw [Nat.beq_refl] at h; cases h
omit hD in
theorem ykv (hR : TRr D F ρ ts σ) {ops : Array Oper} {k : Nat} {rds : Rds} {wrs : Wrs} {prev : List (Nat × Info)} (hp : zy6 (D := D) ρ ts rds wrs prev) {R : List Nat} (hok : rdOk ops.toList k R wrs = true) (hlive : R.all (z5b ts) = true) : GP .any ops prev k (ztk ρ R) := fun p hj hf => by
 refine ⟨fun h => (by cases h.2), fun _ h => (by cases h), fun _ he x ⟨s, hs, hk⟩ hw => ?_⟩
 obtain ⟨w, hm, hw'⟩ := hp.e p hj he
 have h1 := List.all_eq_true.1 hok (p.1, w) hm
 rw [Bool.or_eq_true] at h1
 rcases h1 with h1 | h1
 ·exact zk9 h1 hf
 ·cases w with
  | none => cases R with
    | nil => cases hs
    | cons a r => cases h1
  | some s' =>
    cases R with
    | nil => cases hs
    | cons a r =>
      have h2 := ym3 (List.all_eq_true.1 h1 s hs)
      obtain ⟨k1, k2⟩ := hw' s' rfl x hw
      exact h2 (zyx hR (List.all_eq_true.1 hlive s hs) k1 hk k2)
omit hD in
theorem ypr {ops : Array Oper} {k : Nat} {rds : Rds} {wrs : Wrs} {prev : List (Nat × Info)} (hp : zy6 (D := D) ρ ts rds wrs prev) {w : Option Nat} {W : Nat → Prop} (hok : yuj ops.toList k w rds = true) (hes : yec ops.toList k wrs = true)
  (hW : ∀ s, w = some s → ∀ q x, z5b ts q = true → zhu ρ q x → q ≠ s → ¬ W x) : GP .any ops prev k (yu3 W) := fun p hj hf => by
 refine ⟨fun ⟨h, _⟩ => ?_, fun hq _ x hx hw => ?_, fun h => (by cases h)⟩
 ·obtain ⟨w', hm, _⟩ := hp.e p hj h
  exact zk9 (List.all_eq_true.1 hes (p.1, w') hm) hf
 ·rcases hp.q p hj hq with h | ⟨R, hm, hR⟩
  ·exact h x hx
  ·have h1 := List.all_eq_true.1 hok (p.1, R) hm
   rw [Bool.or_eq_true] at h1
   rcases h1 with h1 | h1
   ·exact zk9 h1 hf
   ·cases R with
    | none => cases w <;> cases h1
    | some l =>
      obtain ⟨s, hs, k1, k2⟩ := hR l rfl x hx
      cases l with
      | nil => cases hs
      | cons a r =>
        cases w with
        | none => cases h1
        | some s' => exact hW s' rfl s x k1 k2 (ym3 (List.all_eq_true.1 h1 s hs)) hw
omit hD in
theorem zy6.quiet {ρ : List Slot} {ts ts' : TS D.T} {k : Nat} {rds : Rds} {wrs : Wrs} {prev : List (Nat × Info)} (hp : zy6 (D := D) ρ ts rds wrs prev) {R : List Nat} (hlive : R.all (z5b ts) = true) (ho : ts'.o = ts.o) :
  zy6 (D := D) ρ ts' ((k, some R) :: rds) wrs ((k, ztk ρ R) :: prev) := by
 have hl : ∀ s, z5b ts' s = z5b ts s := fun s => by unfold z5b; rw [ho]
 refine ⟨fun p hj hq => ?_, fun p hj he => ?_⟩
 ·rcases List.mem_cons.1 hj with rfl | hj
  ·exact .inr ⟨some R, List.mem_cons_self, fun l hl' x ⟨s, hs, hk⟩ => by injection hl' with hl'; subst hl'; exact ⟨s, hs, by rw [hl]; exact List.all_eq_true.1 hlive s hs, hk⟩⟩
  ·rcases hp.q p hj hq with h | ⟨R, hm, hR⟩
   ·exact .inl h
   ·exact .inr ⟨R, List.mem_cons_of_mem _ hm, fun l hl' x hx => by obtain ⟨s, a, b, c⟩ := hR l hl' x hx; exact ⟨s, a, by rw [hl]; exact b, c⟩⟩
 ·rcases List.mem_cons.1 hj with rfl | hj
  ·cases he
  ·obtain ⟨w, hm, hw⟩ := hp.e p hj he
   exact ⟨w, hm, fun s hs x hx => by rw [hl]; exact hw s hs x hx⟩
omit hD in
theorem zy6.eff {ρ ρ' : List Slot} {ts ts' : TS D.T} {k : Nat} {rds : Rds} {wrs : Wrs} {prev : List (Nat × Info)} (hp : zy6 (D := D) ρ ts rds wrs prev) {w : Option Nat} {W : Nat → Prop} {c : Info} (hc : c.eff = true ∧ c.W = W)
  (hold : ∀ s0, w = some s0 → ∀ s x, z5b ts s = true → zhu ρ s x → z5b ts' s = true ∧ zhu ρ' s x) (hnew : ∀ s, w = some s → ∀ x, W x → z5b ts' s = true ∧ zhu ρ' s x) :
  zy6 (D := D) ρ' ts' (ydi w rds) ((k, w) :: ydo w wrs) ((k, c) :: prev) := by
 obtain ⟨hce, hcW⟩ := hc
 refine ⟨fun p hj hq => ?_, fun p hj he => ?_⟩
 ·rcases List.mem_cons.1 hj with rfl | hj
  ·rw [hce] at hq; cases hq
  ·rcases hp.q p hj hq with h | ⟨R, hm, hR⟩
   ·exact .inl h
   ·cases w with
    | some s0 => exact .inr ⟨R, hm, fun l hl x hx => by obtain ⟨s, a, b, c⟩ := hR l hl x hx; exact ⟨s, a, hold s0 rfl s x b c⟩⟩
    | none =>
      by_cases hemp : R = some []
      · subst hemp
        exact .inl fun x hx => by obtain ⟨s, a, _⟩ := hR [] rfl x hx; cases a
      · refine .inr ⟨none, List.mem_map.2 ⟨(p.1, R), hm, ?_⟩, fun l hl => by cases hl⟩
        cases R with
        | none => rfl
        | some l => cases l with
          | nil => exact (hemp rfl).elim
          | cons a r => rfl
 ·rcases List.mem_cons.1 hj with rfl | hj
  ·rw [hcW]
   exact ⟨w, List.mem_cons_self, hnew⟩
  ·obtain ⟨w', hm, hw⟩ := hp.e p hj he
   cases w with
   | some s0 => exact ⟨w', List.mem_cons_of_mem _ hm, fun s hs x hx => by obtain ⟨a, b⟩ := hw s hs x hx; exact hold s0 rfl s x a b⟩
   | none => exact ⟨none, List.mem_cons_of_mem _ (List.mem_map.2 ⟨(p.1, w'), hm, rfl⟩), fun s hs => by cases hs⟩
def Lvl (F : Fr) (H : yz3) : Prop := H.lv = F.lv
omit hD in
theorem yrj {ρ : List Slot} {lv : Nat} {x : TV D.T} {v : V} (h : VR D ρ lv x v) (hp : x.ynb = true) : v.plain = true := by
 cases x <;> simp only [TV.ynb, Bool.false_eq_true] at hp
 case sl t xs fl => simp only [VR] at h; obtain ⟨h, _⟩ := h; cases h <;> rfl
 case ap s t i x off =>
  simp only [VR] at h
  obtain ⟨sl, w, h1, h2, h3, h4, h5⟩ := h
  split at h5
  ·subst h5; rfl
  ·obtain ⟨ver, n, _, h5⟩ := h5; subst h5; rfl
 case fn f a b => simp only [VR] at h; obtain ⟨as, bs, rfl, _⟩ := h; rfl
 case iface t x => simp only [VR] at h; obtain ⟨y, rfl, _⟩ := h; rfl
 case ref cs off => simp only [VR] at h; obtain ⟨y, rfl, _⟩ := h; rfl
 case ptr s off => simp only [VR] at h; obtain ⟨y, i, _, _, rfl⟩ := h; rfl
 case agg cs => simp only [VR] at h; obtain ⟨y, rfl, _⟩ := h; rfl
 case tup cs => simp only [VR] at h; obtain ⟨y, rfl, _⟩ := h; rfl
 case mc t es => simp only [VR] at h; obtain ⟨_, rfl⟩ := h; rfl
 all_goals (simp only [VR] at h; subst h; rfl)
omit hD in
theorem yk2 (hR : TRr D F ρ ts σ) {x : Operand} {R : List Nat} (h : yin ts x = some R) : (σ.ev x).plain = true ∧ R = [] := by
 unfold yin at h
 split at h
 ·rename_i v hv
  split at h
  ·rename_i hp; injection h with h; exact ⟨yrj (hR.ev hv) hp, h.symm⟩
  ·cases h
 ·cases h
omit hD in
theorem yd1 (hR : TRr D F ρ ts σ) {s i : Nat} {R : List Nat} (hk : zhu ρ s i) (hs0 : s ∈ R) {H : yz3} (hl : Lvl F H) (hs : zsz (ztk ρ R).K σ.H H) : H.get F.lv i = σ.H.get F.lv i := by
 unfold yz3.get
 have hl : H.lv = F.lv := hl
 rw [hl, hR.lv, if_pos rfl, if_pos rfl, hs i ⟨s, hs0, hk⟩]
omit hD in
theorem yd3 (hR : TRr D F ρ ts σ) {x : Operand} {R : List Nat} (h : ownO ts x = some R) {H : yz3} (hl : Lvl F H) (hs : zsz (ztk ρ R).K σ.H H) :
  (σ.ev x).plain = true ∨ ∃ l i ver off n full, σ.ev x = .hs l i ver off n full ∧ H.get l i = σ.H.get l i := by
 unfold ownO at h
 split at h
 ·rename_i s hx
  split at h
  ·rename_i ty t xs w ho
   injection h with h; subst h
   have hv := hR.ev hx
   simp only [VR] at hv
   obtain ⟨sl, h1, h2, h3⟩ := hv
   obtain ⟨sl', k1, k2⟩ := hR.ob s _ ho
   rw [h1] at k1; injection k1 with k1; subst k1
   rw [h2]
   simp only [OR] at k2
   obtain ⟨q1, q2, q3⟩ := k2
   cases hk : sl.k with
   | none =>
     rw [hk] at q3
     rcases q3 with ⟨e, _⟩ | ⟨⟨e, _⟩, _⟩ <;> (left; rw [e]; rfl)
   | some i =>
     rw [hk] at q3
     obtain ⟨ver, cp, e1, e2⟩ := q3
     right
     exact ⟨_, _, _, _, _, _, e1, yd1 hR ⟨sl, h1, hk⟩ (by simp) hl hs⟩
  ·cases h
 ·exact .inl (yk2 hR h).1
omit hD in
theorem ysp (hR : TRr D F ρ ts σ) {op : Op} {R : List Nat} (h : rdK ts op = some R) {H : yz3} (hl : Lvl F H) (hs : zsz (ztk ρ R).K σ.H H) : pv P H σ.ev op = pv P σ.H σ.ev op := by
 cases op <;> simp only [rdK] at h <;> first | (cases h; done) | skip
 case load t a =>
  split at h
  ·rename_i s off ha
   injection h with h; subst h
   have hv := hR.ev ha
   simp only [VR] at hv
   obtain ⟨sl, i, h1, h2, h3⟩ := hv
   simp only [pv, h3]
   refine y4k ?_
   unfold yz3.get
   have hl : H.lv = F.lv := hl
   rw [hl, hR.lv, if_pos rfl, if_pos rfl, hs i ⟨s, by simp, sl, h1, h2⟩]
  ·rename_i s τ n y off ha
   injection h with h; subst h
   have hv := hR.ev ha
   simp only [VR] at hv
   obtain ⟨sl, w, h1, h2, h3, h4, h5⟩ := hv
   cases hk : sl.k with
   | none => rw [hk] at h5; simp only [pv, h5]; exact zrl
   | some j =>
     rw [hk] at h5
     obtain ⟨ver, m, e1, e2⟩ := h5
     simp only [pv, e2]
     exact yc0 (yd1 hR ⟨sl, h1, hk⟩ (by simp) hl hs)
  ·rename_i cs off ha
   have hv := hR.ev ha
   simp only [VR] at hv
   obtain ⟨vs, h3, _⟩ := hv
   simp only [pv, h3]
   exact zrl
  ·cases h
 case indexAddr t x i =>
  simp only [pv]
  rcases yd3 hR h hl hs with h | ⟨l, j, ver, off, n, full, h, hg⟩
  ·exact zxu h
  ·rw [h]; exact zur hg
 case slice t x lo hi mx => simp only [pv]; exact yi5 (yk2 hR h).1
 case call c =>
  simp only [pv, zd9]
  split at h
  ·rename_i x hc ha
   simp only [hc, ha]
   split
   ·rename_i x' t hx ht
    injection hx with hx; subst hx
    rcases yd3 hR h hl hs with h | ⟨l, j, ver, off, n, full, h, hg⟩
    ·exact ymt h
    ·rw [h]; exact yer hg
   ·rfl
  ·rename_i hc; simp only [hc]
  ·rename_i hc; simp only [hc]
  ·cases h
 case makeFunc fn a b => cases fn <;> rfl
 all_goals rfl
theorem yms {R : Type} (hR : TRr D F ρ ts σ) {t s off : Nat} {x : TV D.T} {va vx : V} {k : TV D.T → TS D.T → Option R} {kf : Nat → Option R} {r : R} (h : y4h P D ts t (.ptr s off) x k kf = some r) (ha : VR D ρ F.lv (.ptr s off) va) (hx : VR D ρ F.lv x vx) :
  ∃ i cs cs' H', zhu ρ s i ∧ fnd ts.o s = some (.cells cs) ∧ zlg P σ.H t va vx = some (.any, H') ∧ (∀ j, j ≠ i → H'.L[j]? = σ.H.L[j]?) ∧ H'.lv = F.lv ∧ TRr D F ρ (ts.set D s (.cells cs')) { σ with H := H' } ∧ k .any (ts.set D s (.cells cs')) = some r := by
 unfold y4h at h
 split at h
 ·rename_i hc
  simp only [Bool.and_eq_true, beq_iff_eq] at hc
  obtain ⟨⟨c1, c2⟩, c3⟩ := hc
  have hcells := hx.cells c1
  have hcond : (vx.yzv && (P.info? t).isSome && vx.cells.length == P.cellsOf t) = true := by
   simp only [Bool.and_eq_true, beq_iff_eq]; exact ⟨⟨hx.yzv c1, c2⟩, by rw [← hcells.length]; exact c3⟩
  simp only [VR] at ha
  obtain ⟨sl, i, h1, h2, rfl⟩ := ha
  simp only at h
  split at h
  ·rename_i cs ho
   split at h
   ·rename_i hoff
    obtain ⟨sl', k1, k2⟩ := hR.ob s _ ho
    rw [h1] at k1; injection k1 with k1; subst k1
    simp only [OR] at k2
    obtain ⟨i', vs, q1, q2, q3⟩ := k2
    rw [h2] at q1; injection q1 with q1; subst q1
    have hlt := (List.getElem?_eq_some_iff.1 q2).1
    refine ⟨i, cs, _, σ.H.set F.lv i (.cells (z2u vs off vx.cells)), ⟨sl, h1, h2⟩, ho, ?_, fun j hj => ?_, ?_, ?_, h⟩
    ·unfold zlg
     rw [if_pos hcond]
     simp only [hR.get q2]
     rw [if_pos (by rw [← hcells.length, ← q3.length]; exact hoff)]
    ·rw [hR.yew]; exact List.getElem?_set_ne (Ne.symm hj)
    ·rw [hR.yew]; exact hR.lv
    ·rw [hR.yew]
     exact hR.upd ho trivial h1 h2 _ _ (by simp only [OR]; exact ⟨i, _, h2, by simp [hlt], q3.z2u hcells off⟩)
   ·cases h
  ·cases h
 ·cases h
omit hD in
theorem ylm {ts ts' : TS D.T} {dst : Option Nat} {v : TV D.T} (h : ts.put D dst v = some ts') : ts'.o = ts.o := by
 unfold TS.put at h
 split at h
 ·injection h with h; subst h; rfl
 ·split at h
  ·injection h with h; subst h; rfl
  ·cases h
omit hD in
theorem ykz (hR : TRr D F ρ ts σ) {o : TO D.T} {s : Nat} (h : z5b ts s = true) : z5b (ts.new D o) s = true := by
 obtain ⟨o', h1, h2⟩ := zoq h
 obtain ⟨sl, h3, _⟩ := hR.ob s o' h1
 have hlt := (List.getElem?_eq_some_iff.1 h3).1
 refine zih (o := o') ?_ h2
 simp only [TS.new, yzi]
 rw [if_neg (by rw [← hR.nx]; omega)]; exact h1
omit hD in
theorem y3l {s x : Nat} (e : List Slot) (h : zhu ρ s x) : zhu (ρ ++ e) s x := by
 obtain ⟨sl, h1, h2⟩ := h
 exact ⟨sl, lookup_append h1, h2⟩
def KpQ (Q : zzj → St → Prop) (v : V) (σ : St) : Prop := ∀ t', t'.length = σ.t.length → Q (.panic v) { σ with t := t' }
omit hD in
theorem ym6 (hR : TRr D F ρ ts σ) {ops : Array Oper} {k : Nat} {rds : Rds} {wrs : Wrs} {prev : List (Nat × Info)} (hp : zy6 (D := D) ρ ts rds wrs prev) {M : z6z D.T} (hok : ytb ops.toList k rds M = true) (hes : yec ops.toList k wrs = true) (hlive : ∀ k s, (k, Src.slot s) ∈ M → ∃ o', fnd ts.o s = some o' ∧ o'.live) :
  GP .any ops prev k (yug fun i => ¬ (i < σ.H.L.length ∧ ∀ k s sl, (k, Src.slot s) ∈ M → ρ[s]? = some sl → sl.k ≠ some i)) := fun p hj hf => by
 refine ⟨fun ⟨h, _⟩ => ?_, fun hq _ x hx hw => ?_, fun h => (by cases h)⟩
 ·obtain ⟨w', hm, _⟩ := hp.e p hj h
  exact zk9 (List.all_eq_true.1 hes (p.1, w') hm) hf
 ·rcases hp.q p hj hq with h | ⟨R, hm, hR'⟩
  ·exact h x hx
  ·have h1 := List.all_eq_true.1 hok (p.1, R) hm
   rw [Bool.or_eq_true] at h1
   rcases h1 with h1 | h1
   ·exact zk9 h1 hf
   ·cases R with
    | none => cases h1
    | some l =>
      obtain ⟨s, hs, k1, k2⟩ := hR' l rfl x hx
      refine hw ⟨y4o hR k1 k2, fun k' s' sl hm' hsl hk => ?_⟩
      have h2 := List.all_eq_true.1 (List.all_eq_true.1 h1 s hs) _ hm'
      obtain ⟨o', e1, e2⟩ := hlive k' s' hm'
      exact ym3 h2 (zyx hR k1 (zih e1 e2) k2 ⟨sl, hsl, hk⟩)
omit hD in
theorem yk5 {R : Type} {t u : Nat} {s x : TV D.T} {vs vx : V} {k : TV D.T → Option R} {r : R} (h : yr5 P D t u s x k = some r) (hs : VR D ρ lv s vs) (hx : VR D ρ lv x vx) :
  ∃ z v, zr5 P t u vs vx = some v ∧ (∀ ρ' lv', VR D ρ' lv' z v) ∧ k z = some r := by
 unfold yr5 at h
 split at h
 case h_2 => cases h
 rename_i t' xs
 split at h
 case h_2 => cases h
 rename_i e du ht hu
 split at h
 case h_2 => cases h
 rename_i i τ hi hτ
 split at h
 case h_2 => cases h
 rename_i z hz
 split at h
 case h_2 => cases h
 rename_i hc
 split at h
 case h_2 => cases h
 rename_i xs' ys hxs hys
 obtain ⟨zs, hzs, h⟩ := zdl h
 obtain ⟨hroom, rfl⟩ := yjw hzs
 obtain ⟨rfl, rfl⟩ := zbz hxs
 simp only [Bool.and_eq_true, beq_iff_eq, decide_eq_true_eq] at hc
 obtain ⟨⟨⟨⟨c1, c2⟩, c3⟩, c4⟩, c5⟩ := hc
 have c5 := Nat.eq_of_beq_eq_true c5
 have hsrc : ∃ us, zm9 y65 (D.len t') vx = some us ∧ DRL D t' ys us := by
  unfold yub at hys
  split at hys
  ·injection hys with hys; subst hys
   simp only [VR] at hx; subst hx
   exact ⟨[], rfl, DRL.nil _⟩
  ·rename_i t2 ws fl
   obtain ⟨rfl, rfl⟩ := zbz hys
   simp only [VR] at hx
   obtain ⟨hx, _⟩ := hx
   cases hx with
   | nil => exact ⟨[], rfl, DRL.nil _⟩
   | sl _ _ ws full hl hh => exact ⟨ws, by simp [zm9, zct], hl, hh⟩
  ·cases hys
 obtain ⟨us, hus, hyu⟩ := hsrc
 simp only [VR] at hs
 obtain ⟨hs, hf, _⟩ := hs
 obtain ⟨ws, rfl⟩ := hf (by omega)
 cases hs with
 | sl _ _ _ _ hl hh =>
   have hxy := DRL.append (D := D) ⟨hl, hh⟩ hyu
   refine ⟨_, .sl (D.len t') (ws ++ us) false, ?_, fun ρ' lv' => ?_, h⟩
   · unfold zr5
     simp only [ht, hu, hi, hz]
     rw [← c5, hus]
     simp only
     have hb : (zus du && decide (0 < D.len t') && decide (i.bytes ≤ 524288) && z.cells.size == D.len t' && Nat.beq (D.len t') (D.len t') && Nat.ble (ws.length + us.length) zhv) = true := by
       have h1 : Nat.beq (D.len t') (D.len t') = true := Nat.beq_refl _
       have h2 : Nat.ble (ws.length + us.length) zhv = true := by rw [Nat.ble_eq, hl, hyu.1]; exact hroom
       simp only [Bool.and_eq_true, beq_iff_eq, decide_eq_true_eq]
       exact ⟨⟨⟨⟨⟨c1, by omega⟩, c3⟩, by omega⟩, h1⟩, h2⟩
     rw [hb]
   · simp only [VR]
     exact ⟨.sl _ _ _ _ hxy.1 hxy.2, fun h => by omega, fun h => by cases h⟩
theorem znm {R : Type} {ops : Array Oper} {Q : zzj → St → Prop} {kn : TS D.T → Option R} {kp : TV D.T → TS D.T → Option R} {r : R} (htbl : ∀ e ∈ tbl, e.Ok P) (hkn : ∀ ts' σ' ρ', TRr D F ρ' ts' σ' → kn ts' = some r → Q .normal σ')
  (hkp : ∀ z ts' σ' ρ' v, TRr D F ρ' ts' σ' → VR D ρ' F.lv z v → kp z ts' = some r → Q (.panic v) σ') :
  ∀ (l : List Nat) (rds : Rds) (wrs : Wrs) (prev : List (Nat × Info)) {ts : TS D.T} {σ : St} {ρ : List Slot}, TRr D F ρ ts σ → zy6 (D := D) ρ ts rds wrs prev → ze1 P D tbl ops.toList kn kp l rds wrs ts = some r →
   znf P ops .any (Lvl F) (KpQ Q) (Q .normal) l prev σ
 | [], rds, wrs, prev, ts, σ, ρ, hR, hp, h => hkn ts σ ρ hR h
 | k :: l, rds, wrs, prev, ts, σ, ρ, hR, hp, h => by
   simp only [ze1] at h
   split at h
   · cases h
   rename_i o ho'
   have ho : ops[k]? = some o := by simpa using ho'
   have one : ∀ {c : Info} {v : V} {H' : yz3} {ts2 : TS D.T} {ρ2 : List Slot} {rds2 : Rds} {wrs2 : Wrs}, c.call = false → MV P ops (Lvl F) c σ o v H' → GP .any ops prev k c → TRr D F ρ2 ts2 (z8h σ o v H') → zy6 (D := D) ρ2 ts2 rds2 wrs2 ((k, c) :: prev) → ze1 P D tbl ops.toList kn kp l rds2 wrs2 ts2 = some r →
       znf P ops .any (Lvl F) (KpQ Q) (Q .normal) (k :: l) prev σ := fun {c v H' ts2 ρ2 rds2 wrs2} hcc hm hc hR2 hp2 h2 =>
     ⟨o, c, ho, hc, .inl ⟨v, H', hcc, hm, znm htbl hkn hkp l rds2 wrs2 _ hR2 hp2 h2⟩⟩
   have emp : GP .any ops prev k (ztk ρ []) := fun p hj hf => ⟨fun h => (by cases h.2), fun _ h => (by cases h), fun _ _ x ⟨s, hs, _⟩ => (by cases hs)⟩
   have mH : ∀ {v : V} {ts2 : TS D.T} {ρ2 : List Slot}, TRr D F ρ2 ts2 (σ.put o.dst v) → TRr D F ρ2 ts2 (z8h σ o v σ.H) := fun {v ts2 ρ2} h => h
   simp only [pOp] at h
   refine zs5 (n := k) hR h (fun ts1 ho1 hR1 hw h1 => ?_) fun ts1 ho1 hR1 hw h1 => ?_
   · have hp1 : zy6 (D := D) ρ ts1 rds wrs prev := by
       have hl : ∀ s, z5b ts1 s = z5b ts s := fun s => by unfold z5b; rw [ho1]
       exact ⟨fun p hj hq => (hp.q p hj hq).imp_right fun ⟨R, a, b⟩ => ⟨R, a, fun l e x hx => by obtain ⟨s, c, d, f⟩ := b l e x hx; exact ⟨s, c, by rw [hl]; exact d, f⟩⟩, fun p hj he => by obtain ⟨w, a, b⟩ := hp.e p hj he; exact ⟨w, a, fun s e x hx => by rw [hl]; exact b s e x hx⟩⟩
     have hwt := hw.wanted hR1
     have hlv : Lvl F σ.H := hR1.lv
     split at h1
     · rename_i heff
       split at h1
       · -- an append, taken for data
         split at h1
         case h_2 => cases h1
         rename_i c hc
         split at h1
         case h_2 => cases h1
         rename_i s x t u hcal hargs htys
         split at h1
         case h_2 => cases h1
         rename_i sv xv hs hx
         obtain ⟨z, v, a1, a2, a3⟩ := yk5 h1 (hR1.ev hs) (hR1.ev hx)
         split at a3
         · rename_i ts2 hput
           exact one (c := ztk ρ []) (v := v) (H' := σ.H) rfl (.inr ⟨hwt, hlv, .inl ⟨rfl, rfl, fun H'' k1 k2 => .inr (.inr (.inr (.inr ⟨c, s, x, t, u, hc, hcal, hargs, htys, a1⟩)))⟩⟩) emp (mH (hR1.put hput (a2 _ _))) (hp1.quiet (R := []) rfl (ylm hput)) a3
         · cases a3
       split at h1
       · rename_i hc
         rw [Bool.and_eq_true] at hc
         obtain ⟨hc1, hc2⟩ := hc
         have fin : ∀ {W : Nat → Prop} {v : V} {H' : yz3} {z : TV D.T} {ts' ts2 : TS D.T} {ρ2 : List Slot}, ox P σ.H σ.ev o.op = some (v, H') → (∀ i, ¬ W i → H'.L[i]? = σ.H.L[i]?) → TRr D F ρ2 ts' { σ with H := H' } → VR D ρ2 F.lv z v →
             (∀ s0, wrK ts1 o.op = some s0 → ∀ s x, z5b ts1 s = true → zhu ρ s x → z5b ts' s = true ∧ zhu ρ2 s x) → (∀ s, wrK ts1 o.op = some s → ∀ x, W x → z5b ts' s = true ∧ zhu ρ2 s x) →
             (∀ s, wrK ts1 o.op = some s → ∀ q x, z5b ts1 q = true → zhu ρ q x → q ≠ s → ¬ W x) → ts'.put D o.dst z = some ts2 → ze1 P D tbl ops.toList kn kp l (ydi (wrK ts1 o.op) rds) ((k, wrK ts1 o.op) :: ydo (wrK ts1 o.op) wrs) ts2 = some r →
             znf P ops .any (Lvl F) (KpQ Q) (Q .normal) (k :: l) prev σ :=
           fun {W v H' z ts' ts2 ρ2} g1 g2 g3 g4 g5 g6 g7 g8 g9 => by
             have hH : Lvl F H' := g3.lv
             have ho2 := ylm g8
             have hl2 : ∀ s, z5b ts2 s = z5b ts' s := fun s => by unfold z5b; rw [ho2]
             exact one (c := yu3 W) rfl (.inr ⟨hwt, hlv, .inr ⟨rfl, heff, .inl g1, hH, g2⟩⟩) (ypr hp1 hc1 hc2 g7) (g3.put g8 g4) (hp1.eff ⟨rfl, rfl⟩ (fun s0 e s x a b => by rw [hl2]; exact g5 s0 e s x a b) fun s e x hx => by rw [hl2]; exact g6 s e x hx) g9
         have push : ∀ {cs : List (TV D.T)} {vs : List V} {ts2 : TS D.T}, wrK ts1 o.op = some ts1.nx → VRL D ρ F.lv cs vs → ox P σ.H σ.ev o.op = some (.ptr σ.H.lv σ.H.L.length 0, σ.H.push (.cells vs)) → (ts1.new D (.cells cs)).put D o.dst (.ptr ts1.nx 0) = some ts2 →
             ze1 P D tbl ops.toList kn kp l (ydi (wrK ts1 o.op) rds) ((k, wrK ts1 o.op) :: ydo (wrK ts1 o.op) wrs) ts2 = some r →
             znf P ops .any (Lvl F) (KpQ Q) (Q .normal) (k :: l) prev σ := fun {cs vs ts2} g0 g1 g2 g3 g4 => by
           obtain ⟨h3, h4⟩ := hR1.y37 hD g1
           refine fin (W := fun i => i = σ.H.L.length) g2 (fun i hi => ?_) h3 h4 (fun s0 _ s x a b => ⟨ykz hR1 a, y3l _ b⟩) (fun s hs x hx => ?_) (fun s hs q x a b c e => ?_) g3 g4
           · simp only [yz3.push]
             rw [List.getElem?_append]
             split
             · rfl
             · rename_i hge
               have hi : i ≠ σ.H.L.length := hi
               rw [List.getElem?_eq_none (by simp; omega), List.getElem?_eq_none (by omega)]
           · rw [g0] at hs; injection hs with hs; subst hs
             refine ⟨zih (o := .cells cs) (by simp only [TS.new, yzi, if_true]) trivial, ⟨.any, some σ.H.L.length, []⟩, by rw [← hR1.nx]; simp, by rw [hx]⟩
           · have := y4o hR1 a b
             omega
         have other : wrK ts1 o.op = none → tOp P D ts1 o.op (fun v ts' => match ts'.put D o.dst v with | some ts2 => ze1 P D tbl ops.toList kn kp l (ydi (wrK ts1 o.op) rds) ((k, wrK ts1 o.op) :: ydo (wrK ts1 o.op) wrs) ts2 | none => none) (fun _ => none) = some r →
             znf P ops .any (Lvl F) (KpQ Q) (Q .normal) (k :: l) prev σ := fun g0 hh => by
           rcases ydz hD hR1 hh with ⟨z, ts', v, H', ρ', a1, a2, a3, a4⟩ | ⟨s, hs⟩
           · split at a4
             · rename_i ts2 hput
               exact fin (W := fun _ => True) a1 (fun i hi => (hi trivial).elim) a3 a2 (fun s0 e => by rw [g0] at e; cases e) (fun s0 e => by rw [g0] at e; cases e) (fun s0 e => by rw [g0] at e; cases e) hput a4
             · cases a4
           · cases hs
         cases hop : o.op with
         | alloc t =>
           rw [hop] at h1
           simp only [tOp] at h1
           split at h1
           · rename_i z hz
             split at h1
             · rename_i hs
               obtain ⟨v, b1, b2⟩ := zmi (ρ := ρ) (lv := F.lv) hz
               split at h1
               · rename_i ts2 hput
                 rw [← hop] at h1
                 exact push (by rw [hop]; rfl) (b2.cells hs) (by rw [hop]; simp only [ox, y6p, b1]; rw [if_pos (b2.yzv hs)]) hput h1
               · cases h1
             · cases h1
           · cases h1
         | box t x =>
           rw [hop] at h1
           simp only [tOp] at h1
           split at h1
           · rename_i v hx
             split at h1
             · rename_i hs
               have b2 := hR1.ev hx
               split at h1
               · rename_i ts2 hput
                 rw [← hop] at h1
                 exact push (by rw [hop]; rfl) (b2.cells hs) (by rw [hop]; simp only [ox, ys1]; rw [if_pos (b2.yzv hs)]) hput h1
               · cases h1
             · cases h1
           · cases h1
         | store t a x =>
           by_cases hw0 : wrK ts1 o.op = none
           · exact other hw0 h1
           · rw [hop] at h1
             simp only [tOp] at h1
             split at h1
             · rename_i av xv ha hx
               rw [hop] at hw0
               simp only [wrK, ha] at hw0
               split at hw0
               · rename_i s off heq
                 injection heq with heq; subst heq
                 have hwk : wrK ts1 o.op = some s := by rw [hop]; simp only [wrK, ha]
                 obtain ⟨i, cs, cs', H', b1, b2, b3, b4, b5, b6, b7⟩ := yms hD hR1 h1 (hR1.ev ha) (hR1.ev hx)
                 split at b7
                 · rename_i ts2 hput
                   rw [← hop] at b7
                   have lset : ∀ q, z5b ts1 q = true → z5b (ts1.set D s (.cells cs')) q = true := fun q hq => by
                     obtain ⟨o', c1, c2⟩ := zoq hq
                     by_cases e : s = q
                     · exact zih (o := .cells cs') (by simp only [TS.set, yzi, if_pos e]) trivial
                     · exact zih (o := o') (by simp only [TS.set, yzi, if_neg e]; exact c1) c2
                   have lives : z5b ts1 s = true := zih b2 trivial
                   refine fin (W := fun j => j = i) (by rw [hop]; simp only [ox]; exact b3) (fun j hj => b4 j hj) b6 (by simp only [VR]) (fun s0 _ q x a b => ⟨lset q a, b⟩) (fun s0 hs x hx => ?_) (fun s0 hs q x a b c e => ?_) hput b7
                   · rw [hwk] at hs; injection hs with hs; subst hs
                     exact ⟨lset s lives, by rw [hx]; exact b1⟩
                   · rw [hwk] at hs; injection hs with hs; subst hs
                     subst e
                     exact c (zyx hR1 a lives b b1)
                 · cases b7
               · exact (hw0 rfl).elim
             · cases h1
         | call c =>
           by_cases hw0 : wrK ts1 o.op = none
           · exact other hw0 h1
           · have h1o := h1
             rw [hop] at h1
             simp only [tOp] at h1
             rw [hop] at hw0
             simp only [wrK] at hw0
             split at hw0
             · rename_i sx xx hcal hargs
               split at h1
               · rename_i s x t u hcal' hargs' htys
                 rw [hargs] at hargs'
                 injection hargs' with e1 e2
                 subst e1
                 split at h1
                 · rename_i sv xv hs hx
                   have hno : ∀ q, sv ≠ .own q := fun q e => by rw [hs, e] at hw0; exact hw0 rfl
                   have hwk : wrK ts1 o.op = some ts1.nx := by
                     rw [hop]; simp only [wrK, hcal, hargs, hs]
                     rw [hs] at hw0
                     cases sv <;> first | rfl | exact (hw0 rfl).elim
                   obtain ⟨z, ts', v, H', ρ', a1, a2, a3, a4, a5⟩ := ztd hR1 h1 (hR1.ev hs) (hR1.ev hx)
                   obtain ⟨sl', o', rfl, rfl, q1, q2, q3⟩ := a5 hno
                   split at a4
                   · rename_i ts2 hput
                     refine fin (W := fun i => sl'.k = some i) (by rw [hop]; simp only [ox, hcal, hargs, e2, htys]; exact a1) (fun i hi => q3 i hi) a3 a2 (fun s0 _ s x a b => ⟨ykz hR1 a, y3l _ b⟩) (fun s hss x hx => ?_) (fun s hss q x a b c e => ?_) hput (by rw [hop]; exact a4)
                     · rw [hwk] at hss; injection hss with hss; subst hss
                       exact ⟨zih (o := o') (by simp only [TS.new, yzi, if_true]) q1, sl', by rw [← hR1.nx]; simp, hx⟩
                     · have := y4o hR1 a b
                       have := q2 x e
                       omega
                   · cases a4
                 · cases h1
               · rename_i s x hcal' hargs' htys
                 rw [hcal] at hcal'; cases hcal'
               · exfalso; simp [tP, tP1, hcal, FR.of] at h1
             · exact (hw0 rfl).elim
         | _ => rw [hop] at heff; cases heff
       · cases h1
     · rename_i heff
       split at h1
       · rename_i R hR0
         split at h1
         · rename_i hc
           rw [Bool.and_eq_true] at hc
           obtain ⟨hc1, hc2⟩ := hc
           rcases y4e hD hR1 h1 with ⟨x, v, a1, a2, a3⟩ | ⟨s, hs⟩
           · split at a3
             · rename_i ts2 hput
               refine one (c := ztk ρ R) (v := v) (H' := σ.H) rfl (.inr ⟨hwt, hlv, .inl ⟨rfl, rfl, fun H'' k1 k2 => .inl ?_⟩⟩) (ykv hR1 hp1 hc1 hc2) (mH (hR1.put hput a2)) (hp1.quiet hc2 (ylm hput)) a3
               rw [ysp hR1 hR0 k1 k2]; exact a1
             · cases a3
           · cases hs
         · cases h1
       · split at h1
         · rename_i c hc
           split at h1
           · rename_i x hcal
             split at h1
             · rename_i f a b vs hx hvs
               obtain ⟨args, t1, t2⟩ := zsm hR1 hcal hx hvs
               split at h1
               · rcases zj5 hD hR1 t2 (fun e he => htbl e (List.mem_filter.1 he).1) h1 with ⟨⟨e, he, hne⟩, _⟩ | ⟨rv, e1, z, ρ', ts', e2, e3, e4, _⟩ | ⟨s, hs⟩
                 · have := (List.mem_filter.1 he).2
                   rw [hne] at this; cases this
                 · split at e4
                   · rename_i ts2 hput
                     exact one (c := ztk ρ []) (v := rv) (H' := σ.H) rfl (.inr ⟨hwt, hlv, .inl ⟨rfl, rfl, fun H'' k1 k2 => .inr (.inl ⟨c, f, args, hc, t1, e1 _⟩)⟩⟩) emp (mH (hR1.put hput (e2 ρ))) (hp1.quiet (R := []) rfl (ylm hput)) e4
                   · cases e4
                 · cases hs
               · split at h1
                 · rename_i hlat
                   rw [Bool.and_eq_true] at hlat
                   obtain ⟨hlat, hefs⟩ := hlat
                   obtain ⟨M, Post, m1, m2, m3, m4, m5, m6⟩ := zq9 hD hR1 t2 (fun e he => by
                     obtain ⟨e1, e2⟩ := List.mem_filter.1 he
                     exact ⟨htbl e e1, by simpa using e2⟩) h1
                   let W : Nat → Prop := fun i => ¬ (i < σ.H.L.length ∧ ∀ k s sl, (k, Src.slot s) ∈ M → ρ[s]? = some sl → sl.k ≠ some i)
                   have hpairs := ym6 hR1 hp1 m1 hefs m2
                   refine ⟨o, yug W, ho, hpairs, .inr ⟨fun j hj => ?_, rfl, rfl, hwt, c, f, args, Post, hc, t1, m3, fun v H' hpo => ⟨(m4 _ H' hpo).1, fun i hi => ?_, ?_⟩, fun v H' hpo => ?_⟩⟩
                   · exact zk9 (List.all_eq_true.1 hlat j hj)
                   · have hi : ¬ ¬ _ := hi
                     obtain ⟨i1, i2⟩ := Classical.not_not.1 hi
                     exact (m4 _ H' hpo).2 i i1 i2
                   · obtain ⟨z, ts', ρ', k1, k2, k3⟩ := m5 v H' hpo
                     split at k3
                     · rename_i ts2 hput
                       exact znm htbl hkn hkp l _ _ _ (k2.put hput k1) (hp1.eff ⟨rfl, rfl⟩ (fun s0 e => by cases e) (fun s e => by cases e)) k3
                     · cases k3
                   · obtain ⟨z, ts', ρ', k1, k2, k3⟩ := m6 v H' hpo
                     intro t' ht'
                     refine hkp z _ _ ρ' v ?_ k1 k3
                     exact ⟨k2.nx, ht'.trans k2.nt, fun j x hj => by simp [fnd] at hj, k2.ob, k2.inj, k2.mine, k2.lv, k2.E, k2.e0, k2.d, k2.out, k2.pin⟩
                 · cases h1
             · cases h1
           · cases h1
         · cases h1
   · have hp1 : zy6 (D := D) ρ ts1 rds wrs prev := by
       have hl : ∀ s, z5b ts1 s = z5b ts s := fun s => by unfold z5b; rw [ho1]
       exact ⟨fun p hj hq => (hp.q p hj hq).imp_right fun ⟨R, a, b⟩ => ⟨R, a, fun l e x hx => by obtain ⟨s, c, d, f⟩ := b l e x hx; exact ⟨s, c, by rw [hl]; exact d, f⟩⟩, fun p hj he => by obtain ⟨w, a, b⟩ := hp.e p hj he; exact ⟨w, a, fun s e x hx => by rw [hl]; exact b s e x hx⟩⟩
     split at h1
     · rename_i ts2 hput
       exact one (c := ztk ρ []) (v := .tup []) (H' := σ.H) rfl (.inl ⟨hw, rfl, rfl⟩) emp (mH (hR1.put hput (v := .tup []) (by simp only [VR]; exact ⟨[], rfl, by simp only [VRL]⟩))) (hp1.quiet (R := []) rfl (ylm hput)) h1
     · cases h1
theorem y2m {R : Type} {id : Nat} {ops : Array Oper} {d : Bool} {Q : zzj → St → Prop} {kn : TS D.T → Option R} {kp : TV D.T → TS D.T → Option R} {r : R} (htbl : ∀ e ∈ tbl, e.Ok P)
  (hkn : ∀ ts' σ' ρ', TRr D F ρ' ts' σ' → kn ts' = some r → Q .normal σ') (hkp : ∀ z ts' σ' ρ' v, TRr D F ρ' ts' σ' → VR D ρ' F.lv z v → kp z ts' = some r → Q (.panic v) σ')
  (hR : TRr D F ρ ts σ) (h : zy7 P D tbl ops d ts kn kp = some r) : Sat P (.region id ops d) σ Q := by
 unfold zy7 at h
 split at h
 ·rename_i hd
  subst hd
  simp only at h
  split at h
  ·rename_i hm
   split at h
   ·split at h
    ·rename_i hB
     obtain ⟨ans, σ', cl, ts', b1, b2, b3, b4⟩ := zcg hD htbl ops.toList hR h
     exact ysy hm hB ans σ' cl b1 b2 (hkn ts' σ' ρ b3 b4)
    ·cases h
   ·split at h
    ·rename_i hB
     obtain ⟨ans, σ', cl, ts', b1, b2, b3, b4⟩ := zcg hD htbl _ hR h
     exact ysg _ hm hB ans σ' cl b1 b2 (zk1 hD htbl hkn hkp _ _ (fun j => by simp) b3 b4)
    ·split at h
     ·rename_i hB
      simp only [Bool.and_eq_true] at hB
      obtain ⟨⟨h1, h2⟩, h3⟩ := hB
      refine ysx hm _ h1 (Nat.eq_of_beq_eq_true h2) (fun j hj => ?_) (znm hD htbl hkn hkp _ [] [] [] hR ⟨fun p hp => (by cases hp), fun p hp => (by cases hp)⟩ h)
      have h4 := List.all_eq_true.1 h3 j (List.mem_range.2 hj)
      obtain ⟨q, hq, he⟩ := List.any_eq_true.1 h4
      rw [Nat.eq_of_beq_eq_true he]; exact hq
     ·cases h
  ·cases h
 ·rename_i hd
  have hd : d = false := by simpa using hd
  subst hd
  exact yt4 (zk1 hD htbl hkn hkp ops.toList 0 (fun j => by simp) hR h)
end
end Go.Ab

