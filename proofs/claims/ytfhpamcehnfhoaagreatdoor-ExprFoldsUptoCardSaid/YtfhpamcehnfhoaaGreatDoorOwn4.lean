/-
  FOLDING: WHAT IS CALCULATED AHEAD.
-/
import Derived.Test.YtfhpamcehnfhoaaGreatDoorOwn3
namespace Go.Proofs.YtfhpamcehnfhoaaGreatDoor
open Go Go.Ab
set_option linter.unusedVariables false
set_option linter.unusedSimpArgs false
mutual
def zng (nm : List UInt8) : zz1 → Prop
 | ⟨op, _, n, l⟩ => (op = 2 ∧ n = nm) ∨ zvd nm l
def zvd (nm : List UInt8) : List zz1 → Prop
 | [] => False
 | x :: l => zng nm x ∨ zvd nm l
end
theorem zrw (nm : List UInt8) (e : zz1) : zng nm e = ((e.op = 2 ∧ e.name = nm) ∨ zvd nm e.args) := by cases e; rw [zng]
theorem zj4 {nm : List UInt8} : ∀ {l : List zz1}, zvd nm l ↔ ∃ x ∈ l, zng nm x
 | [] => by simp [zvd]
 | x :: l => by rw [zvd, zj4 (l := l)]; simp
theorem zkw (nm : List UInt8) : ∀ (e : zz1) (acc : List (List UInt8)), nm ∈ z1q e acc ↔ nm ∈ acc ∨ zng nm e := zek fun e ih acc => by
 have hL : ∀ (l : List zz1), (∀ x ∈ l, x ∈ e.args) → ∀ acc : List (List UInt8), nm ∈ yzs l acc ↔ nm ∈ acc ∨ zvd nm l := fun l => by
  induction l with
  | nil => intro _ acc; simp [yzs, zvd]
  | cons x l ihl =>
    intro hm acc
    rw [yzs, ihl (fun y hy => hm y (List.mem_cons_of_mem _ hy)), ih x (hm x List.mem_cons_self), zvd, or_assoc]
 rw [z6x, hL _ (fun _ h => h), zrw]
 by_cases h2 : e.op = 2
 ·by_cases hn : e.name ∈ acc
  ·rw [if_neg (by simp [hn])]
   constructor
   ·rintro (h | h)
    ·exact .inl h
    ·exact .inr (.inr h)
   ·rintro (h | ⟨_, h⟩ | h)
    ·exact .inl h
    ·exact .inl (h ▸ hn)
    ·exact .inr h
  ·rw [if_pos ⟨h2, hn⟩, List.mem_append, List.mem_singleton, or_assoc]
   simp only [h2, true_and, eq_comm]
 ·rw [if_neg (fun h => h2 h.1)]
  simp only [h2, false_and, false_or]
theorem yoi {e : zz1} : z1q e [] = [] ↔ ∀ nm, ¬ zng nm e := by
 constructor
 ·intro h nm hn
  have := (zkw nm e []).2 (.inr hn)
  rw [h] at this; cases this
 ·intro h
  cases hl : z1q e [] with
  | nil => rfl
  | cons x l =>
    have := (zkw x e []).1 (by rw [hl]; simp)
    rcases this with h' | h'
    · cases h'
    · exact (h x h').elim
theorem yfc {e : zz1} (h : ∀ nm, ¬ zng nm e) (env env' : List yz3) : eev env e = eev env' e := zx4 e [] fun nm hn => by
 rcases (zkw nm e []).1 hn with h' | h'
 ·cases h'
 ·exact (h nm h').elim
mutual
def zcv : zz0 → zz1
 | ⟨k, q, t, s, l⟩ => if k = 4 then ⟨18, v0, [], yki l⟩ else ⟨1, ⟨k, q, t, s, l⟩, [], []⟩
def yki : List zz0 → List zz1
 | [] => []
 | x :: l => zcv x :: yki l
end
theorem y7b : ∀ l : List zz0, yki l = l.map zcv
 | [] => rfl
 | x :: l => by rw [yki, y7b l]; rfl
theorem ykn (v : zz0) : zcv v = if v.kind = 4 then ⟨18, v0, [], v.list.map zcv⟩ else ⟨1, v, [], []⟩ := by cases v; rw [zcv, y7b]
theorem zqi {v : zz0} (h : v.kind = 4) : zcv v = ⟨18, v0, [], v.list.map zcv⟩ := by rw [ykn, if_pos h]
theorem zre {v : zz0} (h : v.kind ≠ 4) : zcv v = ⟨1, v, [], []⟩ := by rw [ykn, if_neg h]
theorem yi6 : ∀ v : zz0, kzy (zcv v) = z14 v ∧ z58 (zcv v) = z7n v := zj1 fun v ih => by
 by_cases hk : v.kind = 4
 ·have hl : ∀ l : List zz0, (∀ x ∈ l, x ∈ v.list) → yzc (l.map zcv) = yzm l ∧ z6t (l.map zcv) = z4c l := fun l => by
   induction l with
   | nil => intro _; exact ⟨rfl, rfl⟩
   | cons x l ihl =>
     intro hm
     obtain ⟨h1, h2⟩ := ihl fun y hy => hm y (List.mem_cons_of_mem _ hy)
     obtain ⟨h3, h4⟩ := ih x (hm x List.mem_cons_self)
     simp only [List.map_cons, yzc, z6t, yzm, z4c, h1, h2, h3, h4, and_self]
  obtain ⟨h1, h2⟩ := hl v.list fun _ h => h
  rw [zqi hk, z02, if_pos hk, z5e, if_pos hk, z1r, za5]
  exact ⟨by rw [h1], by rw [h2]⟩
 ·rw [zre hk, z02, if_neg hk, z5e, if_neg hk, z1r, za5]
  exact ⟨rfl, rfl⟩
theorem yo8 : ∀ (v : zz0) (nm : List UInt8), ¬ zng nm (zcv v) := zj1 fun v ih nm => by
 by_cases hk : v.kind = 4
 ·rw [zqi hk, zrw, zj4]
  rintro (⟨h, _⟩ | ⟨x, hx, h⟩)
  ·exact absurd h (by show ¬ ((18 : Int) = 2); decide)
  ·obtain ⟨y, hy, rfl⟩ := List.mem_map.1 hx
   exact ih y hy nm h
 ·rw [zre hk, zrw, zj4]
  rintro (⟨h, _⟩ | ⟨x, hx, h⟩)
  ·exact absurd h (by show ¬ ((1 : Int) = 2); decide)
  ·cases hx
theorem y7p : ∀ v : zz0, zz9 v = 0 → z4b (zcv v) = true := zj1 fun v ih hv => by
 by_cases hk : v.kind = 4
 ·rw [zqi hk, zb4]
  simp only [zu5, zjf, z38, zsx, List.all_map]
  simp
  intro x hx
  exact ih x hx (zvq hv hk hx)
 ·rw [zre hk, zb4]
  simp [z7x, zjf, z38, zsx, hv, hk]
theorem v4_eq {v : zz0} (h : z3x v = true) (hk : v.kind = 4) : v = zii v.list := by
 obtain ⟨h1, h2, h3, h4⟩ := yqh h hk
 exact vext hk h1 h2 h3 h4 rfl
theorem yfu (env : List yz3) : ∀ v : zz0, zz9 v = 0 → eev env (zcv v) = (0, v) := zj1 fun v ih hv => by
 by_cases hk : v.kind = 4
 ·have hl : ∀ l : List zz0, (∀ x ∈ l, x ∈ v.list) → z7v env (l.map zcv) = (0, l) := fun l => by
   induction l with
   | nil => intro _; rw [List.map_nil, z7v]
   | cons x l ihl =>
     intro hm
     rw [List.map_cons, z7v, ih x (hm x List.mem_cons_self) (zvq hv hk (hm x List.mem_cons_self)), ihl fun y hy => hm y (List.mem_cons_of_mem _ hy)]
     simp
  rw [zqi hk, eev]
  rw [if_neg (by decide), if_neg (by decide), if_neg (by decide), hl v.list fun _ h => h]
  have e := v4_eq (z0h hv).1 hk
  have hc : zz9 (zii v.list) = 0 := by rw [← e]; exact hv
  simp only [if_true]
  unfold z8e
  rw [if_neg (by decide), if_neg (by decide), if_neg (by decide), if_neg (by decide), if_neg (by decide), if_neg (by decide), if_neg (by decide), if_neg (by decide), if_neg (by decide), if_neg (by decide), if_neg (by decide), if_neg (by decide), if_neg (by simpa using hc)]
  rw [← e]
 ·rw [zre hk, eev, if_pos rfl]
theorem zuj : z14 v0 = 1 ∧ z7n v0 = 1 := by rw [z02, z5e]; exact ⟨rfl, rfl⟩
theorem yfp {v : zz0} (hk : v.kind ≠ 4) : z14 v = 1 ∧ z7n v = 1 := by rw [z02, z5e, if_neg hk, if_neg hk]; exact ⟨rfl, rfl⟩
def Small (v : zz0) (l : List zz0) : Prop := z14 v ≤ 1 + yzm l ∧ z7n v ≤ max 1 (z4c l)
theorem zbu {v : zz0} (hk : v.kind ≠ 4) (l : List zz0) : Small v l := by
 obtain ⟨h1, h2⟩ := yfp hk
 exact ⟨by omega, by omega⟩
theorem ylo {v : zz0} {l : List zz0} (h : v ∈ l) : Small v l := by
 obtain ⟨h1, h2⟩ := zqd h
 exact ⟨by omega, by omega⟩
theorem y8f {l : List zz0} {i : Nat} : Small (l.getD i v0) l := by
 rcases Nat.lt_or_ge i l.length with h | h
 ·rw [List.getD_eq_getElem?_getD, List.getElem?_eq_getElem h]; exact ylo (List.getElem_mem h)
 ·rw [List.getD_eq_getElem?_getD, List.getElem?_eq_none h]; exact zbu (by show ¬ ((0 : Int) = 4); decide) _
theorem zrk : ∀ a b : List zz0, yzm (a ++ b) = yzm a + yzm b ∧ z4c (a ++ b) = max (z4c a) (z4c b)
 | [], b => by simp [yzm, z4c]
 | x :: a, b => by
   obtain ⟨h1, h2⟩ := zrk a b
   simp only [List.cons_append, yzm, z4c, h1, h2]
   exact ⟨by omega, by omega⟩
theorem zx5 (r : Int × yz1) (l : List zz0) : Small (zm6 r).2 l := by
 unfold zm6; split
 ·exact zbu (by show ¬ ((1 : Int) = 4); decide) _
 ·exact zbu (by show ¬ ((0 : Int) = 4); decide) _
theorem zf5 (l : List zz0) : Small v0 l := zbu (by show ¬ ((0 : Int) = 4); decide) _
theorem yhz {a b : zz0} {l : List zz0} (hs : z14 a + z14 b ≤ 2 + yzm l) (ha : Small a l) (hb : Small b l) : Small (zq3 a b).2 l := by
 unfold zq3
 split
 ·exact zf5 _
 rename_i hv0
 split
 ·exact zf5 _
 rename_i hk
 split
 ·split
  ·exact zf5 _
  ·exact zbu (by show ¬ ((1 : Int) = 4); decide) _
 rename_i h1
 split
 ·split
  ·exact zf5 _
  ·exact zbu (by show ¬ ((3 : Int) = 4); decide) _
 rename_i h3
 split
 ·exact zf5 _
 by_cases h4 : a.kind = 4
 ·have h4b : b.kind = 4 := by omega
  obtain ⟨e1, e2⟩ := zrk a.list b.list
  obtain ⟨a1, a2⟩ := ha; obtain ⟨b1, b2⟩ := hb
  rw [z02, if_pos h4] at a1 hs
  rw [z02 b, if_pos h4b] at hs b1
  rw [z5e, if_pos h4] at a2
  rw [z5e, if_pos h4b] at b2
  refine ⟨?_, ?_⟩
  ·rw [z02, if_pos rfl]; show 1 + yzm (a.list ++ b.list) ≤ _; omega
  ·rw [z5e, if_pos rfl]; show max 1 (z4c (a.list ++ b.list)) ≤ _; omega
 ·exfalso
  have : zz9 a = 0 := (zdi (by simpa using hv0)).1
  rcases zaz (z0h this).1 with h | h | h | h <;> omega
theorem ykx {v : zz0} {i : Int} {l : List zz0} (hv : Small v l) : Small (vat v i).2 l := by
 unfold vat
 split
 ·exact zf5 _
 split
 ·exact zf5 _
 split
 ·rename_i hk
  cases hx : v.list[i.toNat]? with
  | none => exact zf5 _
  | some x =>
    obtain ⟨h1, h2⟩ := zqd (List.mem_of_getElem? hx)
    obtain ⟨a1, a2⟩ := hv
    rw [z02, if_pos hk] at a1
    rw [z5e, if_pos hk] at a2
    exact ⟨by show z14 x ≤ _; omega, by show z7n x ≤ _; omega⟩
 ·exact zbu (by show ¬ ((3 : Int) = 4); decide) _
theorem ylc : ∀ l : List zz0, z14 (l.getD 0 v0) + z14 (l.getD 1 v0) ≤ 2 + yzm l
 | [] => by have := zuj.1; simp [yzm]; omega
 | [x] => by have := zuj.1; simp [yzm]; omega
 | x :: y :: l => by simp [yzm]; omega
theorem ybh {op : Int} {l : List zz0} : Small (z8e op l).2 l := by
 have tr : ∀ b, Small (z6j b) l := fun b => zbu (by show ¬ ((2 : Int) = 4); decide) _
 have nm : ∀ r, Small (yda r) l := fun b => zbu (by show ¬ ((1 : Int) = 4); decide) _
 have z := zf5 l
 have g0 : Small (l.getD 0 v0) l := y8f
 have g1 : Small (l.getD 1 v0) l := y8f
 have pk : ∀ {c : Prop} [Decidable c] {a b : Int × zz0}, Small a.2 l → Small b.2 l → Small (if c then a else b).2 l := fun {c} _ {a b} ha hb => by split <;> assumption
 have pv : ∀ {c : Prop} [Decidable c] {k : Int} {a b : zz0}, Small a l → Small b l → Small ((k, if c then a else b) : Int × zz0).2 l := fun {c} _ {k a b} ha hb => by show Small (if c then a else b) l; split <;> assumption
 have last : Small (zii l) l := by
  refine ⟨?_, ?_⟩
  ·rw [z02, if_pos (show (zii l).kind = 4 from rfl)]; show 1 + yzm l ≤ _; omega
  ·rw [z5e, if_pos (show (zii l).kind = 4 from rfl)]; show max 1 (z4c l) ≤ _; omega
 unfold z8e
 exact pk (yhz (ylc l) g0 g1) <| pk (pk (zx5 _ _) z) <| pk (pk (zx5 _ _) z) <| pk (pk (zx5 _ _) z) <| pk (tr _) <|
  pk (pk z <| pk (tr _) <| pk (pv g1 g0) (pv g1 g0)) <| pk (pk (tr _) z) <| pk (pk (tr _) z) <| pk (pk (tr _) z) <| pk (pk (nm _) z) <| pk (pk z (nm _)) <|
  pk (pk z <| pk z <| pk z (ykx g0)) <| pk z last
def Fits (v : zz0) (p d : Nat) : Prop := z14 v ≤ p ∧ z7n v ≤ d
theorem y88 (env : List yz3) : ∀ l : List zz1, (∀ x ∈ l, (eev env x).1 = 0 → Fits (eev env x).2 (kzy x) (z58 x)) → (z7v env l).1 = 0 → yzm (z7v env l).2 ≤ yzc l ∧ z4c (z7v env l).2 ≤ z6t l
 | [], h, hz => by rw [z7v]; simp [yzm, z4c]
 | x :: l, h, hz => by
   rw [z7v] at hz ⊢
   by_cases hx : (eev env x).1 = 0
   · rw [if_neg (by simpa using hx)] at hz ⊢
     obtain ⟨h1, h2⟩ := y88 env l (fun y hy => h y (List.mem_cons_of_mem _ hy)) hz
     obtain ⟨h3, h4⟩ := h x List.mem_cons_self hx
     simp only [yzm, z4c, yzc, z6t]
     exact ⟨by omega, by omega⟩
   · rw [if_pos (by simpa using hx)] at hz
     exact (hx hz).elim
theorem ztp (env : List yz3) : ∀ (l : List zz1) (k : Nat), (∀ x ∈ l, (eev env x).1 = 0 → Fits (eev env x).2 (kzy x) (z58 x)) → (z3w env l k).1 = 0 → Fits (z3w env l k).2 (1 + yzc l) (max 1 (z6t l))
 | [], k, h, hz => by rw [z3w]; have := zuj; exact ⟨by simp only; omega, by simp only; omega⟩
 | x :: l, 0, h, hz => by
   rw [z3w] at hz ⊢
   obtain ⟨h1, h2⟩ := h x List.mem_cons_self hz
   simp only [yzc, z6t]
   exact ⟨by omega, by omega⟩
 | x :: l, k + 1, h, hz => by
   rw [z3w] at hz ⊢
   obtain ⟨h1, h2⟩ := ztp env l k (fun y hy => h y (List.mem_cons_of_mem _ hy)) hz
   simp only [yzc, z6t]
   exact ⟨by omega, by omega⟩
theorem ymu : ∀ e : zz1, z4b e = true → (eev [] e).1 = 0 → Fits (eev [] e).2 (kzy e) (z58 e) := zek fun e ih hf hz => by
 have ih' : ∀ x ∈ e.args, (eev [] x).1 = 0 → Fits (eev [] x).2 (kzy x) (z58 x) := fun x hx => ih x hx (z60 hf x hx)
 rw [z1r, za5]
 rw [zfu] at hz ⊢
 by_cases h1 : e.op = 1
 ·rw [if_pos h1]
  have ho := zso hf
  unfold zsx at ho
  rw [if_pos h1] at ho
  simp only [Bool.and_eq_true, bne_iff_ne] at ho
  obtain ⟨a, b⟩ := yfp ho.2.1
  exact ⟨by show z14 e.value ≤ _; omega, by show z7n e.value ≤ _; omega⟩
 rw [if_neg h1] at hz ⊢
 by_cases h2 : e.op = 2
 ·rw [if_pos h2] at hz
  exact absurd hz (by show ¬ ((6 : Int) = 0); decide)
 rw [if_neg h2] at hz ⊢
 by_cases h12 : e.op = 12
 ·rw [if_pos h12] at hz ⊢
  cases hl : e.args with
  | nil => rw [z90]; have := zuj; exact ⟨by simp only; omega, by simp only; omega⟩
  | cons c l =>
    rw [hl] at hz ih'
    rw [z90] at hz ⊢
    have ihl : ∀ x ∈ l, (eev [] x).1 = 0 → Fits (eev [] x).2 (kzy x) (z58 x) := fun x hx => ih' x (List.mem_cons_of_mem _ hx)
    by_cases hc : (eev [] c).1 = 0
    · rw [if_neg (by simpa using hc)] at hz ⊢
      by_cases hk : (eev [] c).2.kind = 2
      · rw [if_neg (by simpa using hk)] at hz ⊢
        simp only [yzc, z6t]
        cases ht : (eev [] c).2.truth
        · rw [ht] at hz
          obtain ⟨a, b⟩ := ztp [] l 1 ihl hz
          exact ⟨by simp only [Bool.false_eq_true, if_false]; omega, by simp only [Bool.false_eq_true, if_false]; omega⟩
        · rw [ht] at hz
          obtain ⟨a, b⟩ := ztp [] l 0 ihl hz
          exact ⟨by simp only [if_true]; omega, by simp only [if_true]; omega⟩
      · rw [if_pos (by simpa using hk)] at hz
        exact absurd hz (by show ¬ ((20 : Int) = 0); decide)
    · rw [if_pos (by simpa using hc)] at hz
      exact (hc hz).elim
 rw [if_neg h12] at hz ⊢
 by_cases hl : (z7v [] e.args).1 = 0
 ·rw [if_pos hl] at hz ⊢
  obtain ⟨a, b⟩ := y88 [] e.args ih' hl
  obtain ⟨c, d⟩ := ybh (op := e.op) (l := (z7v [] e.args).2)
  exact ⟨by omega, by omega⟩
 ·rw [if_neg hl] at hz
  exact (hl hz).elim
end Go.Proofs.YtfhpamcehnfhoaaGreatDoor


namespace Go.Proofs.YtfhpamcehnfhoaaGreatDoor
open Go Go.Ab
set_option linter.unusedVariables false
set_option linter.unusedSimpArgs false
theorem yjh : y09 [] := ⟨fun b hb => (by cases hb), by show (0 : Nat) ≤ _; exact Nat.zero_le _⟩
noncomputable def zf4 (e : zz1) : zz1 :=
 if e.op = 12 ∧ (e.args.getD 0 e).op = 1 ∧ (e.args.getD 0 e).value.kind = 2 then (if (e.args.getD 0 e).value.truth then e.args.getD 1 e else e.args.getD 2 e)
 else if z1q e [] ≠ [] then e
 else if (eev [] e).1 = 0 then zcv (eev [] e).2 else e
mutual
noncomputable def z4a : zz1 → zz1
 | ⟨op, v, nm, l⟩ => zf4 ⟨op, v, nm, y0o l⟩
noncomputable def y0o : List zz1 → List zz1
 | [] => []
 | x :: l => z4a x :: y0o l
end
theorem y26 : ∀ l : List zz1, y0o l = l.map z4a
 | [] => by rw [y0o]; rfl
 | x :: l => by rw [y0o, y26 l]; rfl
def within (e : zz1) (l : List zz1) : zz1 := ⟨e.op, e.value, e.name, l⟩
theorem zn9 (e : zz1) : z4a e = zf4 (within e (e.args.map z4a)) := by cases e; rw [z4a, y26]; rfl
theorem three {l : List zz1} (h : l.length = 3) : ∃ a b c, l = [a, b, c] := by
 match l, h with
 | [a, b, c], _ => exact ⟨a, b, c, rfl⟩
theorem yka {e : zz1} (hf : z4b e = true) (h : e.op = 12) : ∃ c a b, e.args = [c, a, b] := by
 have := zh8 hf
 rcases zqj this with ⟨h', _⟩ | ⟨h', _⟩ | ⟨h', _⟩ | ⟨_, h'⟩ | h'
 ·omega
 ·rw [h] at h'; exact absurd h' (by decide)
 ·rw [h] at h'; exact absurd h' (by decide)
 ·exact three h'
 ·omega
theorem zld (e : zz1) (hf : z4b e = true) :
  (∃ c a b, e.op = 12 ∧ e.args = [c, a, b] ∧ c.op = 1 ∧ c.value.kind = 2 ∧ zf4 e = if c.value.truth then a else b) ∨ (zf4 e = e ∧ ((∃ nm, zng nm e) ∨ (eev [] e).1 ≠ 0)) ∨ ((∀ nm, ¬ zng nm e) ∧ (eev [] e).1 = 0 ∧ zf4 e = zcv (eev [] e).2) := by
 by_cases h1 : e.op = 12 ∧ (e.args.getD 0 e).op = 1 ∧ (e.args.getD 0 e).value.kind = 2
 ·left
  obtain ⟨c, a, b, hl⟩ := yka hf h1.1
  refine ⟨c, a, b, h1.1, hl, ?_, ?_, ?_⟩
  ·have := h1.2.1; rw [hl] at this; exact this
  ·have := h1.2.2; rw [hl] at this; exact this
  ·unfold zf4; rw [if_pos h1, hl]; rfl
 right
 by_cases h2 : z1q e [] = []
 ·by_cases h3 : (eev [] e).1 = 0
  ·right; exact ⟨yoi.1 h2, h3, by unfold zf4; rw [if_neg h1, if_neg (by simpa using h2), if_pos h3]⟩
  ·left; exact ⟨by unfold zf4; rw [if_neg h1, if_neg (by simpa using h2), if_neg h3], .inr h3⟩
 ·left; refine ⟨by unfold zf4; rw [if_neg h1, if_pos h2], .inl ?_⟩
  cases hl : z1q e [] with
  | nil => exact (h2 hl).elim
  | cons x l =>
    refine ⟨x, ?_⟩
    rcases (zkw x e []).1 (by rw [hl]; simp) with h | h
    · cases h
    · exact h
theorem ype (env : List yz3) {c : zz1} (h : c.op = 1) : eev env c = (0, c.value) := by rw [zfu, if_pos h]
theorem yjj (env : List yz3) {e c a b : zz1} (h1 : e.op = 12) (h2 : e.args = [c, a, b]) (h3 : c.op = 1) (h4 : c.value.kind = 2) : eev env e = if c.value.truth then eev env a else eev env b := by
 rw [zfu, if_neg (by omega), if_neg (by omega), if_pos h1, h2, z90, ype env h3]
 simp only [ne_eq, not_true_eq_false, if_false, h4, z3w]
theorem zo6 {e : zz1} (hf : z4b e = true) (hz : (eev [] e).1 = 0) : zz9 (eev [] e).2 = 0 := zwq yjh e hf hz
theorem yon (e : zz1) (hf : z4b e = true) : z4b (zf4 e) = true ∧ kzy (zf4 e) ≤ kzy e ∧ z58 (zf4 e) ≤ z58 e ∧ (∀ env, eev env (zf4 e) = eev env e) ∧ (∀ nm, zng nm (zf4 e) → zng nm e) := by
 rcases zld e hf with ⟨c, a, b, h1, h2, h3, h4, h5⟩ | ⟨h1, _⟩ | ⟨h1, h2, h3⟩
 ·have ha : a ∈ e.args := by rw [h2]; simp
  have hb : b ∈ e.args := by rw [h2]; simp
  rw [h5]
  have hp := z1r e
  have hd := za5 e
  rw [h2] at hp hd
  simp only [yzc, z6t] at hp hd
  refine ⟨?_, ?_, ?_, fun env => ?_, fun nm hn => ?_⟩
  ·split
   ·exact z60 hf a ha
   ·exact z60 hf b hb
  ·split <;> omega
  ·split <;> omega
  ·rw [yjj env h1 h2 h3 h4]; split <;> rfl
  ·rw [zrw, zj4]
   right
   split at hn
   ·exact ⟨a, ha, hn⟩
   ·exact ⟨b, hb, hn⟩
 ·rw [h1]; exact ⟨hf, Nat.le_refl _, Nat.le_refl _, fun _ => rfl, fun _ h => h⟩
 ·have hv := zo6 hf h2
  obtain ⟨f1, f2⟩ := ymu e hf h2
  obtain ⟨p1, p2⟩ := yi6 (eev [] e).2
  rw [h3]
  refine ⟨y7p _ hv, by omega, by omega, fun env => ?_, fun nm hn => (yo8 _ nm hn).elim⟩
  rw [yfu env _ hv, yfc h1 env []]
  exact Prod.ext h2.symm rfl
theorem yft {f : zz1 → zz1} {env : List yz3} : ∀ l : List zz1, (∀ x ∈ l, eev env (f x) = eev env x) → z7v env (l.map f) = z7v env l
 | [], h => rfl
 | x :: l, h => by rw [List.map_cons, z7v, z7v, h x List.mem_cons_self, yft l fun y hy => h y (List.mem_cons_of_mem _ hy)]
theorem zwr {f : zz1 → zz1} {env : List yz3} : ∀ (l : List zz1) (k : Nat), (∀ x ∈ l, eev env (f x) = eev env x) → z3w env (l.map f) k = z3w env l k
 | [], k, h => rfl
 | x :: l, 0, h => by rw [List.map_cons, z3w, z3w, h x List.mem_cons_self]
 | x :: l, k + 1, h => by rw [List.map_cons, z3w, z3w, zwr l k fun y hy => h y (List.mem_cons_of_mem _ hy)]
theorem ymf {f : zz1 → zz1} {env : List yz3} (l : List zz1) (h : ∀ x ∈ l, eev env (f x) = eev env x) : z90 env (l.map f) = z90 env l := by
 cases l with
 | nil => rfl
 | cons c l =>
   have hl : ∀ x ∈ l, eev env (f x) = eev env x := fun x hx => h x (List.mem_cons_of_mem _ hx)
   rw [List.map_cons, z90, z90, h c List.mem_cons_self, zwr l 0 hl, zwr l 1 hl]
theorem yj4 {f : zz1 → zz1} {env : List yz3} (e : zz1) (h : ∀ x ∈ e.args, eev env (f x) = eev env x) : eev env (within e (e.args.map f)) = eev env e := by
 rw [zfu, zfu env e]
 simp only [within, ymf e.args h, yft e.args h]
theorem ynm {f g : zz1 → zz1} : ∀ l : List zz1, (∀ x ∈ l, kzy (f x) ≤ kzy x ∧ z58 (f x) ≤ z58 x) → yzc (l.map f) ≤ yzc l ∧ z6t (l.map f) ≤ z6t l
 | [], h => ⟨Nat.le_refl _, Nat.le_refl _⟩
 | x :: l, h => by
   obtain ⟨h1, h2⟩ := ynm (g := g) l fun y hy => h y (List.mem_cons_of_mem _ hy)
   obtain ⟨h3, h4⟩ := h x List.mem_cons_self
   simp only [List.map_cons, yzc, z6t]
   exact ⟨by omega, by omega⟩
theorem zsl (e : zz1) {f : zz1 → zz1} (hf : z4b e = true) (h : ∀ x ∈ e.args, z4b (f x) = true ∧ kzy (f x) ≤ kzy x ∧ z58 (f x) ≤ z58 x ∧ (∀ env, eev env (f x) = eev env x) ∧ (∀ nm, zng nm (f x) → zng nm x)) :
  z4b (within e (e.args.map f)) = true ∧ kzy (within e (e.args.map f)) ≤ kzy e ∧ z58 (within e (e.args.map f)) ≤ z58 e ∧ (∀ env, eev env (within e (e.args.map f)) = eev env e) ∧ (∀ nm, zng nm (within e (e.args.map f)) → zng nm e) := by
 obtain ⟨h1, h2⟩ := ynm (f := f) (g := f) e.args fun x hx => ⟨(h x hx).2.1, (h x hx).2.2.1⟩
 refine ⟨?_, ?_, ?_, fun env => yj4 e fun x hx => (h x hx).2.2.2.1 env, fun nm hn => ?_⟩
 ·rw [zb4]
  simp only [within, List.length_map, zu5, Bool.and_eq_true, List.all_eq_true, List.mem_map]
  refine ⟨zh8 hf, zso hf, ?_⟩
  rintro x ⟨y, hy, rfl⟩
  exact (h y hy).1
 ·rw [z1r, z1r e]; show 1 + yzc (e.args.map f) ≤ _; omega
 ·rw [za5, za5 e]; show max 1 (z6t (e.args.map f)) ≤ _; omega
 ·rw [zrw, zj4] at hn ⊢
  rcases hn with hn | ⟨x, hx, hn⟩
  ·exact .inl hn
  ·obtain ⟨y, hy, rfl⟩ := List.mem_map.1 (show x ∈ e.args.map f from hx)
   exact .inr ⟨y, hy, (h y hy).2.2.2.2 nm hn⟩
theorem znk : ∀ e : zz1, z4b e = true → z4b (z4a e) = true ∧ kzy (z4a e) ≤ kzy e ∧ z58 (z4a e) ≤ z58 e ∧ (∀ env, eev env (z4a e) = eev env e) ∧ (∀ nm, zng nm (z4a e) → zng nm e) := zek fun e ih hf => by
 obtain ⟨a1, a2, a3, a4, a5⟩ := zsl e (f := z4a) hf fun x hx => ih x hx (z60 hf x hx)
 obtain ⟨b1, b2, b3, b4, b5⟩ := yon _ a1
 rw [zn9]
 exact ⟨b1, by omega, by omega, fun env => (b4 env).trans (a4 env), fun nm hn => a5 nm (b5 nm hn)⟩
theorem zxg (e : zz1) (hf : z4b e = true) : z4b (within e (e.args.map z4a)) = true :=
 (zsl e (f := z4a) hf fun x hx => znk x (z60 hf x hx)).1
theorem yky (v : zz0) : ∀ x ∈ (zcv v).args, ∃ y ∈ v.list, v.kind = 4 ∧ x = zcv y := fun x hx => by
 by_cases hk : v.kind = 4
 ·rw [zqi hk] at hx
  obtain ⟨y, hy, rfl⟩ := List.mem_map.1 hx
  exact ⟨y, hy, hk, rfl⟩
 ·rw [zre hk] at hx; cases hx
theorem yfe (e : zz1) (h : ∀ x ∈ e.args, z4a x = x) : within e (e.args.map z4a) = e := by
 have : e.args.map z4a = e.args := by
  conv => rhs; rw [← List.map_id e.args]
  exact List.map_congr_left h
 rw [this]; cases e; rfl
theorem ym0 : ∀ v : zz0, zz9 v = 0 → z4a (zcv v) = zcv v := zj1 fun v ih hv => by
 rw [zn9, yfe _ fun x hx => by
  obtain ⟨y, hy, hk, rfl⟩ := yky v x hx
  exact ih y hy (zvq hv hk hy)]
 have hop : (zcv v).op ≠ 12 := by
  by_cases hk : v.kind = 4
  ·rw [zqi hk]; show ¬ ((18 : Int) = 12); decide
  ·rw [zre hk]; show ¬ ((1 : Int) = 12); decide
 rcases zld _ (y7p v hv) with ⟨c, a, b, h1, _⟩ | ⟨h1, _⟩ | ⟨_, _, h3⟩
 ·exact (hop h1).elim
 ·exact h1
 ·rw [h3, yfu [] v hv]
theorem ydf : ∀ e : zz1, z4b e = true → z4a (z4a e) = z4a e := zek fun e ih hf => by
 have hw := zxg e hf
 have hmem : ∀ x ∈ e.args.map z4a, z4a x = x := fun x hx => by
  obtain ⟨y, hy, rfl⟩ := List.mem_map.1 hx
  exact ih y hy (z60 hf y hy)
 rw [zn9 e]
 rcases zld _ hw with ⟨c, a, b, h1, h2, h3, h4, h5⟩ | ⟨h1, _⟩ | ⟨_, h2, h3⟩
 ·have h2 : e.args.map z4a = [c, a, b] := h2
  rw [h5]
  split
  ·exact hmem a (by rw [h2]; simp)
  ·exact hmem b (by rw [h2]; simp)
 ·rw [h1, zn9, show (within e (e.args.map z4a)).args = e.args.map z4a from rfl]
  have : (e.args.map z4a).map z4a = e.args.map z4a := by
   conv => rhs; rw [← List.map_id (e.args.map z4a)]
   exact List.map_congr_left hmem
  rw [this]
  exact h1
 ·rw [h3]; exact ym0 _ (zo6 hw h2)
theorem yic : ∀ e : zz1, z4b e = true → (∀ nm, ¬ zng nm e) → (eev [] e).1 = 0 → z4a e = zcv (eev [] e).2 := zek fun e ih hf hn hz => by
 have hw := zxg e hf
 obtain ⟨_, _, _, a4, a5⟩ := zsl e (f := z4a) hf fun x hx => znk x (z60 hf x hx)
 rw [zn9]
 rcases zld _ hw with ⟨c, a, b, h1, h2, h3, h4, h5⟩ | ⟨h1, h2⟩ | ⟨_, h2, h3⟩
 ·have e2 := yjj [] h1 h2 h3 h4
  rw [a4] at e2
  have h2 : e.args.map z4a = [c, a, b] := h2
  have key : ∀ x, x ∈ e.args.map z4a → eev [] e = eev [] x → x = zcv (eev [] e).2 := fun x hx he => by
   obtain ⟨y, hy, rfl⟩ := List.mem_map.1 hx
   have hfy := z60 hf y hy
   rw [(znk y hfy).2.2.2.1] at he
   rw [he]
   refine ih y hy hfy (fun nm h => hn nm ?_) (by rw [← he]; exact hz)
   rw [zrw, zj4]; exact .inr ⟨y, hy, h⟩
  rw [h5]
  split
  ·rename_i ht
   rw [if_pos ht] at e2
   exact key a (by rw [h2]; simp) e2
  ·rename_i ht
   rw [if_neg ht] at e2
   exact key b (by rw [h2]; simp) e2
 ·rcases h2 with ⟨nm, h⟩ | h
  ·exact (hn nm (a5 nm h)).elim
  ·rw [a4] at h; exact (h hz).elim
 ·rw [h3, a4]
theorem yed {e : zz1} (hc : z1p e = 0) : z1p (z4a e) = 0 := by
 obtain ⟨h1, h2, h3⟩ := z7q hc
 obtain ⟨a1, a2, a3, _⟩ := znk e h1
 unfold z1p; rw [if_neg (by omega), if_pos a1]
theorem yms : ∀ e : zz1, z4b e = true → e.wf ∧ e.size ≤ 7000 * kzy e := zek fun e ih hf => by
 have hL : ∀ l : List zz1, (∀ x ∈ l, x ∈ e.args) → (∀ x ∈ l, x.wf) ∧ (l.map zz1.size).sum ≤ 7000 * yzc l := fun l => by
  induction l with
  | nil => intro _; exact ⟨fun x hx => (by cases hx), by simp⟩
  | cons x l ihl =>
    intro hm
    obtain ⟨h1, h2⟩ := ihl fun y hy => hm y (List.mem_cons_of_mem _ hy)
    obtain ⟨h3, h4⟩ := ih x (hm x List.mem_cons_self) (z60 hf x (hm x List.mem_cons_self))
    refine ⟨fun y hy => ?_, by simp only [List.map_cons, List.sum_cons, yzc]; omega⟩
    rcases List.mem_cons.1 hy with rfl | hy
    · exact h3
    · exact h1 y hy
 obtain ⟨h1, h2⟩ := hL e.args fun _ h => h
 have hop : 1 ≤ e.op ∧ e.op ≤ 18 := by
  have ha := zh8 hf
  unfold zjf at ha
  simp only [Bool.and_eq_true, bne_iff_ne, ne_eq] at ha
  rcases ops e.op with h | h | h | h | h | h | h | h | h | h | h | h | h | h | h | h | h | h | h
  all_goals first | (exact ⟨by omega, by omega⟩) | skip
  exfalso
  apply ha.1
  unfold z38; rw [if_neg (by omega), if_neg (by omega), if_neg (by omega), if_neg (by omega), if_neg (by omega)]
 have hv : e.value.wf ∧ e.value.size ≤ 6800 ∧ e.name.length ≤ 40 := by
  have ho := zso hf
  have hv0 : v0.size ≤ 6800 := by rw [zz0.size_eq, yz1.size_eq]; simp [v0]
  unfold zsx at ho
  split at ho
  ·simp only [Bool.and_eq_true, beq_iff_eq] at ho
   obtain ⟨a, b⟩ := vok ho.1
   have := ho.2.2
   simp only [List.isEmpty_iff] at this
   exact ⟨a, b, by rw [this]; simp⟩
  ·split at ho
   ·simp only [Bool.and_eq_true, zdj] at ho
    refine ⟨by rw [ho.2]; exact yci, by rw [ho.2]; exact hv0, ?_⟩
    have := ho.1
    unfold zlt at this
    simp only [Bool.and_eq_true] at this
    have hn := this.1
    unfold zfc at hn
    split at hn
    ·cases hn
    ·simp only [Bool.and_eq_true, decide_eq_true_eq] at hn; exact hn.2
   ·simp only [Bool.and_eq_true, zdj, List.isEmpty_iff] at ho
    exact ⟨by rw [ho.2]; exact yci, by rw [ho.2]; exact hv0, by rw [ho.1]; simp⟩
 refine ⟨?_, ?_⟩
 ·rw [zz1.z6o]
  exact ⟨by have : IntKind.u8.min = 0 := rfl; have : IntKind.u8.max = 255 := rfl; omega, hv.1, trivial, h1⟩
 ·rw [zz1.size_eq, z1r]; omega
end Go.Proofs.YtfhpamcehnfhoaaGreatDoor


namespace Go.Proofs.YtfhpamcehnfhoaaGreatDoor
open Go Go.Ab
set_option linter.unusedVariables false
set_option linter.unusedSimpArgs false
theorem zm7 {α β : Type} {f : α → β} {l : List α} {k : Nat} (h : k < l.length) : (l.take k).map f ++ [f l[k]] = (l.take (k + 1)).map f := by
 rw [← zm9 h, List.map_append]; rfl
theorem yo6 : ∀ v : zz0, v.size ≤ 2097152 → Ev (fun n => zb9 n v) (zcv v) := zj1 fun v ih hs => by
 rw [yfj]
 by_cases hk : v.kind = 4
 case neg => rw [Ev.yz2 (by simpa using hk), Ev.yz0, zz0.zz3, zre hk]
 rw [Ev.kz1 (by simpa using hk), zqi hk]
 have hl : v.list.length ≤ (v.list.map zz0.size).sum := by
  have : ∀ l : List zz0, l.length ≤ (l.map zz0.size).sum := fun l => by
   induction l with
   | nil => simp
   | cons x l ih => have := zz0.size_eq x; simp; omega
  exact this _
 have hsz := zz0.size_eq v
 have loop : ∀ k, k ≤ v.list.length → Ev (fun n => z86 n (k : Int) v.list (v.list.length : Int) 18 0 0 0 false [] [] [] 0 0 0 0 false [] [] [] ((v.list.take k).map zcv) []) ⟨18, v0, [], v.list.map zcv⟩ :=
  down (by rw [zra, Ev.kz1 (by simp), Ev.yz0, List.take_length]; rfl) fun k hk ihk => by
   have hm := List.getElem_mem hk
   have hx := y1p hm
   rw [zra, Ev.yz2 (by simpa using hk), Ev.kz3 (z0u hk), zz0.zz3, Ev.kz0 (ih _ hm (by omega)), zz1.zz3, Ev.kz3 (zgu (by simp; omega)), wrk (by omega), zm7 hk]
   exact ihk
 exact loop 0 (Nat.zero_le _)
theorem yli : ∀ v : zz0, v.size ≤ 2097152 → Ev (fun n => z9t n v) (zcv v) := zj1 fun v ih hs => by
 rw [y9n]
 by_cases hk : v.kind = 4
 case neg => rw [Ev.yz2 (by simpa using hk), Ev.yz0, zz0.zz3, zre hk]
 rw [Ev.kz1 (by simpa using hk), zqi hk]
 have hl : v.list.length ≤ (v.list.map zz0.size).sum := by
  have : ∀ l : List zz0, l.length ≤ (l.map zz0.size).sum := fun l => by
   induction l with
   | nil => simp
   | cons x l ih => have := zz0.size_eq x; simp; omega
  exact this _
 have hsz := zz0.size_eq v
 have loop : ∀ k, k ≤ v.list.length → Ev (fun n => z7a n (k : Int) 18 0 0 0 false [] [] [] v 0 0 0 0 false [] [] [] ((v.list.take k).map zcv) []) ⟨18, v0, [], v.list.map zcv⟩ :=
  down (by rw [zpz, Ev.kz1 (by simp), Ev.yz0, List.take_length]; rfl) fun k hk ihk => by
   have hm := List.getElem_mem hk
   have hx := y1p hm
   rw [zpz, Ev.yz2 (by simpa using hk), Ev.kz3 (z0u hk), zz0.zz3, Ev.kz0 (ih _ hm (by omega)), zz1.zz3, Ev.kz3 (zgu (by simp; omega)), wrk (by omega), zm7 hk, zz0.zz3]
   exact ihk
 simp only [zz0.zz3]
 exact loop 0 (Nat.zero_le _)
theorem zrs : ∀ e : zz1, e.size ≤ 2097152 → Ev (fun n => z8h n e e) true := zek fun e ih hs => by
 have hsz := z8x e
 have hln := zfz e.args
 have loop : ∀ k, k ≤ e.args.length → Ev (fun n => zz6 n (k : Int) e.args e.args (e.args.length : Int)) true :=
  down (by rw [z2i, Ev.kz1 (by simp), Ev.yz0]) fun k hk ihk => by
   have hm := List.getElem_mem hk
   rw [z2i, Ev.yz2 (by simpa using hk), Ev.kz3 (z0u hk), Ev.kz3 (z0u hk), zz1.zz3, Ev.kz0 (ih _ hm (by have := zjw hm; omega)), Ev.kz1 (by rfl), wrk (by omega)]
   exact ihk
 have hE : Ev (fun n => yz9 n e.args e.args) true := by
  rw [z6u, Ev.kz1 (by simp)]
  exact loop 0 (Nat.zero_le _)
 rw [y8l, Ev.yz2 (by simp), Ev.yz2 (by simp), zz0.zz3, Ev.kz0 (zg3 _ _ (by omega)), Ev.yz2 (by simp), Ev.kz0 hE, Ev.yz0]
theorem ymj {e : zz1} (hf : z4b e = true) (hp : kzy e ≤ 100) : Ev (fun n => zc6 n e) (zf4 e) := by
 have rest : Ev (fun n => z5n n false (zz1.mk 0 (zz0.mk 0 (yz1.mk 0 0) false [] []) [] []) e) (if z1q e [] ≠ [] then e else if (eev [] e).1 = 0 then zcv (eev [] e).2 else e) := by
  rw [zpu, Ev.kz1 (by rfl), zz1.zz3, Ev.kz0 (zpe e [] (by simp; omega))]
  by_cases hn : z1q e [] = []
  ·rw [if_neg (by simpa using hn), hn, Ev.kz1 (by simp), Ev.kz0 (zxd yjh hf hp)]
   by_cases hz : (eev [] e).1 = 0
   ·have hv := zo6 hf hz
    have := (vok hv).2
    rw [Ev.yz2 (by simpa using hz), zz0.zz3, Ev.kz0 (yo6 (eev [] e).2 (by omega)), Ev.yz0, zz1.zz3, if_pos hz]
   ·rw [Ev.kz1 (by simpa using hz), Ev.yz0, if_neg hz]
  ·have hl : 0 < (z1q e []).length := List.length_pos_iff.2 hn
   rw [if_pos hn, Ev.yz2 (by simpa using hl), Ev.yz0]
 have hno : ¬ (e.op = 12 ∧ (e.args.getD 0 e).op = 1 ∧ (e.args.getD 0 e).value.kind = 2) → zf4 e = if z1q e [] ≠ [] then e else if (eev [] e).1 = 0 then zcv (eev [] e).2 else e := fun h => by
  unfold zf4; exact if_neg h
 rw [yb0]
 by_cases h12 : e.op = 12
 ·obtain ⟨c, a, b, hl⟩ := yka hf h12
  rw [Ev.yz2 (by simpa using h12), hl, Ev.kz3 (show ix [c, a, b] 0 = some c from rfl), zz1.zz3]
  by_cases h1 : c.op = 1
  ·rw [Ev.yz2 (by simpa using h1), Ev.kz3 (show ix [c, a, b] 0 = some c from rfl)]
   by_cases hk : c.value.kind = 2
   ·rw [show (c.value.kind == 2) = true by simpa using hk, zpu, Ev.yz2 (by rfl), hl, Ev.kz3 (show ix [c, a, b] 0 = some c from rfl)]
    have hfo : zf4 e = if c.value.truth then a else b := by
     unfold zf4; rw [hl, if_pos ⟨h12, h1, hk⟩]; rfl
    rw [hfo]
    cases ht : c.value.truth
    ·rw [Ev.kz1 (by rfl), Ev.kz3 (show ix [c, a, b] 2 = some b from rfl), Ev.yz0, zz1.zz3]; rfl
    ·rw [Ev.yz2 (by rfl), Ev.kz3 (show ix [c, a, b] 1 = some a from rfl), Ev.yz0, zz1.zz3]; rfl
   ·rw [show (c.value.kind == 2) = false by simpa using hk]
    exact rest.to (hno fun h => hk (by have := h.2.2; rw [hl] at this; exact this)).symm
  ·rw [Ev.kz1 (by simpa using h1)]
   exact rest.to (hno fun h => h1 (by have := h.2.1; rw [hl] at this; exact this)).symm
 ·rw [Ev.kz1 (by simpa using h12), zz1.zz3]
  exact rest.to (hno fun h => h12 h.1).symm
theorem ydo : ∀ e : zz1, z4b e = true → kzy e ≤ 100 → Ev (fun n => z7y n e) (z4a e) := zek fun e ih hf hp => by
 have hpe := z1r e
 have hln := zer e.args
 have hw := zsl e (f := z4a) hf fun x hx => znk x (z60 hf x hx)
 have hwi : zz1.mk e.op (zz0.mk e.value.kind (yz1.mk e.value.num.num e.value.num.den) e.value.truth e.value.str e.value.list) e.name (e.args.map z4a) = within e (e.args.map z4a) := by
  cases e with
  | mk op v nm l => cases v with
    | mk k q t s l2 => cases q; rfl
 have loop : ∀ k, k ≤ e.args.length → Ev (fun n => z5k n (k : Int) e.args (e.args.length : Int) e.op e.value.kind e.value.num.num e.value.num.den e.value.truth e.value.str e.value.list e.name 0 0 0 0 false [] [] [] ((e.args.take k).map z4a) []) (z4a e) :=
  down (by
   rw [zlg, Ev.kz1 (by simp), List.take_length]
   rw [hwi, Ev.kz0 (ymj hw.1 (by omega)), Ev.yz0, zz1.zz3, zn9]) fun k hk ihk => by
   have hm := List.getElem_mem hk
   have hx := zxp hm
   rw [zlg, Ev.yz2 (by simpa using hk), Ev.kz3 (z0u hk), zz1.zz3, Ev.kz0 (ih _ hm (z60 hf _ hm) (by omega)), zz1.zz3, Ev.kz3 (zgu (by simp; omega)), wrk (by omega), zm7 hk]
   exact ihk
 rw [y2x]
 exact loop 0 (Nat.zero_le _)
theorem y8c {e : zz1} (hw : e.wf) (hs : e.size ≤ 2097152) (hc : z1p e = 0) : Ev (fun n => z9w n e) (0, z4a e) := by
 obtain ⟨h1, h2, _⟩ := z7q hc
 rw [y9o, zz1.zz3, Ev.kz0 (zec hw hs), Ev.kz1 (by simpa using hc), Ev.kz0 (ydo e h1 h2), Ev.yz0, zz1.zz3]
theorem ycr (e : zz1) (env : List yz3) (hw : e.wf) (hbw : ∀ b ∈ env, b.wf) (hs : e.size + (env.map yz3.size).sum ≤ 1048576) : ∃ n, z13 n e env = some true := by
 have hbw' : ∀ b ∈ env, b.value.wf := fun b hb => by have := hbw b hb; rw [yz3.z6o] at this; exact this.2
 refine Ev.get (r := true) ?_
 have lt : Ev (fun n => kzo n env true e) true := by rw [zaa, Ev.yz2 (by rfl)]; exact alv
 have lf (hc : z1p e = 0) : Ev (fun n => kzo n env false e) true := by
  obtain ⟨hf, hp, _⟩ := z7q hc
  obtain ⟨a1, a2, a3, a4, a5⟩ := znk e hf
  obtain ⟨ow, os⟩ := yms _ a1
  have oc := yed hc
  have os : (z4a e).size ≤ 2097152 := by omega
  have n0 : ∀ b ∈ ([] : List yz3), b.value.wf := fun b hb => by cases hb
  have z0 : (([] : List yz3).map yz3.size).sum ≤ 2097152 := by show (0 : Nat) ≤ _; exact Nat.zero_le _
  have b0 : z3j [] = 0 := by rw [zty]; exact ⟨by simp, fun b hb => by cases hb⟩
  have l2 : Ev (fun n => z05 n false (z4a e) e) true := by
   have hn : zp0 e = (z64 e [], 0) := by unfold zp0; rw [if_neg (by simpa using hc)]
   rw [zi6, Ev.kz1 (by rfl)]
   simp only [zz1.zz3, zz0.zz3]
   rw [Ev.kz0 (ztr hw (by omega)), Ev.kz0 (zaf hw (by omega) n0 z0), hn, zb8 hc b0, Ev.kz1 (by rfl)]
   by_cases hu : z64 e [] = []
   case neg =>
    have hl : 0 < (z64 e []).length := List.length_pos_iff.2 hu
    rw [Ev.yz2 (by simpa using hl)]; exact alv
   rw [Ev.kz1 (by simp [hu])]
   by_cases hz : (eev [] e).1 = 0
   case neg => rw [Ev.yz2 (by simpa using hz)]; exact alv
   have hmem : ∀ x, x ∈ z1q e [] ↔ x ∈ z64 e [] := (zh5 e [] [] (by simp) (by simp [z9u]) (by simp)).2.2.1
   have hnn : ∀ nm, ¬ zng nm e := fun nm h => by
    have := (hmem nm).1 ((zkw nm e []).2 (.inr h))
    rw [hu] at this; cases this
   have hv := (vok (zo6 hf hz)).2
   rw [Ev.kz1 (by simpa using hz), Ev.kz0 (yli _ (by omega)), ← yic e hf hnn hz, Ev.kz0 (zrs _ os), Ev.yz2 (by rfl)]
   exact alv
  have l1 : Ev (fun n => yzi n env false (z4a e) e) true := by
   have he : zjp (z4a e) env = zjp e env := by
    unfold zjp
    rw [hc, oc, a4]
   have hsz : (zjp e env).2.size ≤ 2097152 := by
    by_cases hb : z3j env = 0
    ·rw [zb8 hc hb]; exact zna hc hb
    ·unfold zjp; rw [if_neg (by simpa using hc), if_pos hb]; exact zru
   rw [zhu, Ev.kz1 (by rfl)]
   simp only [zz1.zz3, zz0.zz3]
   rw [Ev.kz0 (zaf hw (by omega) hbw' (by omega)), Ev.kz0 (zaf ow os hbw' (by omega)), he, Ev.kz1 (by simp), Ev.kz0 (zko _ _ hsz), show (!eqB (zjp e env).2 (zjp e env).2) = false by simp]
   exact l2
  rw [zaa, Ev.kz1 (by rfl)]
  simp only [zz1.zz3]
  rw [Ev.kz0 (y8c hw (by omega) hc), Ev.kz0 (y8c ow os oc), ydf e hf, Ev.kz1 (by rfl), Ev.kz1 (by rfl), Ev.kz0 (zrs _ os), Ev.kz1 (by rfl), Ev.kz0 (zec ow os), oc]
  exact l1
 rw [zl9]
 simp only [zz1.zz3]
 rcases znf (e := e) (by omega) with ⟨h1, hc⟩ | h1
 case inr => rw [Ev.kz0 h1, Ev.yz2 (by rfl)]; exact lt
 rw [Ev.kz0 h1, Ev.kz1 (by rfl)]
 obtain ⟨g, hg⟩ := zg8 (env := env) (by omega)
 rw [Ev.kz0 hg]
 cases g
 ·exact lf hc
 ·exact lt
end Go.Proofs.YtfhpamcehnfhoaaGreatDoor

