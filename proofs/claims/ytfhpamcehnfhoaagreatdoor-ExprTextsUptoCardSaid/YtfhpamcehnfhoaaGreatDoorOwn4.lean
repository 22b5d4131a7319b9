/-
  READING RATIOS: THE PROGRAM AND THE REFERENCE.
-/
import Derived.Test.YtfhpamcehnfhoaaGreatDoorOwn3
namespace Go.Proofs.YtfhpamcehnfhoaaGreatDoor
open Go Go.Ab
set_option linter.unusedVariables false
set_option linter.unusedSimpArgs false
theorem yve (s : List UInt8) : 0 ≤ (zt9 s).1 ∧ (zt9 s).1 < 10000000000 := by
 unfold zt9
 split
 ·exact ⟨by decide, by decide⟩
 ·rename_i h
  split
  ·rename_i ha
   have := yqp s 0 0 ha (by decide)
   have hp := zye (k := 0 + s.length) (by omega)
   have : val 0 s < 10000000000 := by omega
   exact ⟨Int.natCast_nonneg _, by show ((val 0 s : Nat) : Int) < _; omega⟩
  ·exact ⟨by decide, by decide⟩
theorem yt7 {w : List UInt8} {b : Bool} {q r : zz2} (h : b = false → rok r = true) : ∃ c r', Ev (fun n => z1a n w b q r) (c, r') ∧ (c = 12 ∨ c = 0 ∧ rok r' = true ∧ z1n r' = w) := by
 cases b
 ·have hr := h rfl
  by_cases ht : z1n r = w
  ·refine ⟨0, r, ?_, .inr ⟨rfl, hr, ht⟩⟩
   rw [z9p, Ev.yz1 (by rfl), Ev.zz0 (zgv hr), Ev.yz1 (by simpa using ht), Ev.zz1]
  ·refine ⟨12, ⟨0, 0⟩, ?_, .inl rfl⟩
   rw [z9p, Ev.yz1 (by rfl), Ev.zz0 (zgv hr), Ev.kz1 (by simpa using ht), Ev.zz1]
 ·exact ⟨12, ⟨0, 0⟩, by rw [z9p, Ev.kz1 (by rfl), Ev.zz1], .inl rfl⟩
theorem yut {w : List UInt8} {b1 b2 : Bool} {y x : Int} {q : zz2} (hx : I64 x) : ∃ c r', Ev (fun n => z15 n w b1 b2 y x q) (c, r') ∧ (c = 12 ∨ c = 0 ∧ rok r' = true ∧ z1n r' = w) := by
 cases b2
 ·obtain ⟨c, r', h1, h2⟩ := yt7 (w := w) (b := true) (q := q) (r := ⟨x, y⟩) (fun h => by cases h)
  exact ⟨c, r', by rw [z9q, Ev.kz1 (by rfl)]; exact h1, h2⟩
 cases b1
 ·obtain ⟨c, r', h1, h2⟩ := yt7 (w := w) (b := true) (q := q) (r := ⟨x, y⟩) (fun h => by cases h)
  exact ⟨c, r', by rw [z9q, Ev.yz1 (by rfl), Ev.kz1 (by rfl)]; exact h1, h2⟩
 have hc := zfb (r := ⟨x, y⟩) hx
 obtain ⟨c, r', h1, h2⟩ := yt7 (w := w) (b := ((if rok ⟨x, y⟩ then 0 else 8 : Int) != 0)) (q := q) (r := ⟨x, y⟩) (fun h => by
  by_cases hr : rok ⟨x, y⟩ = true
  ·exact hr
  ·rw [if_neg hr] at h; cases h)
 exact ⟨c, r', by rw [z9q, Ev.yz1 (by rfl), Ev.yz1 (by rfl), Ev.zz0 hc]; exact h1, h2⟩
theorem y8k {s p : List UInt8} : (if p.isPrefixOf s then s.drop p.length else s).length ≤ s.length := by split <;> simp
theorem y3x {w : List UInt8} (hl : w.length ≤ 1000000) : ∃ c r, Ev (fun n => z1q n w) (c, r) ∧ (c = 12 ∨ c = 0 ∧ rok r = true ∧ z1n r = w) := by
 have hcl := y8k (s := w) (p := [45])
 have hb := yve
 have l0 : ∀ (b : Bool) (d m : List UInt8) (q : zz2), ∃ c r, Ev (fun n => z17 n w b d m q) (c, r) ∧ (c = 12 ∨ c = 0 ∧ rok r = true ∧ z1n r = w) := fun b d m q => by
  have hm := hb m
  cases b
  ·obtain ⟨c, r', h1, h2⟩ := yut (w := w) (b1 := (zt9 d).2) (b2 := (zt9 m).2) (y := (zt9 d).1) (x := (zt9 m).1) (q := q) (by unfold I64; omega)
   exact ⟨c, r', by rw [zbz, Ev.zz0 zd5, Ev.zz0 zd5, Ev.yz1 (by rfl)]; exact h1, h2⟩
  ·obtain ⟨c, r', h1, h2⟩ := yut (w := w) (b1 := (zt9 d).2) (b2 := (zt9 m).2) (y := (zt9 d).1) (x := IntKind.i64.wrap (0 - (zt9 m).1)) (q := q) (by rw [wI (by omega)]; unfold I64; omega)
   exact ⟨c, r', by rw [zbz, Ev.zz0 zd5, Ev.zz0 zd5, Ev.kz1 (by rfl)]; exact h1, h2⟩
 cases hh : (cutAt 47 (if ([45] : List UInt8).isPrefixOf w then w.drop ([45] : List UInt8).length else w)).2.2
 ·obtain ⟨c, r', h1, h2⟩ := l0 (([45] : List UInt8).isPrefixOf w) [49] (cutAt 47 (if ([45] : List UInt8).isPrefixOf w then w.drop ([45] : List UInt8).length else w)).1 ⟨0, 0⟩
  exact ⟨c, r', by rw [zgc, Ev.zz0 zol, Ev.zz0 (yte (Nat.le_trans hcl hl)), Ev.kz1 (by rw [hh]; rfl)]; exact h1, h2⟩
 ·obtain ⟨c, r', h1, h2⟩ := l0 (([45] : List UInt8).isPrefixOf w) (cutAt 47 (if ([45] : List UInt8).isPrefixOf w then w.drop ([45] : List UInt8).length else w)).2.1 (cutAt 47 (if ([45] : List UInt8).isPrefixOf w then w.drop ([45] : List UInt8).length else w)).1 ⟨0, 0⟩
  exact ⟨c, r', by rw [zgc, Ev.zz0 zol, Ev.zz0 (yte (Nat.le_trans hcl hl)), Ev.yz1 (by rw [hh]; rfl)]; exact h1, h2⟩
theorem zro {c : UInt8} (h : z7u c = true) : c ≠ 47 ∧ c ≠ 45 := by
 have := z7s.1 h
 constructor <;> (intro e; subst e; simp at this)
theorem yv6 {d t : List UInt8} (h : d.all z7u = true) : (d ++ 47 :: t).takeWhile (· != 47) = d ∧ (d ++ 47 :: t).dropWhile (· != 47) = 47 :: t := by
 induction d with
 | nil => simp
 | cons c d ih =>
   simp only [List.all_cons, Bool.and_eq_true] at h
   have hc := (zro h.1).1
   obtain ⟨i1, i2⟩ := ih h.2
   simp only [List.cons_append, List.takeWhile_cons, List.dropWhile_cons]
   have : (c != 47) = true := by simpa using hc
   rw [this]
   exact ⟨by simp only [if_true]; rw [i1], by simp only [if_true]; exact i2⟩
theorem yu2 {d t : List UInt8} (h : d.all z7u = true) : cutAt 47 (d ++ 47 :: t) = (d, t, true) := by
 obtain ⟨h1, h2⟩ := yv6 (t := t) h
 unfold cutAt
 rw [h1, h2]
 simp
theorem ysh {d : List UInt8} (h : d.all z7u = true) : cutAt 47 d = (d, [], false) := by
 refine ynh ?_
 rw [List.any_eq_false]
 intro c hc
 have := (zro (List.all_eq_true.1 h c hc)).1
 simpa using this
def zp7 (r : zz2) : List UInt8 := if r.den = 1 then Lib.decDigits r.num.natAbs else Lib.decDigits r.num.natAbs ++ 47 :: Lib.decDigits r.den.natAbs
theorem zod {x : Int} (h : 0 ≤ x) : Lib.itoa x = Lib.decDigits x.natAbs := by
 unfold Lib.itoa; rw [if_neg (by omega)]; congr 1; omega
theorem zlu {r : zz2} (h : rok r = true) : z1n r = if r.num < 0 then 45 :: zp7 r else zp7 r := by
 obtain ⟨h1, h2, h3⟩ := zyj h
 unfold z1n zp7
 rw [zod (x := r.den) (by omega)]
 by_cases hn : r.num < 0
 ·rw [if_pos hn, show Lib.itoa r.num = 45 :: Lib.decDigits r.num.natAbs by unfold Lib.itoa; rw [if_pos hn]]
  split <;> simp
 ·rw [if_neg hn, zod (by omega)]
theorem y4k (r : zz2) : ∃ c t, zp7 r = c :: t ∧ z7u c = true := by
 have ha := zej r.num.natAbs
 have hn := zs6 r.num.natAbs
 unfold zp7
 cases hd : Lib.decDigits r.num.natAbs with
 | nil => exact (hn hd).elim
 | cons c t =>
   rw [hd] at ha
   simp only [List.all_cons, Bool.and_eq_true] at ha
   split
   · exact ⟨c, t, rfl, ha.1⟩
   · exact ⟨c, _, rfl, ha.1⟩
theorem y0r {r : zz2} (h : rok r = true) : Ev (fun n => z1q n (z1n r)) (0, r) := by
 obtain ⟨h1, h2, h3⟩ := zyj h
 obtain ⟨c, t, hb, hc⟩ := y4k r
 have hlen := zkq h
 have hbl : (zp7 r).length ≤ 1000000 := by
  have := congrArg List.length (zlu h)
  split at this
  ·rw [List.length_cons] at this; omega
  ·omega
 have hck := zfb (r := r) (by unfold I64; omega)
 rw [if_pos h] at hck
 have l1 : Ev (fun n => z15 n (z1n r) true true r.den r.num ⟨0, 0⟩) (0, r) := by
  rw [z9q, Ev.yz1 (by rfl), Ev.yz1 (by rfl)]
  rw [Ev.zz0 (show Ev (fun n => z1r n (zz2.mk r.num r.den)) 0 from hck), z9p, Ev.yz1 (by rfl), Ev.zz0 (show Ev (fun n => z4k n (zz2.mk r.num r.den)) (z1n r, 0) from zgv h), Ev.yz1 (by simp), Ev.zz1]
 have hdn := yi1 (u := r.num.natAbs) (by omega)
 have l0 : ∀ d, zt9 d = (r.den, true) → Ev (fun n => z17 n (z1n r) (decide (r.num < 0)) d (Lib.decDigits r.num.natAbs) ⟨0, 0⟩) (0, r) := fun d hd => by
  rw [zbz, Ev.zz0 zd5, Ev.zz0 zd5, hd, hdn]
  by_cases hn : r.num < 0
  ·rw [Ev.kz1 (by simpa using hn), wI (by omega), show (0 : Int) - ((r.num.natAbs : Nat) : Int) = r.num by omega]
   exact l1
  ·rw [Ev.yz1 (by simpa using hn), show ((r.num.natAbs : Nat) : Int) = r.num by omega]
   exact l1
 have hpre : (if ([45] : List UInt8).isPrefixOf (z1n r) then (z1n r).drop ([45] : List UInt8).length else z1n r, ([45] : List UInt8).isPrefixOf (z1n r)) = (zp7 r, decide (r.num < 0)) := by
  rw [zlu h]
  by_cases hn : r.num < 0
  ·rw [if_pos hn]
   simp [List.isPrefixOf, hn]
  ·rw [if_neg hn, hb]
   have : (45 == c) = false := by
    have := (zro hc).2
    rw [beq_eq_false_iff_ne]; exact fun e => this e.symm
   simp [List.isPrefixOf, this, hn]
 have hcp : Ev (fun n => zzy n (z1n r) [45]) (zp7 r, decide (r.num < 0)) := by rw [← hpre]; exact zol
 rw [zgc, Ev.zz0 hcp, Ev.zz0 (yte hbl)]
 unfold zp7
 by_cases hd : r.den = 1
 ·rw [if_pos hd, ysh (zej _), Ev.kz1 (by rfl)]
  exact l0 [49] (by rw [hd]; decide)
 ·rw [if_neg hd, yu2 (zej _), Ev.yz1 (by rfl)]
  exact l0 _ (by rw [yi1 (by omega)]; congr 1; omega)
theorem y26 {w : List UInt8} (hl : w.length ≤ 1000000) : ∃ c r, Ev (fun n => z1q n w) (c, r) ∧ ((c = 0 ∧ rok r = true ∧ z1n r = w) ∨ (c = 12 ∧ ∀ r', rok r' = true → z1n r' ≠ w)) := by
 obtain ⟨c, r, h1, h2⟩ := y3x hl
 refine ⟨c, r, h1, ?_⟩
 rcases h2 with rfl | h2
 ·refine .inr ⟨rfl, fun r' hr' hw => ?_⟩
  have := y0r hr'
  rw [hw] at this
  have := congrArg Prod.fst (Ev.det h1 this)
  simp at this
 ·exact .inl h2
end Go.Proofs.YtfhpamcehnfhoaaGreatDoor


namespace Go.Proofs.YtfhpamcehnfhoaaGreatDoor
open Go Go.Ab
set_option linter.unusedVariables false
set_option linter.unusedSimpArgs false
def y0s (s : List UInt8) (f : Nat) (x : Nat) : Int × Bool := ((if f = 1 then -(x : Int) else (x : Int)), decide (f < s.length) && (Lib.itoa (if f = 1 then -(x : Int) else (x : Int)) == s))
theorem y6n {s : List UInt8} {f x : Nat} (hf : f ≤ 1) (hx : x < 10000000000) : Ev (fun n => if decide (((f : Nat) : Int) = 1) then z1e n s (IntKind.i64.wrap (0 - (x : Int))) (f : Int) else z1e n s (x : Int) (f : Int)) (y0s s f x) := by
 have l4 : ∀ v : Int, -10000000000 < v ∧ v < 10000000000 → Ev (fun n => z1e n s v (f : Int)) (v, decide (f < s.length) && (Lib.itoa v == s)) := fun v hv => by
  rw [zwc]
  by_cases h : f < s.length
  ·rw [Ev.kz1 (by simp; omega), Ev.zz0 (zic (by omega)), Ev.zz1]; simp [h]
  ·rw [Ev.yz1 (by simp; omega), Ev.zz1]; simp [h]
 unfold y0s
 by_cases h : f = 1
 ·subst h
  simp only [if_pos rfl]
  rw [show IntKind.i64.wrap (0 - (x : Int)) = -(x : Int) by rw [wI (by omega)]; omega]
  exact l4 _ (by omega)
 ·have : f = 0 := by omega
  subst this
  exact l4 _ (by omega)
theorem yhj {s : List UInt8} {f : Nat} (hf : f ≤ 1) (hs : s.length ≤ 1000000) : ∀ i, i ≤ s.length → f ≤ i → i ≤ f + 10 → ∀ a : Nat, a < 10 ^ (i - f) →
  Ev (fun n => z50 n (i : Int) s (a : Int) (f : Int)) (if (s.drop i).all z7u = true ∧ s.length ≤ f + 10 then y0s s f (val a (s.drop i)) else (0, false)) :=
 down (fun h1 h2 a ha => by
  have hp := zye (k := s.length - f) (by omega)
  rw [zm6, Ev.yz1 (by simp), List.drop_length, y46, if_pos ⟨rfl, by omega⟩]
  have := y6n (s := s) hf (x := a) (by omega)
  by_cases h : f = 1
  ·subst h
   rw [Ev.kz1 (by rfl)]
   exact this
  ·have : f = 0 := by omega
   subst this
   rw [Ev.yz1 (by rfl)]
   exact y6n (s := s) hf (x := a) (by omega)) fun i hi ih h1 h2 a ha => by
  have hp := zye (k := i - f) (by omega)
  have hd : s.drop i = s[i] :: s.drop (i + 1) := (List.getElem_cons_drop (h := hi)).symm
  have bad : (z7u s[i] = false ∨ f + 10 < s.length) → Ev (fun n => z2q n s (f : Int) (i : Int) (a : Int) true) (if (s.drop i).all z7u = true ∧ s.length ≤ f + 10 then y0s s f (val a (s.drop i)) else (0, false)) := fun hb => by
   rw [zlo, Ev.kz1 (by rfl), Ev.zz1, if_neg]
   rintro ⟨q1, q2⟩
   rw [hd] at q1
   simp only [List.all_cons, Bool.and_eq_true] at q1
   rcases hb with hb | hb
   ·rw [q1.1] at hb; cases hb
   ·omega
  rw [zm6, Ev.kz1 (by simpa using hi), Ev.yz2 (yzb hi)]
  by_cases h48 : s[i].toNat < 48
  ·rw [Ev.kz1 (by simp; omega)]
   exact bad (.inl (by cases h : z7u s[i]; rfl; have := z7s.1 h; omega))
  rw [Ev.yz1 (by simp; omega), Ev.yz2 (yzb hi)]
  by_cases h57 : 57 < s[i].toNat
  ·rw [Ev.kz1 (by simp; omega)]
   exact bad (.inl (by cases h : z7u s[i]; rfl; have := z7s.1 h; omega))
  rw [Ev.yz1 (by simp; omega), wI (x := (f : Int) + 9) (by omega)]
  by_cases hten : f + 10 ≤ i
  ·rw [show decide ((i : Int) > (f : Int) + 9) = true by simp; omega]
   exact bad (.inr (by omega))
  ·have hdig : z7u s[i] = true := z7s.2 (by omega)
   rw [show decide ((i : Int) > (f : Int) + 9) = false by simp; omega, zlo, Ev.yz1 (by rfl), Ev.yz2 (yzb hi), w8 (by omega), wI (x := (s[i].toNat : Int) - 48) (by omega), wI (x := 10 * (a : Int)) (by omega), wrk (k := i) (by omega), wI (by omega)]
   have := ih (by omega) (by omega) (10 * a + (s[i].toNat - 48)) (by rw [show i + 1 - f = (i - f) + 1 by omega, Nat.pow_succ]; omega)
   rw [show ((10 * a + (s[i].toNat - 48) : Nat) : Int) = 10 * (a : Int) + ((s[i].toNat : Int) - 48) by omega] at this
   refine this.to ?_
   rw [hd]
   simp only [List.all_cons, hdig, Bool.true_and, zyn]
def zaw (s : List UInt8) : Nat := if s.head? = some 45 then 1 else 0
def zcm (s : List UInt8) : Int × Bool := if (s.drop (zaw s)).all z7u = true ∧ s.length ≤ zaw s + 10 then y0s s (zaw s) (val 0 (s.drop (zaw s))) else (0, false)
theorem zyr {s : List UInt8} (hs : s.length ≤ 1000000) : Ev (fun n => z7w n s) (zcm s) := by
 have hle : zaw s ≤ 1 := by unfold zaw; split <;> decide
 have hls : zaw s ≤ s.length := by
  unfold zaw
  cases s with
  | nil => simp
  | cons c t => split <;> simp
 have l2 := yhj (s := s) hle hs (zaw s) hls (Nat.le_refl _) (by omega) 0 (by rw [Nat.sub_self]; decide)
 have l0 : ∀ b, (b = true ↔ s.head? = some 45) → Ev (fun n => z54 n s 0 0 b) (zcm s) := fun b hb => by
  unfold zcm
  rw [zw5]
  cases b
  ·have : zaw s = 0 := by unfold zaw; rw [if_neg fun h => by have := hb.2 h; cases this]
   rw [this] at l2 ⊢
   rw [Ev.yz1 (by rfl), zl8]
   exact l2
  ·have : zaw s = 1 := by unfold zaw; rw [if_pos (hb.1 rfl)]
   rw [this] at l2 ⊢
   rw [Ev.kz1 (by rfl), zl8]
   exact l2
 rw [y36]
 cases s with
 | nil => rw [Ev.yz1 (by rfl)]; exact l0 false (by simp)
 | cons c t =>
   rw [Ev.kz1 (by simp), Ev.yz2 (show ix (c :: t) 0 = some c by rfl), b45]
   exact l0 _ (by simp)
theorem zl4 {s : List UInt8} (h : (zcm s).2 = true) : Lib.itoa (zcm s).1 = s := by
 unfold zcm at h ⊢
 split at h
 ·rename_i hc
  rw [if_pos hc]
  unfold y0s at h ⊢
  simp only [Bool.and_eq_true, beq_iff_eq] at h
  exact h.2
 ·cases h
theorem zhv {x : Int} (h : -1000000000 ≤ x ∧ x ≤ 1000000000) : zcm (Lib.itoa x) = (x, true) := by
 have hl := Lib.decDigits_length x.natAbs
 have h2 := yoh 9 x.natAbs (by omega)
 have h1 := Lib.nDigits_pos x.natAbs
 have ha := zej x.natAbs
 by_cases hn : x < 0
 ·have e : Lib.itoa x = 45 :: Lib.decDigits x.natAbs := by unfold Lib.itoa; rw [if_pos hn]
  have hs : zaw (45 :: Lib.decDigits x.natAbs) = 1 := by simp [zaw]
  unfold zcm
  rw [e, hs]
  simp only [List.drop_succ_cons, List.drop_zero]
  rw [if_pos ⟨ha, by rw [List.length_cons]; omega⟩, zya]
  unfold y0s
  simp only [if_pos]
  rw [show -((x.natAbs : Nat) : Int) = x by omega, e]
  simp
  exact List.length_pos_iff.2 (zs6 _)
 ·have e : Lib.itoa x = Lib.decDigits x.natAbs := zod (by omega)
  obtain ⟨c, t, hd⟩ : ∃ c t, Lib.decDigits x.natAbs = c :: t := by
   cases hq : Lib.decDigits x.natAbs with
   | nil => exact (zs6 _ hq).elim
   | cons c t => exact ⟨c, t, rfl⟩
  have hs : zaw (Lib.decDigits x.natAbs) = 0 := by
   unfold zaw
   rw [if_neg]
   rw [hd] at ha ⊢
   simp only [List.all_cons, Bool.and_eq_true] at ha
   intro he
   exact (zro ha.1).2 (Option.some.inj he)
  unfold zcm
  rw [e, hs]
  simp only [List.drop_zero]
  rw [if_pos ⟨ha, by omega⟩, zya]
  unfold y0s
  rw [if_neg (by decide), show ((x.natAbs : Nat) : Int) = x by omega, e]
  simp
  exact List.length_pos_iff.2 (zs6 _)
theorem yrt {r q : zz2} : Ev (fun n => z5r n q r) (if rok r then (0, r) else (12, ⟨0, 0⟩)) := by
 rw [zxd, Ev.zz0 zmu]
 cases hr : rok r
 ·rw [Ev.kz1 (by rfl), Ev.zz1]; rfl
 ·rw [Ev.yz1 (by rfl), Ev.zz1]; rfl
def z25 (w : List UInt8) : Int × zz2 :=
 let p := (w.takeWhile (· != 47)).length
 let a := zcm (w.take p)
 let b := zcm (w.drop (p + 1))
 if a.2 = false then (12, ⟨0, 0⟩) else if p < w.length then (if b.2 = false ∨ b.1 = 1 then (12, ⟨0, 0⟩) else if rok ⟨a.1, b.1⟩ then (0, ⟨a.1, b.1⟩) else (12, ⟨0, 0⟩)) else if rok ⟨a.1, 1⟩ then (0, ⟨a.1, 1⟩) else (12, ⟨0, 0⟩)
theorem yrh : ∀ (w : List UInt8) (k : Nat) (h : k < w.length), k < (w.takeWhile (· != 47)).length → w[k] ≠ 47
 | [], k, h, _ => by simp at h
 | c :: w, k, h, hk => by
   rw [List.takeWhile_cons] at hk
   split at hk
   · rename_i hc
     cases k with
     | zero => simpa using hc
     | succ k => exact yrh w k (by simpa using h) (by simpa using hk)
   · simp at hk
theorem yc2 : ∀ (w : List UInt8) (h : (w.takeWhile (· != 47)).length < w.length), w[(w.takeWhile (· != 47)).length] = 47
 | [], h => by simp at h
 | c :: w, h => by
   by_cases hc : c = 47
   · subst hc; rfl
   · have e : (c :: w).takeWhile (· != 47) = c :: w.takeWhile (· != 47) := by rw [List.takeWhile_cons, if_pos (by simpa using hc)]
     simp only [e, List.length_cons, List.getElem_cons_succ]
     exact yc2 w (by rw [e] at h; simpa using h)
theorem yo5 (w : List UInt8) : (w.takeWhile (· != 47)).length ≤ w.length := (List.takeWhile_prefix _).length_le
theorem ydv {w : List UInt8} (hl : w.length ≤ 1000000) : Ev (fun n => zag n w) (z25 w) := by
 have hp := yo5 w
 have l1 : Ev (fun n => z5q n w ((w.takeWhile (· != 47)).length : Int) false ⟨0, 0⟩) (z25 w) := by
  unfold z25
  generalize hq : (w.takeWhile (· != 47)).length = p at hp
  rw [zn5, Ev.yz1 (by rfl), Ev.yz2 (zd8 hp), Ev.zz0 (zyr (by simp; omega))]
  cases ha : (zcm (w.take p)).2
  ·rw [Ev.kz1 (by rfl), Ev.zz1]; simp [ha]
  ·rw [Ev.yz1 (by rfl)]
   simp only [ha, Bool.true_eq_false, if_false]
   by_cases hlt : p < w.length
   ·rw [Ev.kz1 (by simpa using hlt), wrk (by omega), Ev.yz2 (zb8 (by omega) (Nat.le_refl _)), List.take_length, Ev.zz0 (zyr (by simp; omega)), if_pos hlt]
    have l2 : ∀ b, (b = true ↔ ((zcm (w.drop (p + 1))).2 = false ∨ (zcm (w.drop (p + 1))).1 = 1)) → Ev (fun n => z5x n b ⟨0, 0⟩ ⟨(zcm (w.take p)).1, (zcm (w.drop (p + 1))).1⟩) (if (zcm (w.drop (p + 1))).2 = false ∨ (zcm (w.drop (p + 1))).1 = 1 then (12, ⟨0, 0⟩) else if rok ⟨(zcm (w.take p)).1, (zcm (w.drop (p + 1))).1⟩ then (0, ⟨(zcm (w.take p)).1, (zcm (w.drop (p + 1))).1⟩) else (12, ⟨0, 0⟩)) := fun b hb => by
     rw [zyk]
     cases b
     ·rw [Ev.yz1 (by rfl), if_neg fun h => by have := hb.2 h; cases this]; exact yrt
     ·rw [Ev.kz1 (by rfl), Ev.zz1, if_pos (hb.1 rfl)]
    cases hb2 : (zcm (w.drop (p + 1))).2
    ·rw [Ev.kz1 (by rfl)]
     have := l2 true (by simp [hb2])
     rw [hb2] at this
     exact this
    ·rw [Ev.yz1 (by rfl)]
     have := l2 _ (show (((zcm (w.drop (p + 1))).1 == 1) = true ↔ _) by simp [hb2])
     rw [hb2] at this
     exact this
   ·rw [Ev.yz1 (by simpa using hlt), if_neg hlt]
    exact yrt
 have loop : ∀ k, k ≤ (w.takeWhile (· != 47)).length → Ev (fun n => z60 n (k : Int) w ⟨0, 0⟩) (z25 w) :=
  down (by
   rw [zmq]
   by_cases hlt : (w.takeWhile (· != 47)).length < w.length
   ·rw [Ev.kz1 (by simpa using hlt), Ev.yz2 (yzb hlt), yc2 w hlt]
    exact l1
   ·rw [Ev.yz1 (by simpa using hlt)]
    exact l1) fun k hk ih => by
   have hlt : k < w.length := by omega
   have h47 := yrh w k hlt hk
   rw [zmq, Ev.kz1 (by simpa using hlt), Ev.yz2 (yzb hlt)]
   have hb : (((w[k].toNat : Nat) : Int) != 47) = true := by
    have := b47 w[k]
    simp only [bne, this]
    simpa using h47
   rw [hb, zn5, Ev.kz1 (by rfl), wrk (by omega)]
   exact ih
 rw [y4z]
 exact loop 0 (Nat.zero_le _)
theorem zax {w : List UInt8} (h : (z25 w).1 = 0) : rok (z25 w).2 = true ∧ z1n (z25 w).2 = w := by
 have hp := yo5 w
 unfold z25 at h ⊢
 generalize hq : (w.takeWhile (· != 47)).length = p at h hp ⊢
 dsimp only at h ⊢
 split at h
 ·cases h
 rename_i ha
 rw [if_neg ha]
 have sa := zl4 (s := w.take p) (by simpa using ha)
 split at h
 ·rename_i hlt
  rw [if_pos hlt]
  split at h
  ·cases h
  rename_i hb
  rw [if_neg hb]
  have sb := zl4 (s := w.drop (p + 1)) (by cases hc : (zcm (w.drop (p + 1))).2 <;> simp_all)
  split at h
  ·rename_i hr
   rw [if_pos hr]
   refine ⟨hr, ?_⟩
   unfold z1n
   dsimp only
   rw [if_neg fun e => hb (.inr e), sa, sb]
   have h47 : w[p] = 47 := by subst hq; exact yc2 w hlt
   rw [← h47, List.getElem_cons_drop, List.take_append_drop]
  ·cases h
 ·rename_i hlt
  rw [if_neg hlt]
  split at h
  ·rename_i hr
   rw [if_pos hr]
   refine ⟨hr, ?_⟩
   unfold z1n
   dsimp only
   rw [if_pos rfl, sa]
   exact List.take_of_length_le (by omega)
  ·cases h
theorem y6t {x : Int} (h : -1000000000 ≤ x ∧ x ≤ 1000000000) : (Lib.itoa x).all (· != 47) = true := by
 have ha : (Lib.decDigits x.natAbs).all (· != 47) = true := by
  rw [List.all_eq_true]
  intro c hc
  have := (zro (List.all_eq_true.1 (zej x.natAbs) c hc)).1
  simpa using this
 by_cases hn : x < 0
 ·unfold Lib.itoa; rw [if_pos hn, List.all_cons, ha]; rfl
 ·rw [zod (by omega)]; exact ha
theorem y5l {d t : List UInt8} (h : d.all (· != 47) = true) : (d ++ 47 :: t).takeWhile (· != 47) = d := by
 induction d with
 | nil => simp
 | cons c d ih =>
   simp only [List.all_cons, Bool.and_eq_true] at h
   simp only [List.cons_append, List.takeWhile_cons, h.1, if_true]
   rw [ih h.2]
theorem ycz {d : List UInt8} (h : d.all (· != 47) = true) : d.takeWhile (· != 47) = d := by
 induction d with
 | nil => rfl
 | cons c d ih =>
   simp only [List.all_cons, Bool.and_eq_true] at h
   simp only [List.takeWhile_cons, h.1, if_true]
   rw [ih h.2]
theorem zpi {r : zz2} (h : rok r = true) : z25 (z1n r) = (0, r) := by
 obtain ⟨h1, h2, h3⟩ := zyj h
 have ha := y6t (x := r.num) (by omega)
 unfold z25 z1n
 by_cases hd : r.den = 1
 ·rw [if_pos hd, ycz ha]
  dsimp only
  rw [List.take_length, zhv (by omega), if_neg (by simp), if_neg (Nat.lt_irrefl _), show (⟨r.num, 1⟩ : zz2) = r by rw [← hd], if_pos h]
 ·rw [if_neg hd, y5l ha]
  dsimp only
  rw [List.take_left, zhv (by omega), if_neg (by simp), if_pos (by simp), show (Lib.itoa r.num ++ 47 :: Lib.itoa r.den).drop ((Lib.itoa r.num).length + 1) = Lib.itoa r.den by rw [← List.drop_drop, List.drop_left]; rfl, zhv (by omega), if_neg (by simpa using hd), if_pos h]
end Go.Proofs.YtfhpamcehnfhoaaGreatDoor


namespace Go.Proofs.YtfhpamcehnfhoaaGreatDoor
open Go Go.Ab
set_option linter.unusedVariables false
set_option linter.unusedSimpArgs false
def scan : List UInt8 → Option (List UInt8 × Nat)
 | [] => none
 | [c] => if c = 34 then some ([], 1) else none
 | c :: d :: t => if c = 34 then some ([], 1) else if c = 92 then (if d = 34 ∨ d = 92 then (scan t).map (fun p => (d :: p.1, p.2 + 2)) else none) else (scan (d :: t)).map fun p => (c :: p.1, p.2 + 1)
def rs : List UInt8 → Nat
 | [] => 0
 | [c] => if c = 34 then 0 else if c = 92 then 2 else 1
 | c :: d :: t => if c = 34 then 0 else if c = 92 then 2 + rs t else 1 + rs (d :: t)
theorem yry : scan [] = none := by rw [scan]
theorem yuz : rs [] = 0 := by rw [rs]
theorem ztx (t : List UInt8) : scan (34 :: t) = some ([], 1) := by cases t <;> rw [scan] <;> simp
theorem ztk (d : UInt8) (t : List UInt8) : scan (92 :: d :: t) = if d = 34 ∨ d = 92 then (scan t).map (fun p => (d :: p.1, p.2 + 2)) else none := by rw [scan]; simp
theorem y4m : scan [92] = none := by rw [scan]; simp
theorem zyz {c : UInt8} (t : List UInt8) (h1 : c ≠ 34) (h2 : c ≠ 92) : scan (c :: t) = (scan t).map fun p => (c :: p.1, p.2 + 1) := by
 cases t with
 | nil => rw [yry, scan, if_neg h1]; rfl
 | cons d t => rw [scan, if_neg h1, if_neg h2]
theorem ynn (t : List UInt8) : rs (34 :: t) = 0 := by cases t <;> rw [rs] <;> simp
theorem yoi (d : UInt8) (t : List UInt8) : rs (92 :: d :: t) = 2 + rs t := by rw [rs]; simp
theorem yn5 : rs [92] = 2 := by rw [rs]; simp
theorem rs_c {c : UInt8} (t : List UInt8) (h1 : c ≠ 34) (h2 : c ≠ 92) : rs (c :: t) = 1 + rs t := by
 cases t with
 | nil => rw [yuz, rs, if_neg h1, if_neg h2]
 | cons d t => rw [rs, if_neg h1, if_neg h2]
theorem sind {P : List UInt8 → Prop} (h0 : P []) (h1 : ∀ t, P (34 :: t)) (h2 : P [92]) (h3 : ∀ d t, P t → P (92 :: d :: t)) (h4 : ∀ c t, c ≠ 34 → c ≠ 92 → P t → P (c :: t)) : ∀ u, P u
 | [] => h0
 | [c] => by
   by_cases a : c = 34
   · rw [a]; exact h1 _
   · by_cases b : c = 92
     · rw [b]; exact h2
     · exact h4 c [] a b h0
 | c :: d :: t => by
   by_cases a : c = 34
   · rw [a]; exact h1 _
   · by_cases b : c = 92
     · rw [b]; exact h3 d t (sind h0 h1 h2 h3 h4 t)
     · exact h4 c (d :: t) a b (sind h0 h1 h2 h3 h4 (d :: t))
theorem zoq : ∀ u x m, scan u = some (x, m) → m = rs u + 1 ∧ m ≤ u.length ∧ x.length + 1 ≤ m := by
 refine sind ?_ ?_ ?_ ?_ ?_
 ·intro x m h; rw [scan] at h; cases h
 ·intro t x m h
  rw [ztx] at h
  injection h with h
  injection h with h1 h2
  subst h1 h2
  rw [ynn]; simp
 ·intro x m h; rw [y4m] at h; cases h
 ·intro d t ih x m h
  rw [ztk] at h
  split at h
  ·cases hs : scan t with
   | none => rw [hs] at h; cases h
   | some p =>
     obtain ⟨y, k⟩ := p
     rw [hs] at h
     injection h with h
     injection h with h1 h2
     subst h1 h2
     obtain ⟨a, b, c⟩ := ih y k hs
     rw [yoi]
     simp only [List.length_cons]
     omega
  ·cases h
 ·intro c t h34 h92 ih x m h
  rw [zyz t h34 h92] at h
  cases hs : scan t with
  | none => rw [hs] at h; cases h
  | some p =>
    obtain ⟨y, k⟩ := p
    rw [hs] at h
    injection h with h
    injection h with h1 h2
    subst h1 h2
    obtain ⟨a, b, e⟩ := ih y k hs
    rw [rs_c t h34 h92]
    simp only [List.length_cons]
    omega
theorem yc5 : ∀ u, scan (u.take (rs u + 1)) = scan u := by
 refine sind ?_ ?_ ?_ ?_ ?_
 ·rfl
 ·intro t; rw [ynn, List.take_succ_cons, ztx, ztx]
 ·rw [yn5]; rfl
 ·intro d t ih
  rw [yoi, show 2 + rs t + 1 = (rs t + 1) + 1 + 1 by omega, List.take_succ_cons, List.take_succ_cons, ztk, ztk, ih]
 ·intro c t h34 h92 ih
  rw [rs_c t h34 h92, show 1 + rs t + 1 = (rs t + 1) + 1 by omega, List.take_succ_cons, zyz _ h34 h92, zyz _ h34 h92, ih]
theorem yue {s : List UInt8} (hs : s.length ≤ 100000) : ∀ N k : Nat, k ≤ s.length → s.length - k ≤ N → ∀ acc : List UInt8, acc.length + (s.length - k) ≤ 100000 →
  (∀ x m, scan (s.drop k) = some (x, m) → Ev (fun n => yz9 n ⟨s, (k : Int), true⟩ (yza acc)) (acc ++ x, ⟨s, ((k + m : Nat) : Int), true⟩)) ∧
  (scan (s.drop k) = none → ∃ a : Int, Ev (fun n => yz9 n ⟨s, (k : Int), true⟩ (yza acc)) ([], ⟨s, a, false⟩)) := by
 intro N
 induction N with
 | zero =>
   intro k hk hN acc hl
   have : k = s.length := by omega
   subst this
   rw [List.drop_length]
   refine ⟨fun x m h => (by rw [scan] at h; cases h), fun _ => ⟨(s.length : Int), ?_⟩⟩
   rw [kzu, Ev.yz1 (by simp), z3z, Ev.zz1]
 | succ N ih =>
   intro k hk hN acc hl
   by_cases hlt : k < s.length
   · have l2 : ∀ (c : UInt8) (j : Nat), (∀ r, Ev (fun n => yz9 n ⟨s, (j : Int), true⟩ (yza (acc ++ [c]))) r → Ev (fun n => yzm n (c.toNat : Int) ⟨s, (j : Int), true⟩ (yza acc)) r) := fun c j r h => by
       rw [zdt, Ev.zz0 (wb rfl (by omega))]
       exact h
     rw [drop_cons hlt]
     by_cases h34 : s[k] = 34
     · rw [h34, ztx]
       refine ⟨fun x m h => ?_, fun h => by cases h⟩
       injection h with h
       injection h with h1 h2
       subst h1 h2
       rw [kzu, Ev.kz1 (by simpa using hlt), Ev.yz2 (yzb hlt), b34, Ev.kz1 (by simpa using h34), Ev.zz0 yp1, Ev.zz1, wrk (by omega), List.append_nil]
     by_cases h92 : s[k] = 92
     · rw [h92]
       by_cases hk1 : k + 1 < s.length
       · rw [drop_cons hk1, ztk]
         by_cases hd : s[k + 1] = 34 ∨ s[k + 1] = 92
         · rw [if_pos hd]
           have go : ∀ r, Ev (fun n => yz9 n ⟨s, ((k + 2 : Nat) : Int), true⟩ (yza (acc ++ [s[k + 1]]))) r → Ev (fun n => yz9 n ⟨s, (k : Int), true⟩ (yza acc)) r := fun r h => by
             have l1 : Ev (fun n => yzi n false ⟨s, ((k + 1 : Nat) : Int), true⟩ (yza acc)) r := by
               rw [z67, Ev.yz1 (by rfl), Ev.yz2 (yzb hk1), wrk (by omega)]
               exact l2 _ _ _ h
             rw [kzu, Ev.kz1 (by simpa using hlt), Ev.yz2 (yzb hlt), b34, b92, Ev.yz1 (by simpa using h34), Ev.kz1 (by simpa using h92), wrk (by omega), Ev.yz1 (by simp; omega), Ev.yz2 (yzb hk1)]
             simp only [bne, b34, b92]
             by_cases hd34 : s[k + 1] = 34
             · rw [Ev.yz1 (by simpa using hd34)]; exact l1
             · rw [Ev.kz1 (by simpa using hd34), Ev.yz2 (yzb hk1), show (!(s[k + 1] == 92)) = false by simpa using hd.resolve_left hd34]; exact l1
           obtain ⟨i1, i2⟩ := ih (k + 2) (by omega) (by omega) (acc ++ [s[k + 1]]) (by simp; omega)
           refine ⟨fun x m h => ?_, fun h => ?_⟩
           · cases hsc : scan (s.drop (k + 2)) with
             | none => rw [show k + 1 + 1 = k + 2 by omega, hsc] at h; cases h
             | some p =>
               obtain ⟨y, j⟩ := p
               rw [show k + 1 + 1 = k + 2 by omega, hsc] at h
               injection h with h
               injection h with e1 e2
               subst e1 e2
               refine (go _ (i1 y j hsc)).to ?_
               rw [List.append_assoc, show k + 2 + j = k + (j + 2) by omega]; rfl
           · cases hsc : scan (s.drop (k + 2)) with
             | none => obtain ⟨a, ha⟩ := i2 hsc; exact ⟨a, go _ ha⟩
             | some p => rw [show k + 1 + 1 = k + 2 by omega, hsc] at h; cases h
         · rw [if_neg hd]
           refine ⟨fun x m h => (by cases h), fun _ => ⟨((k + 1 : Nat) : Int), ?_⟩⟩
           rw [kzu, Ev.kz1 (by simpa using hlt), Ev.yz2 (yzb hlt), b34, b92, Ev.yz1 (by simpa using h34), Ev.kz1 (by simpa using h92), wrk (by omega), Ev.yz1 (by simp; omega), Ev.yz2 (yzb hk1)]
           simp only [bne, b34, b92]
           rw [Ev.kz1 (by simpa using fun e => hd (.inl e)), Ev.yz2 (yzb hk1), show (!(s[k + 1] == 92)) = true by simpa using fun e => hd (.inr e), z67, Ev.kz1 (by rfl), z3z, Ev.zz1]
       · have hke : k + 1 = s.length := by omega
         rw [List.drop_of_length_le (by omega), y4m]
         refine ⟨fun x m h => (by cases h), fun _ => ⟨((k + 1 : Nat) : Int), ?_⟩⟩
         rw [kzu, Ev.kz1 (by simpa using hlt), Ev.yz2 (yzb hlt), b34, b92, Ev.yz1 (by simpa using h34), Ev.kz1 (by simpa using h92), wrk (by omega), Ev.kz1 (by simp; omega), z67, Ev.kz1 (by rfl), z3z, Ev.zz1]
     rw [zyz _ h34 h92]
     have go : ∀ r, Ev (fun n => yz9 n ⟨s, ((k + 1 : Nat) : Int), true⟩ (yza (acc ++ [s[k]]))) r → Ev (fun n => yz9 n ⟨s, (k : Int), true⟩ (yza acc)) r := fun r h => by
       rw [kzu, Ev.kz1 (by simpa using hlt), Ev.yz2 (yzb hlt), b34, b92, Ev.yz1 (by simpa using h34), Ev.yz1 (by simpa using h92), wrk (by omega)]
       exact l2 _ _ _ h
     obtain ⟨i1, i2⟩ := ih (k + 1) (by omega) (by omega) (acc ++ [s[k]]) (by simp; omega)
     refine ⟨fun x m h => ?_, fun h => ?_⟩
     · cases hsc : scan (s.drop (k + 1)) with
       | none => rw [hsc] at h; cases h
       | some p =>
         obtain ⟨y, j⟩ := p
         rw [hsc] at h
         injection h with h
         injection h with e1 e2
         subst e1 e2
         refine (go _ (i1 y j hsc)).to ?_
         rw [List.append_assoc, show k + 1 + j = k + (j + 1) by omega]; rfl
     · cases hsc : scan (s.drop (k + 1)) with
       | none => obtain ⟨a, ha⟩ := i2 hsc; exact ⟨a, go _ ha⟩
       | some p => rw [hsc] at h; cases h
   · have : k = s.length := by omega
     subst this
     rw [List.drop_length]
     refine ⟨fun x m h => (by rw [scan] at h; cases h), fun _ => ⟨(s.length : Int), ?_⟩⟩
     rw [kzu, Ev.yz1 (by simp), z3z, Ev.zz1]
theorem zy2 {s : List UInt8} {k : Nat} (hs : s.length ≤ 100000) (hk : k ≤ s.length) :
  (∀ x m, scan (s.drop k) = some (x, m) → Ev (fun n => zzl n ⟨s, (k : Int), true⟩) (x, ⟨s, ((k + m : Nat) : Int), true⟩)) ∧
  (scan (s.drop k) = none → ∃ a : Int, Ev (fun n => zzl n ⟨s, (k : Int), true⟩) ([], ⟨s, a, false⟩)) := by
 obtain ⟨h1, h2⟩ := yue hs s.length k hk (by omega) [] (by simp; omega)
 refine ⟨fun x m h => ?_, fun h => ?_⟩
 ·rw [zbb]; exact h1 x m h
 ·obtain ⟨a, ha⟩ := h2 h
  exact ⟨a, by rw [zbb]; exact ha⟩
end Go.Proofs.YtfhpamcehnfhoaaGreatDoor


namespace Go.Proofs.YtfhpamcehnfhoaaGreatDoor
open Go Go.Ab
set_option linter.unusedVariables false
set_option linter.unusedSimpArgs false
theorem zvw : ∀ v : yz0, z8k v = true → v.size ≤ 68 * zb4 v := zw4 fun v ih h => by
 have hl : ∀ l : List yz0, (∀ x ∈ l, x ∈ v.list) → (l.map yz0.size).sum ≤ 68 * z5e l := fun l => by
  induction l with
  | nil => intro _; simp
  | cons x l ihl =>
    intro hm
    have h1 := ih x (hm x List.mem_cons_self) (zpg h x (hm x List.mem_cons_self))
    have h2 := ihl fun y hy => hm y (List.mem_cons_of_mem _ hy)
    simp [z5e]; omega
 have hl := hl v.list fun _ h => h
 rw [yz0.size_eq, zz2.size_eq, zdb]
 rw [z7i] at h
 split at h
 ·rename_i hk
  simp only [Bool.and_eq_true, List.isEmpty_iff] at h
  rw [if_neg (by omega), h.2.2.1, h.2.2.2]; simp
 split at h
 ·simp only [Bool.and_eq_true, List.isEmpty_iff] at h
  rw [if_neg (by omega), h.2.1, h.2.2]; simp
 split at h
 ·simp only [Bool.and_eq_true, List.isEmpty_iff, decide_eq_true_eq] at h
  rw [if_neg (by omega), h.2.2.1]
  have := h.2.2.2.1
  simp; omega
 split at h
 ·rename_i hk
  simp only [Bool.and_eq_true, List.isEmpty_iff] at h
  rw [if_pos hk, h.2.2.1]
  simp; omega
 ·cases h
theorem zlc {r : zz2} (h : nul r = true) : r.wf := by
 simp only [nul, Bool.and_eq_true, beq_iff_eq] at h
 rw [zz2.z99, h.1, h.2]; decide
theorem ymn {r : zz2} (h : rok r = true) : r.wf := by
 rw [z68] at h
 rw [zz2.z99, show IntKind.i64.min = -9223372036854775808 from by decide, show IntKind.i64.max = 9223372036854775807 from by decide]
 omega
theorem y69 : ∀ v : yz0, z8k v = true → v.wf := zw4 fun v ih h => by
 have hl : ∀ x ∈ v.list, x.wf := fun x hx => ih x hx (zpg h x hx)
 have hk := zcl h
 have hn : v.num.wf := by
  rw [z7i] at h
  split at h
  ·simp only [Bool.and_eq_true] at h; exact ymn h.1
  split at h
  ·simp only [Bool.and_eq_true] at h; exact zlc h.1
  split at h
  ·simp only [Bool.and_eq_true] at h; exact zlc h.1
  split at h
  ·simp only [Bool.and_eq_true] at h; exact zlc h.1
  ·cases h
 rw [yz0.z99]
 refine ⟨?_, hn, trivial, trivial, hl⟩
 simp only [IntKind.min, IntKind.max, IntKind.signed, IntKind.bits]
 rcases hk with h | h | h | h <;> rw [h] <;> decide
theorem vok {v : yz0} (h : z1l v = 0) : v.wf ∧ v.size ≤ 6800 := by
 obtain ⟨h1, h2, _⟩ := z9n h
 have := zvw v h1
 exact ⟨y69 v h1, by omega⟩
theorem yg6 {a b : Nat} : mnI (a : Int) (b : Int) = ((min a b : Nat) : Int) := by unfold mnI; split <;> omega
def zi3 (r : zz2) : yz0 := ⟨1, r, false, [], []⟩
def zfy (b : Bool) : yz0 := ⟨2, ⟨0, 0⟩, b, [], []⟩
theorem zl6 {b : Bool} : Ev (fun n => z6v n b) (zfy b) := by rw [znv, Ev.zz1]; rfl
def y61 : List UInt8 := [48, 49, 50, 51, 52, 53, 54, 55, 56, 57, 47, 45]
def isNum (c : UInt8) : Bool := y61.any (· == c)
theorem zmw (c d : UInt8) : (c == d) = decide (c.toNat = d.toNat) := by
 rw [Bool.eq_iff_iff, beq_iff_eq, decide_eq_true_eq, UInt8.toNat_inj]
theorem zo5 {c : UInt8} : isNum c = true ↔ (48 ≤ c.toNat ∧ c.toNat ≤ 57) ∨ c.toNat = 47 ∨ c.toNat = 45 := by
 unfold isNum y61
 simp only [List.any_cons, List.any_nil, zmw, Bool.or_eq_true, decide_eq_true_eq, Bool.false_eq_true, or_false, show (48 : UInt8).toNat = 48 by rfl, show (49 : UInt8).toNat = 49 by rfl, show (50 : UInt8).toNat = 50 by rfl, show (51 : UInt8).toNat = 51 by rfl, show (52 : UInt8).toNat = 52 by rfl, show (53 : UInt8).toNat = 53 by rfl, show (54 : UInt8).toNat = 54 by rfl, show (55 : UInt8).toNat = 55 by rfl, show (56 : UInt8).toNat = 56 by rfl, show (57 : UInt8).toNat = 57 by rfl, show (47 : UInt8).toNat = 47 by rfl, show (45 : UInt8).toNat = 45 by rfl]
 omega
theorem zoz (c : UInt8) : ∃ k : Int, Ev (fun n => kzy n [48, 49, 50, 51, 52, 53, 54, 55, 56, 57, 47, 45] (c.toNat : Int)) k ∧ decide (k ≥ 0) = isNum c := by
 have hi : Ev (fun n => yzo n y61 (c.toNat : Int)) (Lib.indexByte y61 c) := ⟨0, fun _ _ => by
  show some _ = some _
  rw [show ((c.toNat : Int)).toNat.toUInt8 = c by simp]⟩
 refine ⟨_, by rw [zd3]; exact (Ev.zz0 hi).2 (Ev.zz1.2 rfl), ?_⟩
 rw [zy6]
 unfold isNum
 cases y61.any (· == c)
 ·rfl
 ·simp
def zed (x : List UInt8) : yz0 := ⟨3, ⟨0, 0⟩, false, x, []⟩
theorem yjh {t s : List UInt8} {k : Nat} {b : Bool} (hs : s.length ≤ 100000) (hk : k ≤ s.length) : Ev (fun n => kz9 n t ⟨s, (k : Int), b⟩) (if t.isPrefixOf (s.drop k) then (true, ⟨s, ((k + t.length : Nat) : Int), b⟩) else (false, ⟨s, (k : Int), b⟩)) := by
 rw [zcb, Ev.yz2 (zb8 hk (Nat.le_refl _)), List.take_length, Ev.zz0 zph]
 cases hp : t.isPrefixOf (s.drop k)
 ·rw [Ev.kz1 (by rfl), Ev.zz1]; rfl
 ·have := zxh hp
  rw [List.length_drop] at this
  rw [Ev.yz1 (by rfl), Ev.zz1, if_pos rfl]
  dsimp only
  rw [wI (by omega), Int.natCast_add]
theorem zbf {t s : List UInt8} {k : Nat} {b : Bool} (hs : s.length ≤ 100000) (hk : k ≤ s.length) (h : t.isPrefixOf (s.drop k) = false) : Ev (fun n => kz9 n t ⟨s, (k : Int), b⟩) (false, ⟨s, (k : Int), b⟩) := (yjh hs hk).to (by rw [h]; rfl)
theorem yey {t s : List UInt8} {k : Nat} {b : Bool} (hs : s.length ≤ 100000) (hk : k ≤ s.length) (h : t.isPrefixOf (s.drop k) = true) : Ev (fun n => kz9 n t ⟨s, (k : Int), b⟩) (true, ⟨s, ((k + t.length : Nat) : Int), b⟩) := (yjh hs hk).to (by rw [h]; rfl)
theorem y4c (x : List UInt8) : (zed x).wf := by
 rw [yz0.z99]
 refine ⟨⟨by show IntKind.u8.min ≤ 3; decide, by show 3 ≤ IntKind.u8.max; decide⟩, ?_, trivial, trivial, fun y hy => by cases hy⟩
 exact zlc (r := ⟨0, 0⟩) rfl
theorem ztw (x : List UInt8) : (zed x).size ≤ x.length + 20 := by
 rw [yz0.size_eq]
 show 1 + zz2.size ⟨0, 0⟩ + 1 + (x.length + 1) + ((List.map yz0.size []).sum + 1) + 1 ≤ _
 rw [zz2.size_eq]
 simp only [List.map_nil, List.sum_nil]
 omega
theorem ypf (r : zz2) : (zi3 r).size ≤ 20 := by
 rw [yz0.size_eq]
 show 1 + zz2.size r + 1 + (0 + 1) + ((List.map yz0.size []).sum + 1) + 1 ≤ _
 rw [zz2.size_eq]
 simp only [List.map_nil, List.sum_nil]
 omega
theorem zq7 {r : zz2} (h : rok r = true) : z1l (zi3 r) = 0 := by
 have hf : z8k (zi3 r) = true := by
  rw [z7i]
  simp [zi3, h]
 unfold z1l
 rw [if_neg, if_pos hf]
 rw [zdb, zor]
 simp [zi3]
theorem zjn {u : List UInt8} (hu : u.length + 1 ≤ 4000) : Ev (fun n => z10 n (34 :: u)) (match scan u with
  | some (x, m) => if m = u.length ∧ z1l (zed x) = 0 then (0, zed x) else (12, v0)
  | none => (12, v0)) := by
 have hl : (34 :: u).length ≤ 100000 := by simp; omega
 have hq := zy2 (s := 34 :: u) (k := 1) hl (by simp)
 rw [List.drop_succ_cons, List.drop_zero] at hq
 have l0 : ∀ v : yz0, Ev (fun n => z0n n true ⟨0, ⟨0, 0⟩, false, [], []⟩ v) (12, v0) := fun v => by
  rw [z2e, Ev.kz1 (by rfl), Ev.zz1]; rfl
 have hv : ∀ x q, Ev (fun n => zzl n ⟨34 :: u, ((1 : Nat) : Int), true⟩) (x, q) → Ev (fun n => zzk n 6 ⟨34 :: u, ((0 : Nat) : Int), true⟩) (q, zed x) := fun x q h => by
  rw [z6d, Ev.yz1 (by rfl), Ev.zz0 (zbf hl (Nat.zero_le _) (by rfl)), Ev.yz1 (by rfl), Ev.zz0 (zbf hl (Nat.zero_le _) (by rfl)), Ev.yz1 (by rfl), Ev.zz0 (yey hl (Nat.zero_le _) (by simp [List.isPrefixOf])), Ev.kz1 (by rfl)]
  refine (Ev.zz0 h).2 ?_
  rw [Ev.zz1]; rfl
 rw [zcg, Ev.yz1 (by simp; omega)]
 cases hs : scan u with
 | none =>
   obtain ⟨a, ha⟩ := hq.2 hs
   refine (Ev.zz0 (hv _ _ ha)).2 ?_
   rw [Ev.kz1 (by rfl)]
   exact l0 _
 | some p =>
   obtain ⟨x, m⟩ := p
   have hx := hq.1 x m hs
   obtain ⟨e1, e2, e3⟩ := zoq u x m hs
   refine (Ev.zz0 (hv _ _ hx)).2 ?_
   dsimp only
   rw [Ev.yz1 (by rfl)]
   by_cases hm : m = u.length
   · have hc := zce (y4c x) (by have := ztw x; omega)
     rw [Ev.yz1 (by simp; omega), yz0.kz2, Ev.zz0 hc]
     by_cases hk : z1l (zed x) = 0
     · rw [if_pos ⟨hm, hk⟩, hk, z2e, Ev.yz1 (by rfl), Ev.zz1, yz0.kz2]
     · rw [if_neg fun h => hk h.2, show (z1l (zed x) != 0) = true by simpa using hk]
       exact l0 _
   · rw [if_neg fun h => hm h.1, Ev.kz1 (by simp; omega)]
     exact l0 _
theorem ylp {c : UInt8} {p w : List UInt8} (h : isNum c = false) (hn : w.all isNum = true) : (c :: p).isPrefixOf w = false := by
 cases w with
 | nil => rfl
 | cons d t =>
   simp only [List.all_cons, Bool.and_eq_true] at hn
   simp only [List.isPrefixOf, Bool.and_eq_false_iff, beq_eq_false_iff_ne]
   exact .inl fun e => by rw [e, hn.1] at h; cases h
theorem zi7 {w : List UInt8} (hl : w.length ≤ 100000) : ∃ c r, Ev (fun n => z1q n w) (c, r) ∧ (c == 0) = decide ((z25 w).1 = 0) ∧ ((z25 w).1 = 0 → rok r = true ∧ r = (z25 w).2) := by
 obtain ⟨c, r, h1, h2⟩ := y26 (w := w) (by omega)
 refine ⟨c, r, h1, ?_⟩
 rcases h2 with ⟨a, b, d⟩ | ⟨a, b⟩
 ·have := zpi b
  rw [d] at this
  rw [this, a]
  exact ⟨rfl, fun _ => ⟨b, rfl⟩⟩
 ·have hn : (z25 w).1 ≠ 0 := fun h => b _ (zax h).1 (zax h).2
  rw [a, decide_eq_false hn]
  exact ⟨rfl, fun h => (hn h).elim⟩
theorem zjc {w : List UInt8} (hl : w.length ≤ 4000) (hn : w.all isNum = true) : Ev (fun n => z10 n w) (if (z25 w).1 = 0 then (0, zi3 (z25 w).2) else (12, v0)) := by
 have hs : w.length ≤ 100000 := by omega
 have nop : ∀ (c : UInt8) (p : List UInt8), isNum c = false → (c :: p).isPrefixOf (w.drop 0) = false := fun c p h => ylp h hn
 obtain ⟨c, r, h1, h2, h3⟩ := zi7 hs
 have loop : ∀ k, k ≤ w.length → Ev (fun n => yzk n (k : Int) ⟨w, ((0 : Nat) : Int), true⟩ 0 0 0 false [] []) (⟨w, (w.length : Int), c == 0⟩, zi3 r) :=
  down (by
   rw [z4g, Ev.yz1 (by simp), z4j, Ev.yz1 (by rfl)]
   dsimp only
   rw [Ev.yz2 (zb8 (Nat.zero_le _) (Nat.le_refl _)), List.take_length, List.drop_zero, Ev.zz0 h1, Ev.kz1 (by rfl), z9x, Ev.zz1]
   rfl) fun k hk ih => by
   obtain ⟨j, hj, hjn⟩ := zoz w[k]
   rw [z4g, Ev.kz1 (by simpa using hk), Ev.yz2 (yzb hk), Ev.zz0 hj, hjn, List.all_eq_true.1 hn _ (List.getElem_mem hk), z4j, Ev.kz1 (by rfl), wrk (by omega)]
   exact ih
 have hv : Ev (fun n => zzk n 6 ⟨w, ((0 : Nat) : Int), true⟩) (⟨w, (w.length : Int), c == 0⟩, zi3 r) := by
  rw [z6d, Ev.yz1 (by rfl), Ev.zz0 (zbf hs (Nat.zero_le _) (nop _ _ (by decide))), Ev.yz1 (by rfl), Ev.zz0 (zbf hs (Nat.zero_le _) (nop _ _ (by decide))), Ev.yz1 (by rfl), Ev.zz0 (zbf hs (Nat.zero_le _) (nop _ _ (by decide))), Ev.yz1 (by rfl), Ev.zz0 (zbf hs (Nat.zero_le _) (nop _ _ (by decide))), Ev.yz1 (by rfl), Ev.zz0 (zbf hs (Nat.zero_le _) (nop _ _ (by decide))), Ev.yz1 (by rfl), za1]
  exact loop 0 (Nat.zero_le _)
 rw [zcg, Ev.yz1 (by simp; omega)]
 refine (Ev.zz0 hv).2 ?_
 dsimp only
 by_cases hz : (z25 w).1 = 0
 ·obtain ⟨q1, q2⟩ := h3 hz
  rw [decide_eq_true hz] at h2
  have hc := zq7 q1
  have hk := zce (vok hc).1 (by have := (vok hc).2; omega)
  rw [hc] at hk
  rw [h2, Ev.yz1 (by rfl), Ev.yz1 (by simp), yz0.kz2, Ev.zz0 hk, z2e, Ev.yz1 (by rfl), Ev.zz1, if_pos hz, yz0.kz2, q2]
 ·rw [decide_eq_false hz] at h2
  rw [h2, Ev.kz1 (by rfl), z2e, Ev.kz1 (by rfl), Ev.zz1, if_neg hz]; rfl
def lit (u : List UInt8) : Option (yz0 × List UInt8) :=
 if u.head? = some 34 then
  match scan u.tail with
  | some (x, m) => if z1l (zed x) = 0 then some (zed x, u.drop (m + 1)) else none
  | none => none
 else if (z25 (u.takeWhile isNum)).1 = 0 then some (zi3 (z25 (u.takeWhile isNum)).2, u.drop (u.takeWhile isNum).length) else none
def ymd : Option (yz0 × List UInt8) → Res (Int × Unit) (yz3 × kz0)
 | some (v, t) => .ok (⟨t⟩, ⟨1, v, [], []⟩)
 | none => .pan (12, ())
theorem yer : Ev (fun n => kzq n 0) (.ok ()) := by rw [zg1, Ev.yz1 (by rfl), Ev.zz1]
theorem zfm {e : Int} (h : e ≠ 0) : Ev (fun n => kzq n e) (.pan (e, ())) := by rw [zg1, Ev.kz1 (by simpa using h), Ev.zz1]
theorem zl2 {u : List UInt8} {k : Nat} (hk : k ≤ u.length) (hu : u.length ≤ 4000) {c : Int} {v : yz0} {e : kz0} (h : Ev (fun n => z10 n (u.take k)) (c, v)) (hc : c = 0 ∨ c = 12) : Ev (fun n => yz7 n (k : Int) ⟨u⟩ e) (ymd (if c = 0 then some (v, u.drop k) else none)) := by
 rw [z9d]
 dsimp only
 rw [Ev.yz2 (zd8 hk), Ev.zz0 h]
 rcases hc with hc | hc
 ·subst hc
  rw [Ev.zz0 yer]
  show Ev _ _
  refine Ev.z7h.2 ?_
  rw [Ev.yz2 (zb8 hk (Nat.le_refl _)), List.take_length, Ev.zz1, yz0.kz2]
  rfl
 ·subst hc
  rw [Ev.zz0 (zfm (e := 12) (by decide))]
  refine Ev.z7t.2 ?_
  rw [Ev.zz1]; rfl
theorem ymw {u : List UInt8} (hu : u.length ≤ 4000) {e : kz0} {r} : ∀ N k : Nat, k ≤ u.length → u.length - k ≤ N → Ev (fun n => yz7 n ((min (k + rs (u.drop k) + 1) u.length : Nat) : Int) ⟨u⟩ e) r → Ev (fun n => zzi n (k : Int) ⟨u⟩ e) r := by
 have fin : ∀ k : Nat, k ≤ u.length + 1 → Ev (fun n => yz7 n ((min (k + 1) u.length : Nat) : Int) ⟨u⟩ e) r → Ev (fun n => zzj n (k : Int) false ⟨u⟩ e) r := fun k hk h => by
  rw [z3w, Ev.yz1 (by rfl), wrk (by omega), yg6, kz0.kz2]
  exact h
 intro N
 induction N with
 | zero =>
   intro k hk hN h
   have : k = u.length := by omega
   subst this
   rw [List.drop_length, rs] at h
   rw [zzm, Ev.yz1 (by simp), kz0.kz2]
   exact fin _ (by omega) h
 | succ N ih =>
   intro k hk hN h
   by_cases hlt : k < u.length
   · rw [zzm, Ev.kz1 (by simpa using hlt), Ev.yz2 (yzb hlt)]
     simp only [bne, b34]
     rw [drop_cons hlt] at h
     by_cases h34 : u[k] = 34
     · rw [h34, ynn] at h
       rw [show (!(u[k] == 34)) = false by simpa using h34, kz0.kz2]
       exact fin _ (by omega) h
     · rw [show (!(u[k] == 34)) = true by simpa using h34, z3w, Ev.kz1 (by rfl), Ev.yz2 (yzb hlt), b92]
       by_cases h92 : u[k] = 92
       · rw [h92] at h
         rw [Ev.kz1 (by simpa using h92), wrk (by omega), z3y, wrk (by omega)]
         simp only [kz0.kz2]
         by_cases hk1 : k + 1 < u.length
         · rw [drop_cons hk1, yoi] at h
           refine ih (k + 2) (by omega) (by omega) ?_
           rw [show k + 2 + rs (u.drop (k + 2)) + 1 = k + (2 + rs (u.drop (k + 1 + 1))) + 1 by show k + 2 + rs (u.drop (k + 2)) + 1 = k + (2 + rs (u.drop (k + 2))) + 1; omega]
           exact h
         · rw [List.drop_of_length_le (by omega), yn5] at h
           rw [zzm, Ev.yz1 (by simp; omega), kz0.kz2]
           refine fin _ (by omega) ?_
           rw [show min (k + 1 + 1 + 1) u.length = min (k + 2 + 1) u.length by omega]
           exact h
       · rw [rs_c _ h34 h92] at h
         rw [Ev.yz1 (by simpa using h92), z3y, wrk (by omega)]
         simp only [kz0.kz2]
         refine ih (k + 1) (by omega) (by omega) ?_
         rw [show k + 1 + rs (u.drop (k + 1)) + 1 = k + (1 + rs (u.drop (k + 1))) + 1 by omega]
         exact h
   · have : k = u.length := by omega
     subst this
     rw [List.drop_length, rs] at h
     rw [zzm, Ev.yz1 (by simp), kz0.kz2]
     exact fin _ (by omega) h
theorem zn0 {p : UInt8 → Bool} {u : List UInt8} {k : Nat} (hk : k < u.length) (h : p u[k] = true) : ((u.drop k).takeWhile p).length = ((u.drop (k + 1)).takeWhile p).length + 1 := by
 rw [drop_cons hk, List.takeWhile_cons, if_pos h, List.length_cons]
theorem zms {p : UInt8 → Bool} {u : List UInt8} {k : Nat} (hk : k < u.length) (h : p u[k] = false) : ((u.drop k).takeWhile p).length = 0 := by
 rw [drop_cons hk, List.takeWhile_cons, if_neg (by simp [h]), List.length_nil]
theorem ylf {u : List UInt8} (hu : u.length ≤ 4000) {e : kz0} {r} : ∀ k : Nat, k ≤ u.length → Ev (fun n => yz7 n ((k + ((u.drop k).takeWhile isNum).length : Nat) : Int) ⟨u⟩ e) r → Ev (fun n => kzi n (k : Int) ⟨u⟩ e) r :=
 down (fun h => by
  rw [List.drop_length] at h
  rw [z3s, Ev.yz1 (by simp), z3u, Ev.yz1 (by rfl)]
  simp only [kz0.kz2]
  exact h) fun k hk ih h => by
  obtain ⟨j, hj, hjn⟩ := zoz u[k]
  rw [z3s, Ev.kz1 (by simpa using hk), Ev.yz2 (yzb hk), Ev.zz0 hj, hjn, z3u]
  simp only [kz0.kz2]
  cases hc : isNum u[k]
  ·rw [zms hk hc] at h
   rw [Ev.yz1 (by rfl)]
   exact h
  ·rw [zn0 hk hc] at h
   rw [Ev.kz1 (by rfl), wrk (by omega)]
   refine ih ?_
   rw [show k + 1 + ((u.drop (k + 1)).takeWhile isNum).length = k + (((u.drop (k + 1)).takeWhile isNum).length + 1) by omega]
   exact h
theorem zkg (p : UInt8 → Bool) (u : List UInt8) : u.take (u.takeWhile p).length = u.takeWhile p := by
 induction u with
 | nil => rfl
 | cons c u ih =>
   rw [List.takeWhile_cons]
   split
   · rw [List.length_cons, List.take_succ_cons, ih]
   · rfl
theorem ym5 (p : UInt8 → Bool) (u : List UInt8) : (u.takeWhile p).all p = true := by
 induction u with
 | nil => rfl
 | cons c u ih =>
   rw [List.takeWhile_cons]
   split
   · rename_i h; rw [List.all_cons, h, ih]; rfl
   · rfl
theorem yll (p : UInt8 → Bool) (u : List UInt8) : (u.takeWhile p).length ≤ u.length := (List.takeWhile_prefix _).length_le
theorem zq2 {u : List UInt8} (hu : u.length ≤ 4000) : Ev (fun n => zzx n ⟨u⟩) (ymd (lit u)) := by
 rw [zb6, Ev.zz0 zph]
 unfold lit
 by_cases h34 : u.head? = some 34
 ·rw [if_pos h34]
  cases u with
  | nil => cases h34
  | cons c t =>
    have hc : c = 34 := Option.some.inj h34
    subst hc
    rw [Ev.kz1 (by simp [List.isPrefixOf])]
    rw [List.length_cons] at hu
    refine ymw (k := 1) (by simpa using hu) _ (by simp) (Nat.le_refl _) ?_
    rw [List.drop_succ_cons, List.drop_zero, List.tail_cons]
    have hp := zjn (u := t.take (rs t + 1)) (by simp; omega)
    have hj : min (1 + rs t + 1) (34 :: t).length = (t.take (rs t + 1)).length + 1 := by simp; omega
    have ht : (34 :: t).take ((t.take (rs t + 1)).length + 1) = 34 :: t.take (rs t + 1) := by
      rw [List.take_succ_cons, List.length_take, List.take_eq_take_min (i := rs t + 1)]
    rw [yc5] at hp
    rw [hj]
    cases hs : scan t with
    | none =>
      rw [hs] at hp
      have := zl2 (u := 34 :: t) (k := (t.take (rs t + 1)).length + 1) (by simp; omega) (by simpa using hu) (e := ⟨0, ⟨0, ⟨0, 0⟩, false, [], []⟩, [], []⟩) (by rw [ht]; exact hp) (.inr rfl)
      exact this
    | some p =>
      obtain ⟨x, m⟩ := p
      obtain ⟨e1, e2, e3⟩ := zoq t x m hs
      rw [hs] at hp
      have hm : m = (t.take (rs t + 1)).length := by simp; omega
      dsimp only at hp ⊢
      by_cases hv : z1l (zed x) = 0
      · rw [if_pos ⟨hm, hv⟩] at hp
        have := zl2 (u := 34 :: t) (k := (t.take (rs t + 1)).length + 1) (by simp; omega) (by simpa using hu) (e := ⟨0, ⟨0, ⟨0, 0⟩, false, [], []⟩, [], []⟩) (by rw [ht]; exact hp) (.inl rfl)
        rw [if_pos hv, hm]
        exact this
      · rw [if_neg fun h => hv h.2] at hp
        have := zl2 (u := 34 :: t) (k := (t.take (rs t + 1)).length + 1) (by simp; omega) (by simpa using hu) (e := ⟨0, ⟨0, ⟨0, 0⟩, false, [], []⟩, [], []⟩) (by rw [ht]; exact hp) (.inr rfl)
        rw [if_neg hv]
        exact this
 ·rw [if_neg h34]
  have hp : ([34] : List UInt8).isPrefixOf u = false := by
   cases u with
   | nil => rfl
   | cons c t =>
     simp only [List.isPrefixOf, Bool.and_true, beq_eq_false_iff_ne]
     exact fun e => h34 (by rw [← e]; rfl)
  rw [hp, Ev.yz1 (by rfl)]
  refine ylf hu 0 (Nat.zero_le _) ?_
  rw [List.drop_zero, Nat.zero_add]
  have hl := yll isNum u
  have hv := zjc (w := u.takeWhile isNum) (by omega) (ym5 _ _)
  by_cases hz : (z25 (u.takeWhile isNum)).1 = 0
  ·rw [if_pos hz] at hv ⊢
   exact zl2 hl hu (by rw [zkg]; exact hv) (.inl rfl)
  ·rw [if_neg hz] at hv ⊢
   exact zl2 hl hu (by rw [zkg]; exact hv) (.inr rfl)
end Go.Proofs.YtfhpamcehnfhoaaGreatDoor


namespace Go.Proofs.YtfhpamcehnfhoaaGreatDoor
open Go Go.Ab
set_option linter.unusedVariables false
set_option linter.unusedSimpArgs false
theorem zb5 {s t : List UInt8} {k : Nat} (hs : s.length ≤ 100000) (ht : t.length ≤ 100) (hk : k ≤ s.length) : Ev (fun n => zzg n s (k : Int) t) (t.isPrefixOf (s.drop k)) := by
 rw [y3p, wI (x := (k : Int) + (t.length : Int)) (by omega), ← Int.natCast_add]
 by_cases h : k + t.length ≤ s.length
 ·rw [Ev.kz1 (by simp; omega), Ev.yz2 (zb8 (by omega) h), Ev.zz1, zxn, List.drop_take, Nat.add_sub_cancel_left]
 ·rw [Ev.yz1 (by simp; omega), Ev.zz1]
  cases hp : t.isPrefixOf (s.drop k)
  ·rfl
  ·have := zxh hp
   rw [List.length_drop] at this
   omega
theorem yn4 {x : List UInt8} : Ev (fun n => zd6 n x) (zed x) := by rw [yfk, Ev.zz1]; rfl
theorem yqe {r : zz2} : Ev (fun n => zf5 n r) (zi3 r) := by rw [yjc, Ev.zz1]; rfl
theorem ybn {b : Bool} : Ev (fun n => zcd n b) (zfy b) := by rw [yiq, Ev.zz1]; rfl
theorem ytl {s : List UInt8} (hs : s.length ≤ 100000) {v : yz0} : ∀ N k : Nat, k ≤ s.length → s.length - k ≤ N → ∀ acc : List UInt8, acc.length + (s.length - k) ≤ 100000 →
  (∀ x m, scan (s.drop k) = some (x, m) → Ev (fun n => zzh n (k : Int) acc s v) (((k + m : Nat) : Int), true, zed (acc ++ x))) ∧
  (scan (s.drop k) = none → Ev (fun n => zzh n (k : Int) acc s v) (0, false, v0)) := by
 have fin : ∀ acc : List UInt8, Ev (fun n => zzh n (s.length : Int) acc s v) (0, false, v0) := fun acc => by
  rw [z96, Ev.yz1 (by simp), Ev.zz1]; rfl
 have l2 : ∀ (j : Nat) (acc : List UInt8) (hj : j < s.length), acc.length ≤ 100000 → ∀ r, Ev (fun n => zzh n ((j + 1 : Nat) : Int) (acc ++ [s[j]]) s v) r → Ev (fun n => z4z n s (j : Int) acc v) r := fun j acc hj hl r h => by
  rw [zw9, Ev.yz2 (ysq hj (by omega)), Ev.yz2 (z3o (by simp; omega)), wrk (by omega), yz0.kz2]
  exact h
 intro N
 induction N with
 | zero =>
   intro k hk hN acc hl
   have : k = s.length := by omega
   subst this
   rw [List.drop_length]
   exact ⟨fun x m h => (by rw [scan] at h; cases h), fun _ => fin acc⟩
 | succ N ih =>
   intro k hk hN acc hl
   by_cases hlt : k < s.length
   · have first : ∀ r, s[k] ≠ 34 → s[k] ≠ 92 → Ev (fun n => zzh n ((k + 1 : Nat) : Int) (acc ++ [s[k]]) s v) r → Ev (fun n => zzh n (k : Int) acc s v) r := fun r h34 h92 h => by
       rw [z96, Ev.kz1 (by simpa using hlt), Ev.yz2 (yzb hlt), b34, Ev.yz1 (by simpa using h34), Ev.yz2 (yzb hlt), b92, Ev.yz1 (by simpa using h92), zeq, Ev.yz1 (by rfl), Ev.yz2 (yzb hlt), b92, Ev.yz1 (by simpa using h92)]
       simp only [yz0.kz2]
       exact l2 k acc hlt (by omega) r h
     have esc : ∀ r, s[k] = 92 → ∀ h1 : k + 1 < s.length, (s[k + 1] = 34 ∨ s[k + 1] = 92) → Ev (fun n => zzh n ((k + 2 : Nat) : Int) (acc ++ [s[k + 1]]) s v) r → Ev (fun n => zzh n (k : Int) acc s v) r := fun r h92 h1 hd h => by
       have l1 : Ev (fun n => z0r n s acc (k : Int) true v) r := by
         rw [zeq, Ev.kz1 (by rfl), wrk (by omega), yz0.kz2]
         exact l2 (k + 1) acc h1 (by omega) r h
       rw [z96, Ev.kz1 (by simpa using hlt), Ev.yz2 (yzb hlt), b34, Ev.yz1 (by rw [h92]; rfl), Ev.yz2 (yzb hlt), b92, Ev.kz1 (by rw [h92]; rfl), wrk (by omega), Ev.kz1 (by simp; omega), Ev.yz2 (yzb h1), b34]
       simp only [yz0.kz2]
       by_cases hd34 : s[k + 1] = 34
       · rw [Ev.kz1 (by simpa using hd34)]; exact l1
       · rw [Ev.yz1 (by simpa using hd34), Ev.yz2 (yzb h1), b92, show (s[k + 1] == 92) = true by simpa using hd.resolve_left hd34]; exact l1
     have bad : s[k] = 92 → (∀ h1 : k + 1 < s.length, s[k + 1] ≠ 34 ∧ s[k + 1] ≠ 92) → Ev (fun n => zzh n (k : Int) acc s v) (0, false, v0) := fun h92 hd => by
       have l1 : Ev (fun n => z0r n s acc (k : Int) false v) (0, false, v0) := by
         rw [zeq, Ev.yz1 (by rfl), Ev.yz2 (yzb hlt), b92, Ev.kz1 (by rw [h92]; rfl), Ev.zz1]; rfl
       rw [z96, Ev.kz1 (by simpa using hlt), Ev.yz2 (yzb hlt), b34, Ev.yz1 (by rw [h92]; rfl), Ev.yz2 (yzb hlt), b92, Ev.kz1 (by rw [h92]; rfl), wrk (by omega)]
       simp only [yz0.kz2]
       by_cases h1 : k + 1 < s.length
       · obtain ⟨d1, d2⟩ := hd h1
         rw [Ev.kz1 (by simp; omega), Ev.yz2 (yzb h1), b34, Ev.yz1 (by simpa using d1), Ev.yz2 (yzb h1), b92, show (s[k + 1] == 92) = false by simpa using d2]
         exact l1
       · rw [Ev.yz1 (by simp; omega)]
         exact l1
     rw [drop_cons hlt]
     by_cases h34 : s[k] = 34
     · rw [h34, ztx]
       refine ⟨fun x m h => ?_, fun h => by cases h⟩
       injection h with h
       injection h with h1 h2
       subst h1 h2
       rw [z96, Ev.kz1 (by simpa using hlt), Ev.yz2 (yzb hlt), b34, Ev.kz1 (by simpa using h34), Ev.zz0 yn4, Ev.zz1, wrk (by omega), List.append_nil, yz0.kz2]
     by_cases h92 : s[k] = 92
     · rw [h92]
       by_cases hk1 : k + 1 < s.length
       · rw [drop_cons hk1, ztk, show k + 1 + 1 = k + 2 by omega]
         by_cases hd : s[k + 1] = 34 ∨ s[k + 1] = 92
         · rw [if_pos hd]
           obtain ⟨i1, i2⟩ := ih (k + 2) (by omega) (by omega) (acc ++ [s[k + 1]]) (by simp; omega)
           refine ⟨fun x m h => ?_, fun h => ?_⟩
           · cases hsc : scan (s.drop (k + 2)) with
             | none => rw [hsc] at h; cases h
             | some p =>
               obtain ⟨y, j⟩ := p
               rw [hsc] at h
               injection h with h
               injection h with e1 e2
               subst e1 e2
               refine (esc _ h92 hk1 hd (i1 y j hsc)).to ?_
               rw [List.append_assoc, show k + 2 + j = k + (j + 2) by omega]; rfl
           · cases hsc : scan (s.drop (k + 2)) with
             | none => exact esc _ h92 hk1 hd (i2 hsc)
             | some p => rw [hsc] at h; cases h
         · rw [if_neg hd]
           exact ⟨fun x m h => (by cases h), fun _ => bad h92 fun _ => ⟨fun e => hd (.inl e), fun e => hd (.inr e)⟩⟩
       · rw [List.drop_of_length_le (by omega), y4m]
         exact ⟨fun x m h => (by cases h), fun _ => bad h92 fun h => (hk1 h).elim⟩
     rw [zyz _ h34 h92]
     obtain ⟨i1, i2⟩ := ih (k + 1) (by omega) (by omega) (acc ++ [s[k]]) (by simp; omega)
     refine ⟨fun x m h => ?_, fun h => ?_⟩
     · cases hsc : scan (s.drop (k + 1)) with
       | none => rw [hsc] at h; cases h
       | some p =>
         obtain ⟨y, j⟩ := p
         rw [hsc] at h
         injection h with h
         injection h with e1 e2
         subst e1 e2
         refine (first _ h34 h92 (i1 y j hsc)).to ?_
         rw [List.append_assoc, show k + 1 + j = k + (j + 1) by omega]; rfl
     · cases hsc : scan (s.drop (k + 1)) with
       | none => exact first _ h34 h92 (i2 hsc)
       | some p => rw [hsc] at h; cases h
   · have : k = s.length := by omega
     subst this
     rw [List.drop_length]
     exact ⟨fun x m h => (by rw [scan] at h; cases h), fun _ => fin acc⟩
theorem ygu {s : List UInt8} {a : Nat} (hs : s.length ≤ 100000) (ha : a < s.length) :
  (∀ x m, scan (s.drop (a + 1)) = some (x, m) → Ev (fun n => z4s n s (a : Int)) (((a + 1 + m : Nat) : Int), true, zed x)) ∧
  (scan (s.drop (a + 1)) = none → Ev (fun n => z4s n s (a : Int)) (0, false, v0)) := by
 obtain ⟨h1, h2⟩ := ytl hs (v := ⟨0, ⟨0, 0⟩, false, [], []⟩) s.length (a + 1) (by omega) (by omega) [] (by simp; omega)
 refine ⟨fun x m h => ?_, fun h => ?_⟩
 ·rw [zqm, wrk (by omega)]; exact h1 x m h
 ·rw [zqm, wrk (by omega)]; exact h2 h
def zfg (c : UInt8) : Bool := z7u c || c == 47
def nw : List UInt8 → List UInt8
 | [] => []
 | c :: t => if c = 45 then 45 :: t.takeWhile zfg else (c :: t).takeWhile zfg
theorem zp3 {c : UInt8} : zfg c = true ↔ (48 ≤ c.toNat ∧ c.toNat ≤ 57) ∨ c.toNat = 47 := by
 unfold zfg
 rw [Bool.or_eq_true, z7s, zmw, decide_eq_true_eq]
 rfl
theorem ytp (c : UInt8) (t : List UInt8) : nw (c :: t) = if c = 45 then 45 :: t.takeWhile zfg else (c :: t).takeWhile zfg := rfl
theorem yon (u : List UInt8) : u.take (nw u).length = nw u := by
 cases u with
 | nil => rfl
 | cons c t =>
   rw [ytp]
   split
   · rename_i h; subst h; rw [List.length_cons, List.take_succ_cons, zkg]
   · exact zkg _ _
theorem ys2 (u : List UInt8) : (nw u).length ≤ u.length := by
 have := congrArg List.length (yon u)
 rw [List.length_take] at this
 omega
theorem yov {s : List UInt8} {a k : Nat} {v : yz0} {r} (hk : k < s.length) (h : Ev (fun n => yzh n (a : Int) s (k : Int) (zfg s[k] || (s[k] == 45 && decide (k = a))) v) r) : Ev (fun n => z2t n (k : Int) (a : Int) s v) r := by
 have e47 := zmw s[k] 47
 have e45 := zmw s[k] 45
 rw [show (47 : UInt8).toNat = 47 by rfl] at e47
 rw [show (45 : UInt8).toNat = 45 by rfl] at e45
 rw [zl5, Ev.kz1 (by simpa using hk), Ev.yz2 (yzb hk)]
 simp only [yz0.kz2]
 by_cases h48 : 48 ≤ s[k].toNat
 ·rw [Ev.kz1 (by simp; omega), Ev.yz2 (yzb hk)]
  by_cases h57 : s[k].toNat ≤ 57
  ·rw [show zfg s[k] = true from zp3.2 (.inl ⟨h48, h57⟩), Bool.true_or] at h
   rw [Ev.kz1 (by simp; omega)]
   exact h
  ·have hn : zfg s[k] = false := by cases hq : zfg s[k]; rfl; rw [zp3] at hq; omega
   rw [hn, e45, decide_eq_false (by omega : ¬ s[k].toNat = 45)] at h
   rw [Ev.yz1 (by simp; omega), Ev.yz2 (yzb hk), Ev.yz1 (by simp; omega), Ev.yz2 (yzb hk), Ev.yz1 (by simp; omega)]
   exact h
 ·rw [Ev.yz1 (by simp; omega), Ev.yz2 (yzb hk)]
  by_cases h47 : s[k].toNat = 47
  ·rw [show zfg s[k] = true from zp3.2 (.inr h47), Bool.true_or] at h
   rw [Ev.kz1 (by simp; omega)]
   exact h
  ·have hn : zfg s[k] = false := by cases hq : zfg s[k]; rfl; rw [zp3] at hq; omega
   rw [hn, e45] at h
   rw [Ev.yz1 (by simp; omega), Ev.yz2 (yzb hk)]
   by_cases h45 : s[k].toNat = 45
   ·rw [decide_eq_true h45, Bool.false_or, Bool.true_and] at h
    rw [Ev.kz1 (by simp; omega), show (((k : Nat) : Int) == (a : Int)) = decide (k = a) by rw [Bool.eq_iff_iff, beq_iff_eq, decide_eq_true_eq]; omega]
    exact h
   ·rw [decide_eq_false h45] at h
    rw [Ev.yz1 (by simp; omega)]
    exact h
theorem ynr {s : List UInt8} {a : Nat} {v : yz0} {r} (hs : s.length ≤ 100000) : ∀ k, k ≤ s.length → a < k → Ev (fun n => yzh n (a : Int) s ((k + ((s.drop k).takeWhile zfg).length : Nat) : Int) false v) r → Ev (fun n => z2t n (k : Int) (a : Int) s v) r :=
 down (fun hk h => by
  rw [List.drop_length] at h
  rw [zl5, Ev.yz1 (by simp), yz0.kz2]
  exact h) fun k hk ih ha h => by
  refine yov hk ?_
  rw [decide_eq_false (by omega : ¬ k = a), Bool.and_false, Bool.or_false]
  cases hc : zfg s[k]
  ·rw [zms hk hc] at h
   exact h
  ·rw [zn0 hk hc] at h
   rw [zaz, Ev.kz1 (by rfl), wrk (by omega), yz0.kz2]
   refine ih (by omega) ?_
   rw [show k + 1 + ((s.drop (k + 1)).takeWhile zfg).length = k + (((s.drop (k + 1)).takeWhile zfg).length + 1) by omega]
   exact h
theorem yfy {s : List UInt8} {a : Nat} (hs : s.length ≤ 100000) (ha : a < s.length) : Ev (fun n => z65 n s (a : Int)) (((a + (nw (s.drop a)).length : Nat) : Int), decide ((z25 (nw (s.drop a))).1 = 0), zi3 (z25 (nw (s.drop a))).2) := by
 have hl := ys2 (s.drop a)
 rw [List.length_drop] at hl
 have fin : ∀ v : yz0, Ev (fun n => yzh n (a : Int) s ((a + (nw (s.drop a)).length : Nat) : Int) false v) (((a + (nw (s.drop a)).length : Nat) : Int), decide ((z25 (nw (s.drop a))).1 = 0), zi3 (z25 (nw (s.drop a))).2) := fun v => by
  rw [zaz, Ev.yz1 (by rfl), Ev.yz2 (zb8 (by omega) (by omega)), List.drop_take, Nat.add_sub_cancel_left, yon, Ev.zz0 (ydv (by omega)), Ev.zz0 yqe, Ev.zz1, yz0.kz2]
  congr 2
 rw [y30]
 refine yov ha ?_
 have f := fin ⟨0, ⟨0, 0⟩, false, [], []⟩
 revert f
 generalize (((a + (nw (s.drop a)).length : Nat) : Int), decide ((z25 (nw (s.drop a))).1 = 0), zi3 (z25 (nw (s.drop a))).2) = r
 intro f
 have e := drop_cons ha
 by_cases h45 : s[a] = 45
 ·rw [show (zfg s[a] || (s[a] == 45 && decide (a = a))) = true by rw [h45]; simp, zaz, Ev.kz1 (by rfl), wrk (by omega), yz0.kz2]
  refine ynr hs (a + 1) (by omega) (by omega) ?_
  rw [e, h45] at f
  rw [show a + 1 + ((s.drop (a + 1)).takeWhile zfg).length = a + (nw (45 :: s.drop (a + 1))).length by rw [nw, if_pos rfl, List.length_cons]; omega]
  exact f
 ·have hn : nw (s.drop a) = (s.drop a).takeWhile zfg := by rw [e, nw, if_neg h45]
  rw [hn] at f
  rw [show (s[a] == 45) = false by simpa using h45, Bool.false_and, Bool.or_false]
  cases hc : zfg s[a]
  ·rw [zms ha hc] at f
   exact f
  ·rw [zn0 ha hc] at f
   rw [zaz, Ev.kz1 (by rfl), wrk (by omega), yz0.kz2]
   refine ynr hs (a + 1) (by omega) (by omega) ?_
   rw [show a + 1 + ((s.drop (a + 1)).takeWhile zfg).length = a + (((s.drop (a + 1)).takeWhile zfg).length + 1) by omega]
   exact f
theorem yl5 : ∀ t : List UInt8, t.takeWhile zfg = t.takeWhile isNum ∨ ∃ t', t.takeWhile isNum = t.takeWhile zfg ++ 45 :: t' ∧ (t.drop (t.takeWhile zfg).length).head? = some 45
 | [] => .inl rfl
 | c :: t => by
   by_cases hd : zfg c = true
   · have hn : isNum c = true := by rw [zp3] at hd; rw [zo5]; omega
     have e1 : (c :: t).takeWhile zfg = c :: t.takeWhile zfg := by rw [List.takeWhile_cons, if_pos hd]
     have e2 : (c :: t).takeWhile isNum = c :: t.takeWhile isNum := by rw [List.takeWhile_cons, if_pos hn]
     rw [e1, e2]
     rcases yl5 t with h | ⟨t', h1, h2⟩
     · exact .inl (by rw [h])
     · exact .inr ⟨t', by rw [h1]; rfl, by rw [List.length_cons, List.drop_succ_cons]; exact h2⟩
   · have e1 : (c :: t).takeWhile zfg = [] := by rw [List.takeWhile_cons, if_neg hd]
     rw [e1]
     by_cases hn : isNum c = true
     · have hc : c = 45 := by
         rw [zp3] at hd
         rw [zo5] at hn
         exact UInt8.toNat_inj.1 (by show c.toNat = 45; omega)
       subst hc
       exact .inr ⟨t.takeWhile isNum, by rw [List.takeWhile_cons, if_pos hn]; rfl, rfl⟩
     · exact .inl (by rw [List.takeWhile_cons, if_neg hn])
theorem y50 (u : Nat) : (45 : UInt8) ∉ Lib.decDigits u := fun h => (zro (List.all_eq_true.1 (zej u) _ h)).2 rfl
theorem y5k (r : zz2) : (45 : UInt8) ∉ zp7 r := by
 unfold zp7
 split
 ·exact y50 _
 ·intro h
  rw [List.mem_append, List.mem_cons] at h
  rcases h with h | h | h
  ·exact y50 _ h
  ·cases h
  ·exact y50 _ h
theorem yhs {r : zz2} (h : rok r = true) {a b : List UInt8} (e : z1n r = a ++ 45 :: b) : a = [] := by
 rw [zlu h] at e
 split at e
 ·cases a with
  | nil => rfl
  | cons c a =>
    rw [List.cons_append] at e
    injection e with e1 e2
    exact (y5k r (by rw [e2]; simp)).elim
 ·exact (y5k r (by rw [e]; simp)).elim
theorem ytb (u : List UInt8) : nw u = u.takeWhile isNum ∨ ((z25 (u.takeWhile isNum)).1 ≠ 0 ∧ (u.drop (nw u).length).head? = some 45) := by
 have key : ∀ (a b : List UInt8), a ≠ [] → (z25 (a ++ 45 :: b)).1 ≠ 0 := fun a b ha h => ha (yhs (zax h).1 (zax h).2)
 cases u with
 | nil => exact .inl rfl
 | cons c t =>
   by_cases hc : c = 45
   · subst hc
     have e2 : (45 :: t : List UInt8).takeWhile isNum = 45 :: t.takeWhile isNum := by rw [List.takeWhile_cons, if_pos (by decide)]
     rw [nw, if_pos rfl, e2]
     rcases yl5 t with h | ⟨t', h1, h2⟩
     · exact .inl (by rw [h])
     · refine .inr ⟨?_, by rw [List.length_cons, List.drop_succ_cons]; exact h2⟩
       rw [h1, ← List.cons_append]
       exact key _ _ (by simp)
   · rw [nw, if_neg hc]
     rcases yl5 (c :: t) with h | ⟨t', h1, h2⟩
     · exact .inl h
     · refine .inr ⟨?_, h2⟩
       rw [h1]
       refine key _ _ fun e => ?_
       rw [e] at h2
       exact hc (Option.some.inj h2)
theorem ypo {s : List UInt8} {a : Nat} (hs : s.length ≤ 4000) (ha : a < s.length) (hlet : isLet s[a] = false) (h91 : s[a] ≠ 91) : ∃ (k : Int) (ok : Bool) (v : yz0), Ev (fun n => z30 n s (a : Int) 1) (k, ok, v) ∧
  ((ok = false ∧ lit (s.drop a) = none) ∨ (ok = true ∧ ∃ j : Nat, k = (j : Int) ∧ a < j ∧ j ≤ s.length ∧ v.size ≤ 40 + (j - a) ∧ ((lit (s.drop a) = some (v, s.drop j) ∧ v.wf) ∨ (lit (s.drop a) = none ∧ (z1l v ≠ 0 ∨ (s.drop j).head? = some 45))))) := by
 have e := drop_cons ha
 have nop : ∀ (c : UInt8) (p : List UInt8), isLet c = true → (c :: p).isPrefixOf (s.drop a) = false := fun c p hc => by
  rw [e]
  simp only [List.isPrefixOf, Bool.and_eq_false_iff, beq_eq_false_iff_ne]
  exact .inl fun q => by rw [q, hlet] at hc; cases hc
 have pre : ∀ r, (if s[a] = 34 then Ev (fun n => (z4s n s (a : Int)).bind fun y5 => some (y5.1, y5.2.1, y5.2.2)) r else Ev (fun n => (z65 n s (a : Int)).bind fun y7 => some (y7.1, y7.2.1, y7.2.2)) r) → Ev (fun n => z30 n s (a : Int) 1) r := fun r h => by
  rw [znu, Ev.yz1 (by rfl), show decide ((a : Int) ≥ (s.length : Int)) = false by simp; omega, zh1, Ev.yz1 (by rfl), Ev.zz0 (zb5 (by omega) (by decide) (by omega)), nop _ _ (by decide), Ev.yz1 (by rfl), Ev.zz0 (zb5 (by omega) (by decide) (by omega)), nop _ _ (by decide), Ev.yz1 (by rfl), Ev.yz2 (yzb ha), b34]
  simp only [yz0.kz2]
  split at h
  ·rename_i h34
   rw [Ev.kz1 (by simpa using h34)]
   exact h
  ·rename_i h34
   rw [Ev.yz1 (by simpa using h34), Ev.yz2 (yzb ha), show (((s[a].toNat : Nat) : Int) != 91) = true by have := b91 s[a]; simp only [bne, this]; simpa using h91, Ev.kz1 (by rfl)]
   exact h
 by_cases h34 : s[a] = 34
 ·replace pre : ∀ r, Ev (fun n => (z4s n s (a : Int)).bind fun y5 => some (y5.1, y5.2.1, y5.2.2)) r → Ev (fun n => z30 n s (a : Int) 1) r := fun r h => pre r (by rw [if_pos h34]; exact h)
  obtain ⟨q1, q2⟩ := ygu (s := s) (by omega) ha
  have hl : lit (s.drop a) = (match scan (s.drop (a + 1)) with
    | some (x, m) => if z1l (zed x) = 0 then some (zed x, (s.drop a).drop (m + 1)) else none
    | none => none) := by
   unfold lit
   rw [if_pos (by rw [e, h34]; rfl)]
   rw [show (s.drop a).tail = s.drop (a + 1) by rw [e]; rfl]
   all_goals rfl
  cases hsc : scan (s.drop (a + 1)) with
  | none =>
    refine ⟨0, false, v0, pre _ ?_, .inl ⟨rfl, by rw [hl, hsc]⟩⟩
    rw [Ev.zz0 (q2 hsc), Ev.zz1]
  | some p =>
    obtain ⟨x, m⟩ := p
    obtain ⟨e1, e2, e3⟩ := zoq _ x m hsc
    rw [List.length_drop] at e2
    have hsz := ztw x
    refine ⟨((a + 1 + m : Nat) : Int), true, zed x, pre _ ?_, .inr ⟨rfl, a + 1 + m, rfl, by omega, by omega, by omega, ?_⟩⟩
    · rw [Ev.zz0 (q1 x m hsc), Ev.zz1]
    · rw [hl, hsc]
      dsimp only
      by_cases hv : z1l (zed x) = 0
      · rw [if_pos hv, List.drop_drop, show a + (m + 1) = a + 1 + m by omega]
        exact .inl ⟨rfl, y4c x⟩
      · rw [if_neg hv]
        exact .inr ⟨rfl, .inl hv⟩
 ·replace pre : ∀ r, Ev (fun n => (z65 n s (a : Int)).bind fun y7 => some (y7.1, y7.2.1, y7.2.2)) r → Ev (fun n => z30 n s (a : Int) 1) r := fun r h => pre r (by rw [if_neg h34]; exact h)
  have hn := yfy (s := s) (by omega) ha
  have hnl := ys2 (s.drop a)
  rw [List.length_drop] at hnl
  have hl : lit (s.drop a) = if (z25 ((s.drop a).takeWhile isNum)).1 = 0 then some (zi3 (z25 ((s.drop a).takeWhile isNum)).2, (s.drop a).drop ((s.drop a).takeWhile isNum).length) else none := by
   unfold lit
   rw [if_neg (by rw [show (s.drop a).head? = some s[a] by rw [e]; rfl]; simpa using h34)]
  refine ⟨_, _, _, pre _ (by rw [Ev.zz0 hn, Ev.zz1]), ?_⟩
  by_cases hz : (z25 (nw (s.drop a))).1 = 0
  ·rw [decide_eq_true hz]
   have hpos : 0 < (nw (s.drop a)).length := by
    cases hq : nw (s.drop a) with
    | nil => rw [hq] at hz; revert hz; decide
    | cons c t => simp
   have hsz := ypf (z25 (nw (s.drop a))).2
   refine .inr ⟨rfl, _, rfl, by omega, by omega, by show (zi3 (z25 (nw (s.drop a))).2).size ≤ _; omega, ?_⟩
   rw [hl]
   rcases ytb (s.drop a) with h | ⟨h1, h2⟩
   ·rw [← h, if_pos hz, List.drop_drop]
    exact .inl ⟨rfl, (vok (zq7 (zax hz).1)).1⟩
   ·rw [if_neg h1]
    refine .inr ⟨rfl, .inr ?_⟩
    rw [List.drop_drop] at h2
    exact h2
  ·rw [decide_eq_false hz]
   refine .inl ⟨rfl, ?_⟩
   rw [hl, if_neg]
   rcases ytb (s.drop a) with h | ⟨h1, h2⟩
   ·rw [← h]; exact hz
   ·exact h1
end Go.Proofs.YtfhpamcehnfhoaaGreatDoor


namespace Go.Proofs.YtfhpamcehnfhoaaGreatDoor
open Go Go.Ab
set_option linter.unusedVariables false
set_option linter.unusedSimpArgs false
def E0 : kz0 := ⟨0, ⟨0, ⟨0, 0⟩, false, [], []⟩, [], []⟩
def zjv (op : Int) (l : List kz0) : kz0 := ⟨op, v0, [], l⟩
theorem ykc {t u : List UInt8} : Ev (fun n => kz7 n t ⟨u⟩) (t.isPrefixOf u, ⟨if t.isPrefixOf u then u.drop t.length else u⟩) := by
 rw [zdv, Ev.zz0 zol, Ev.zz1]
theorem zg8 {t u : List UInt8} (h : t.isPrefixOf u = true) : Ev (fun n => kz7 n t ⟨u⟩) (true, ⟨u.drop t.length⟩) := ykc.to (by rw [h]; rfl)
theorem z9k {t u : List UInt8} (h : t.isPrefixOf u = false) : Ev (fun n => kz7 n t ⟨u⟩) (false, ⟨u⟩) := ykc.to (by rw [h]; rfl)
theorem zy1 {t u : List UInt8} (h : t.isPrefixOf u = true) : Ev (fun n => yzc n t ⟨u⟩) (.ok ⟨u.drop t.length⟩) := by
 rw [za5, Ev.zz0 (zg8 h), Ev.yz1 (by rfl), Ev.zz1]
theorem yea {t u : List UInt8} (h : t.isPrefixOf u = false) : Ev (fun n => yzc n t ⟨u⟩) (.pan (12, ())) := by
 rw [za5, Ev.zz0 (z9k h), Ev.kz1 (by rfl), Ev.zz0 (zfm (by decide))]
 refine Ev.z7t.2 ?_
 rw [Ev.zz1]
theorem zac {c : UInt8} {u : List UInt8} : ([c] : List UInt8).isPrefixOf u = (u.head? == some c) := by
 cases u with
 | nil => rfl
 | cons d t =>
   simp only [List.isPrefixOf, Bool.and_true, List.head?_cons]
   rw [Bool.eq_iff_iff, beq_iff_eq, beq_iff_eq]
   exact ⟨fun h => by rw [h], fun h => (Option.some.inj h).symm⟩
theorem y1h {p s : List UInt8} {k : Nat} (h : p.isPrefixOf (s.drop k) = true) (hk : k ≤ s.length) : k + p.length ≤ s.length := by
 have := zxh h
 rw [List.length_drop] at this
 omega
def Real (s : List UInt8) (a d : Nat) (r : Res (Int × Unit) (yz3 × kz0)) : Prop := Ev (fun n => yzd n (d : Int) ⟨s.drop a⟩) r
def dead (u : List UInt8) (e : kz0) : Prop := z2p e = false ∨ ∃ c, u.head? = some c ∧ isNum c = true
def RR (s : List UInt8) (a d : Nat) : Prop := ∃ (k : Int) (ok : Bool) (e : kz0), Ev (fun n => zzs n s (a : Int) (d : Int)) (k, ok, e) ∧
 ((ok = false ∧ Real s a d (.pan (12, ()))) ∨ (ok = true ∧ ∃ j : Nat, k = (j : Int) ∧ a < j ∧ j ≤ s.length ∧ e.size ≤ 60 * (j - a) ∧ ((Real s a d (.ok (⟨s.drop j⟩, e)) ∧ e.wf) ∨ (Real s a d (.pan (12, ())) ∧ dead (s.drop j) e))))
def zvb (s : List UInt8) (a d : Nat) (c : UInt8) (acc : List kz0) (r : Res (Int × Unit) (List kz0 × yz3)) : Prop := Ev (fun n => kzf n [c] (d : Int) ⟨s.drop a⟩ acc) r
def SS (s : List UInt8) (a d : Nat) (c : UInt8) (acc : List kz0) : Prop := ∃ (l : List kz0) (k : Int) (ok : Bool), Ev (fun n => z0p n s [c] (d : Int) (a : Int) acc) (l, k, ok) ∧
 ((ok = false ∧ zvb s a d c acc (.pan (12, ()))) ∨ (ok = true ∧ ∃ (j : Nat) (l' : List kz0), k = (j : Int) ∧ l = acc ++ l' ∧ a < j ∧ j ≤ s.length ∧ (l'.map kz0.size).sum ≤ 60 * (j - a) ∧ ((zvb s a d c acc (.ok (l, ⟨s.drop j⟩)) ∧ ∀ x ∈ l', x.wf) ∨ (zvb s a d c acc (.pan (12, ())) ∧ ∃ x ∈ l', z2p x = false))))
theorem ypn {s : List UInt8} {d N : Nat} {c : UInt8} (hs : s.length ≤ 4000) (hc : isNum c = false) (hR : ∀ a, a ≤ s.length → s.length - a < N → RR s a d) : ∀ M, M ≤ N → ∀ a, a ≤ s.length → s.length - a < M → ∀ acc : List kz0, acc.length + (s.length - a) ≤ 100000 → SS s a d c acc := by
 intro M
 induction M with
 | zero => intro _ a _ h; omega
 | succ M ih =>
   intro hM a ha hlt acc hl
   obtain ⟨k, ok, e, hev, h⟩ := hR a ha (by omega)
   have realp : Real s a d (.pan (12, ())) → zvb s a d c acc (.pan (12, ())) := fun hp => by
     unfold zvb
     rw [z4f, Ev.zz0 hp]
     refine Ev.z7t.2 ?_
     rw [Ev.zz1]
   rcases h with ⟨hok, hp⟩ | ⟨hok, j, hk, haj, hj, hsz, h⟩
   · subst hok
     refine ⟨[], 0, false, ?_, .inl ⟨rfl, realp hp⟩⟩
     rw [zlz, Ev.zz0 hev, Ev.kz1 (by rfl), Ev.zz1]
   subst hok hk
   have pre : ∀ r, Ev (fun n => (zzg n s (j : Int) [c]).bind fun y3 => pIf y3 (some (acc ++ [e], IntKind.i64.wrap ((j : Int) + 1), true)) ((zzg n s (j : Int) [44, 32]).bind fun y4 => pIf (!y4) (some ([], 0, false)) (z0p n s [c] (d : Int) (IntKind.i64.wrap ((j : Int) + 2)) (acc ++ [e])))) r → Ev (fun n => z0p n s [c] (d : Int) (a : Int) acc) r := fun r h => by
     rw [zlz, Ev.zz0 hev, Ev.yz1 (by rfl), kz0.kz2, Ev.yz2 (ydp (by simp; omega))]
     exact h
   have real : ∀ r, Real s a d (.ok (⟨s.drop j⟩, e)) → Ev (fun n => (kz7 n [c] ⟨s.drop j⟩).bind fun y4 => pIf y4.1 (some (Res.ok (acc ++ [e], y4.2))) ((yzc n [44, 32] y4.2).bind fun y5 => zh5 y5 (fun r6 => kzf n [c] (d : Int) r6 (acc ++ [e])) (fun e7 => some (Res.pan (e7.1, ()))))) r → zvb s a d c acc r := fun r hr h => by
     unfold zvb
     rw [z4f, Ev.zz0 hr]
     refine Ev.z7h.2 ?_
     rw [kz0.kz2, Ev.yz2 (ydp (by simp; omega))]
     exact h
   cases hend : ([c] : List UInt8).isPrefixOf (s.drop j)
   · cases hcom : ([44, 32] : List UInt8).isPrefixOf (s.drop j)
     · refine ⟨[], 0, false, pre _ ?_, .inl ⟨rfl, ?_⟩⟩
       · rw [Ev.zz0 (zb5 (by omega) (by simp) hj), hend, Ev.yz1 (by rfl), Ev.zz0 (zb5 (by omega) (by simp) hj), hcom, Ev.kz1 (by rfl), Ev.zz1]
       · rcases h with ⟨hr, _⟩ | ⟨hr, _⟩
         · refine real _ hr ?_
           rw [Ev.zz0 (z9k hend), Ev.yz1 (by rfl), Ev.zz0 (yea hcom)]
           refine Ev.z7t.2 ?_
           rw [Ev.zz1]
         · exact realp hr
     · have hj2 := y1h hcom hj
       simp only [List.length_cons, List.length_nil] at hj2
       obtain ⟨l, k, ok, i1, i2⟩ := ih (by omega) (j + 2) (by omega) (by omega) (acc ++ [e]) (by simp; omega)
       have refr : Ev (fun n => z0p n s [c] (d : Int) (a : Int) acc) (l, k, ok) := pre _ (by
         rw [Ev.zz0 (zb5 (by omega) (by simp) hj), hend, Ev.yz1 (by rfl), Ev.zz0 (zb5 (by omega) (by simp) hj), hcom, Ev.yz1 (by rfl), wI (x := (j : Int) + 2) (by omega)]
         exact i1)
       have realr : ∀ r, Real s a d (.ok (⟨s.drop j⟩, e)) → zvb s (j + 2) d c (acc ++ [e]) r → zvb s a d c acc r := fun r hr h => real r hr (by
         rw [Ev.zz0 (z9k hend), Ev.yz1 (by rfl), Ev.zz0 (zy1 hcom)]
         refine Ev.z7h.2 ?_
         rw [List.drop_drop]
         exact h)
       refine ⟨l, k, ok, refr, ?_⟩
       have hf : dead (s.drop j) e → z2p e = false := fun h => by
         rcases h with h | ⟨x, h1, h2⟩
         · exact h
         · exfalso
           cases hq : s.drop j with
           | nil => rw [hq] at h1; cases h1
           | cons y t =>
             rw [hq] at h1 hcom
             have : x = y := (Option.some.inj h1).symm
             subst this
             simp only [List.isPrefixOf, Bool.and_eq_true, beq_iff_eq] at hcom
             rw [← hcom.1] at h2
             revert h2; decide
       rcases i2 with ⟨o1, o2⟩ | ⟨o1, j', l', o2, o3, o4, o5, o6, o7⟩
       · refine .inl ⟨o1, ?_⟩
         rcases h with ⟨hr, _⟩ | ⟨hr, _⟩
         · exact realr _ hr o2
         · exact realp hr
       · refine .inr ⟨o1, j', e :: l', o2, by rw [o3, List.append_assoc]; rfl, by omega, o5, ?_, ?_⟩
         · rw [List.map_cons, List.sum_cons]; omega
         · rcases h with ⟨hr, hw⟩ | ⟨hr, hd⟩
           · rcases o7 with ⟨p1, p2⟩ | ⟨p1, x, p2, p3⟩
             · refine .inl ⟨realr _ hr p1, fun x hx => ?_⟩
               rcases List.mem_cons.1 hx with hx | hx
               · rw [hx]; exact hw
               · exact p2 x hx
             · exact .inr ⟨realr _ hr p1, x, List.mem_cons_of_mem _ p2, p3⟩
           · exact .inr ⟨realp hr, e, List.mem_cons_self, hf hd⟩
   · have hj1 := y1h hend hj
     simp only [List.length_cons, List.length_nil] at hj1
     have hf : dead (s.drop j) e → z2p e = false := fun h => by
       rcases h with h | ⟨x, h1, h2⟩
       · exact h
       · exfalso
         rw [zac, h1] at hend
         have : x = c := by simpa using hend
         rw [this, hc] at h2
         cases h2
     refine ⟨acc ++ [e], ((j + 1 : Nat) : Int), true, pre _ ?_, .inr ⟨rfl, j + 1, [e], rfl, rfl, by omega, by omega, by simp; omega, ?_⟩⟩
     · rw [Ev.zz0 (zb5 (by omega) (by simp) hj), hend, Ev.kz1 (by rfl), Ev.zz1, wrk (by omega)]
     · rcases h with ⟨hr, hw⟩ | ⟨hr, hd⟩
       · refine .inl ⟨real _ hr ?_, fun x hx => by rw [List.mem_singleton.1 hx]; exact hw⟩
         rw [Ev.zz0 (zg8 hend), Ev.kz1 (by rfl), Ev.zz1, List.drop_drop]
         rfl
       · exact .inr ⟨realp hr, e, List.mem_singleton.2 rfl, hf hd⟩
theorem y5z {s : List UInt8} {d N a : Nat} {c : UInt8} (hs : s.length ≤ 4000) (hc : isNum c = false) (hR : ∀ a, a ≤ s.length → s.length - a < N → RR s a d) (ha : a ≤ s.length) (hN : s.length - a < N) :
  ∃ (l : List kz0) (k : Int) (ok : Bool), Ev (fun n => z64 n s (a : Int) (d : Int) [c]) (l, k, ok) ∧
   ((ok = false ∧ Ev (fun n => kza n (d : Int) [c] ⟨s.drop a⟩) (.pan (12, ()))) ∨ (ok = true ∧ ∃ j : Nat, k = (j : Int) ∧ a < j ∧ j ≤ s.length ∧ (l.map kz0.size).sum ≤ 60 * (j - a) ∧ ((Ev (fun n => kza n (d : Int) [c] ⟨s.drop a⟩) (.ok (l, ⟨s.drop j⟩)) ∧ ∀ x ∈ l, x.wf) ∨ (Ev (fun n => kza n (d : Int) [c] ⟨s.drop a⟩) (.pan (12, ())) ∧ ∃ x ∈ l, z2p x = false)))) := by
 cases hend : ([c] : List UInt8).isPrefixOf (s.drop a)
 ·obtain ⟨l, k, ok, h1, h2⟩ := ypn hs hc hR N (Nat.le_refl _) a ha hN [] (by simp; omega)
  have real : ∀ r, zvb s a d c [] r → Ev (fun n => kza n (d : Int) [c] ⟨s.drop a⟩) r := fun r h => by
   rw [z69, Ev.zz0 (z9k hend), Ev.yz1 (by rfl)]
   exact h
  refine ⟨l, k, ok, ?_, ?_⟩
  ·rw [zqp, Ev.zz0 (zb5 (by omega) (by simp) ha), hend, Ev.yz1 (by rfl)]
   exact h1
  ·rcases h2 with ⟨o1, o2⟩ | ⟨o1, j, l', o2, o3, o4, o5, o6, o7⟩
   ·exact .inl ⟨o1, real _ o2⟩
   ·rw [List.nil_append] at o3
    subst o3
    refine .inr ⟨o1, j, o2, o4, o5, o6, ?_⟩
    rcases o7 with ⟨p1, p2⟩ | ⟨p1, p2⟩
    ·exact .inl ⟨real _ p1, p2⟩
    ·exact .inr ⟨real _ p1, p2⟩
 ·have hj1 := y1h hend ha
  simp only [List.length_cons, List.length_nil] at hj1
  refine ⟨[], ((a + 1 : Nat) : Int), true, ?_, .inr ⟨rfl, a + 1, rfl, by omega, by omega, by simp, .inl ⟨?_, fun x hx => by cases hx⟩⟩⟩
  ·rw [zqp, Ev.zz0 (zb5 (by omega) (by simp) ha), hend, Ev.kz1 (by rfl), Ev.zz1, wrk (by omega)]
  ·rw [z69, Ev.zz0 (zg8 hend), Ev.kz1 (by rfl), Ev.zz1, List.drop_drop]
   rfl
def sgn (op : Nat) : List UInt8 := [32] ++ z3x (op : Int) ++ [32]
theorem yod (op : Nat) : (sgn op).length = (z3x op).length + 2 := by unfold sgn; simp
theorem yga {α : Type} {op : Nat} {k : List UInt8 → Nat → Option α} {r} : Ev (fun n => (z6r n (op : Int)).bind fun y1 => (cat [32] y1).bind fun x2 => (cat x2 [32]).bind fun x3 => k x3 n) r ↔ Ev (fun n => k (sgn op) n) r := by
 have := zaf (op : Int)
 rw [Ev.zz0 zwa, Ev.yz2 (z3o (by simp; omega)), Ev.yz2 (z3o (by simp; omega))]
 rfl
theorem u8k {k : Nat} (h : k < 255) : IntKind.u8.wrap ((k : Int) + 1) = ((k + 1 : Nat) : Int) := by rw [w8 (by omega)]; rfl
theorem yt9 {s : List UInt8} {d j : Nat} {A e : kz0} (hs : s.length ≤ 4000) (hj : j ≤ s.length) (h32 : (s.drop j).head? ≠ some 32) : ∀ op : Nat, op ≤ 11 → Ev (fun n => z16 n (op : Int) s (d : Int) (j : Int) e A) (0, false, E0) :=
 down (by rw [z9l, Ev.yz1 (by rfl), Ev.zz1]; rfl) fun op hop ih => by
  have hp : (sgn op).isPrefixOf (s.drop j) = false := by
   unfold sgn
   cases hq : s.drop j with
   | nil => rfl
   | cons x t =>
     rw [hq] at h32
     simp only [List.cons_append, List.nil_append, List.isPrefixOf, Bool.and_eq_false_iff, beq_eq_false_iff_ne]
     exact .inl fun e => h32 (by rw [← e]; rfl)
  have hl := yod op
  have := zaf (op : Int)
  rw [z9l, Ev.kz1 (by simp; omega), yga, Ev.zz0 (zb5 (by omega) (by omega) hj), hp, Ev.kz1 (by rfl), u8k (by omega)]
  simp only [kz0.kz2]
  exact ih
def BB (s : List UInt8) (j d op : Nat) (A e : kz0) : Prop := ∃ (k : Int) (ok : Bool) (f : kz0), Ev (fun n => z16 n (op : Int) s (d : Int) (j : Int) e A) (k, ok, f) ∧
 ((ok = false ∧ Ev (fun n => zz7 n (op : Int) ((d + 1 : Nat) : Int) ⟨s.drop (j + 1)⟩ e A) (.pan (12, ()))) ∨
   (ok = true ∧ ∃ (i : Nat) (o : Int) (B : kz0), k = (i : Int) ∧ j < i ∧ i ≤ s.length ∧ 0 ≤ o ∧ o ≤ 255 ∧ f = zjv o [A, B] ∧ B.size + 60 ≤ 60 * (i - j) ∧
     ((Ev (fun n => zz7 n (op : Int) ((d + 1 : Nat) : Int) ⟨s.drop (j + 1)⟩ e A) (.ok (⟨s.drop i⟩, f)) ∧ B.wf) ∨ (Ev (fun n => zz7 n (op : Int) ((d + 1 : Nat) : Int) ⟨s.drop (j + 1)⟩ e A) (.pan (12, ())) ∧ z2p B = false))))
theorem ypq {s : List UInt8} {d j : Nat} {A e : kz0} (hs : s.length ≤ 4000) (hd : d ≤ 100) (hj : j ≤ s.length) (h32 : (s.drop j).head? = some 32) (hR : ∀ a, a ≤ s.length → j < a → RR s a d) : ∀ op : Nat, op ≤ 11 → BB s j d op A e :=
 down (by
  refine ⟨0, false, E0, ?_, .inl ⟨rfl, ?_⟩⟩
  ·rw [z9l, Ev.yz1 (by rfl), Ev.zz1]; rfl
  ·rw [z38, Ev.yz1 (by rfl), Ev.zz0 (zfm (by decide))]
   refine Ev.z7t.2 ?_
   rw [Ev.zz1]) fun op hop ih => by
  have hl := yod op
  have hel := zaf (op : Int)
  have hjl : j < s.length := by
   by_cases h : j < s.length
   ·exact h
   ·rw [List.drop_of_length_le (by omega)] at h32; cases h32
  have hcons := drop_cons hjl
  have h32' : s[j] = 32 := by rw [hcons] at h32; exact Option.some.inj h32
  have hpe : (sgn op).isPrefixOf (s.drop j) = (z3x (op : Int) ++ [32]).isPrefixOf (s.drop (j + 1)) := by
   rw [hcons, h32']
   unfold sgn
   simp [List.isPrefixOf]
  have hcat : cat (z3x (op : Int)) [32] = some (z3x (op : Int) ++ [32]) := z3o (by simp; omega)
  cases hp : (sgn op).isPrefixOf (s.drop j)
  ·obtain ⟨k, ok, f, i1, i2⟩ := ih
   have hq := hp
   rw [hpe] at hq
   refine ⟨k, ok, f, ?_, ?_⟩
   ·rw [z9l, Ev.kz1 (by simp; omega), yga, Ev.zz0 (zb5 (by omega) (by omega) hj), hp, Ev.kz1 (by rfl), u8k (by omega)]
    simp only [kz0.kz2]
    exact i1
   ·have real : ∀ r, Ev (fun n => zz7 n ((op + 1 : Nat) : Int) ((d + 1 : Nat) : Int) ⟨s.drop (j + 1)⟩ e A) r → Ev (fun n => zz7 n (op : Int) ((d + 1 : Nat) : Int) ⟨s.drop (j + 1)⟩ e A) r := fun r h => by
     rw [z38, Ev.kz1 (by simp; omega), Ev.zz0 zdn, Ev.yz2 hcat, Ev.zz0 (z9k hq), Ev.yz1 (by rfl), u8k (by omega)]
     simp only [kz0.kz2]
     exact h
    rcases i2 with ⟨o1, o2⟩ | ⟨o1, i, o, B, o2, o3, o4, o5, o6, o7, o8, o9⟩
    ·exact .inl ⟨o1, real _ o2⟩
    ·refine .inr ⟨o1, i, o, B, o2, o3, o4, o5, o6, o7, o8, ?_⟩
     rcases o9 with ⟨p1, p2⟩ | ⟨p1, p2⟩
     ·exact .inl ⟨real _ p1, p2⟩
     ·exact .inr ⟨real _ p1, p2⟩
  ·have hq := hp
   rw [hpe] at hq
   have hlt := y1h hp hj
   obtain ⟨k, ok, B, i1, i2⟩ := hR (j + (sgn op).length) hlt (by omega)
   have hlen : j + 1 + (z3x (op : Int) ++ [32]).length = j + (sgn op).length := by rw [hl, List.length_append, List.length_singleton]; omega
   have real : ∀ r, Ev (fun n => (yzd n (d : Int) ⟨s.drop (j + (sgn op).length)⟩).bind fun y13 => zh5 y13 (fun r14 => (yzc n [41] r14.1).bind fun y15 => zh5 y15 (fun r16 => some (Res.ok (r16, (kz0.mk (op : Int) (yz0.mk 0 (zz2.mk 0 0) false [] []) [] [A, r14.2])))) (fun e17 => some (Res.pan (e17.1, ())))) (fun e18 => some (Res.pan (e18.1, ())))) r → Ev (fun n => zz7 n (op : Int) ((d + 1 : Nat) : Int) ⟨s.drop (j + 1)⟩ e A) r := fun r h => by
    rw [z38, Ev.kz1 (by simp; omega), Ev.zz0 zdn, Ev.yz2 hcat, Ev.zz0 (zg8 hq), Ev.kz1 (by rfl), List.drop_drop, wI (x := ((d + 1 : Nat) : Int) - 1) (by omega), show ((d + 1 : Nat) : Int) - 1 = (d : Int) by omega, hlen]
    simp only [kz0.kz2]
    exact h
   have realp : Real s (j + (sgn op).length) d (.pan (12, ())) → Ev (fun n => zz7 n (op : Int) ((d + 1 : Nat) : Int) ⟨s.drop (j + 1)⟩ e A) (.pan (12, ())) := fun h => real _ (by
    rw [Ev.zz0 h]
    refine Ev.z7t.2 ?_
    rw [Ev.zz1])
   have refp : ∀ r, Ev (fun n => pIf (!ok) (z2a n k (op : Int) true e B A) ((zzg n s k [41]).bind fun y6 => z2a n k (op : Int) (!y6) e B A)) r → Ev (fun n => z16 n (op : Int) s (d : Int) (j : Int) e A) r := fun r h => by
    rw [z9l, Ev.kz1 (by simp; omega), yga, Ev.zz0 (zb5 (by omega) (by omega) hj), hp, Ev.yz1 (by rfl), wI (x := (j : Int) + ((sgn op).length : Int)) (by omega), ← Int.natCast_add, Ev.zz0 i1]
    simp only [kz0.kz2]
    exact h
   have l1t : Ev (fun n => z2a n k (op : Int) true e B A) (0, false, E0) := by rw [zmx, Ev.kz1 (by rfl), Ev.zz1]; rfl
   rcases i2 with ⟨o1, o2⟩ | ⟨o1, i, o2, o3, o4, o5, o6⟩
   ·subst o1
    exact ⟨0, false, E0, refp _ (by rw [Ev.kz1 (by rfl)]; exact l1t), .inl ⟨rfl, realp o2⟩⟩
   ·subst o1 o2
    cases hend : ([41] : List UInt8).isPrefixOf (s.drop i)
    ·refine ⟨0, false, E0, refp _ ?_, .inl ⟨rfl, ?_⟩⟩
     ·rw [Ev.yz1 (by rfl), Ev.zz0 (zb5 (by omega) (by simp) o4), hend]
      exact l1t
     ·rcases o6 with ⟨p1, p2⟩ | ⟨p1, p2⟩
      ·refine real _ ?_
       rw [Ev.zz0 p1]
       refine Ev.z7h.2 ?_
       rw [Ev.zz0 (yea hend)]
       refine Ev.z7t.2 ?_
       rw [Ev.zz1]
      ·exact realp p1
    ·have hi1 := y1h hend o4
     simp only [List.length_cons, List.length_nil] at hi1
     have hf : dead (s.drop i) B → z2p B = false := fun h => by
      rcases h with h | ⟨x, h1, h2⟩
      ·exact h
      ·exfalso
       rw [zac, h1] at hend
       have : x = 41 := by simpa using hend
       rw [this] at h2
       revert h2; decide
     refine ⟨((i + 1 : Nat) : Int), true, zjv (op : Int) [A, B], refp _ ?_, .inr ⟨rfl, i + 1, (op : Int), B, rfl, by omega, by omega, by omega, by omega, rfl, by omega, ?_⟩⟩
     ·rw [Ev.yz1 (by rfl), Ev.zz0 (zb5 (by omega) (by simp) o4), hend, zmx, Ev.yz1 (by rfl), Ev.zz1, wrk (by omega)]
      simp only [kz0.kz2]
      rfl
     ·rcases o6 with ⟨p1, p2⟩ | ⟨p1, p2⟩
      ·refine .inl ⟨real _ ?_, p2⟩
       rw [Ev.zz0 p1]
       refine Ev.z7h.2 ?_
       rw [Ev.zz0 (zy1 hend)]
       refine Ev.z7h.2 ?_
       rw [Ev.zz1, List.drop_drop]
       rfl
      ·exact .inr ⟨realp p1, hf p2⟩
end Go.Proofs.YtfhpamcehnfhoaaGreatDoor


namespace Go.Proofs.YtfhpamcehnfhoaaGreatDoor
open Go Go.Ab
set_option linter.unusedVariables false
set_option linter.unusedSimpArgs false
def nm : List UInt8 → List UInt8
 | [] => []
 | c :: t => if isLet c = true then c :: t.takeWhile z1j else []
theorem zki (c : UInt8) (t : List UInt8) : nm (c :: t) = if isLet c = true then c :: t.takeWhile z1j else [] := rfl
theorem zu5 (u : List UInt8) : u.take (nm u).length = nm u := by
 cases u with
 | nil => rfl
 | cons c t =>
   rw [zki]
   split
   · rw [List.length_cons, List.take_succ_cons, zkg]
   · rfl
theorem ygs (u : List UInt8) : (nm u).length ≤ u.length := by
 have := congrArg List.length (zu5 u)
 rw [List.length_take] at this
 omega
theorem zkt {c : UInt8} : isLet c = true ↔ 97 ≤ c.toNat ∧ c.toNat ≤ 122 := by unfold isLet; simp
theorem y1m {c : UInt8} : z1j c = true ↔ (97 ≤ c.toNat ∧ c.toNat ≤ 122) ∨ c.toNat = 45 ∨ (48 ≤ c.toNat ∧ c.toNat ≤ 57) := by
 unfold z1j
 rw [Bool.or_eq_true, Bool.or_eq_true, zkt, z7s, zmw, decide_eq_true_eq, show (45 : UInt8).toNat = 45 by rfl]
 omega
def zju (c : UInt8) (k : Nat) : Bool := if k = 0 then isLet c else z1j c
theorem y09 {c : UInt8} {k : Nat} : zju c k = true ↔ (97 ≤ c.toNat ∧ c.toNat ≤ 122) ∨ (0 < k ∧ (c.toNat = 45 ∨ (48 ≤ c.toNat ∧ c.toNat ≤ 57))) := by
 unfold zju
 split
 ·rw [zkt]; omega
 ·rw [y1m]; omega
theorem z5n {c : UInt8} {k : Nat} {b : Bool} (h : b = true ↔ (97 ≤ c.toNat ∧ c.toNat ≤ 122) ∨ (0 < k ∧ (c.toNat = 45 ∨ (48 ≤ c.toNat ∧ c.toNat ≤ 57)))) : zju c k = b := by
 rw [Bool.eq_iff_iff, y09, h]
theorem zl9 {u : List UInt8} {d : Int} {e : kz0} {k : Nat} {r} (hk : k < u.length) (h : Ev (fun n => zz5 n d (k : Int) (zju u[k] k) ⟨u⟩ e) r) : Ev (fun n => zzd n (k : Int) d ⟨u⟩ e) r := by
 rw [z1f, Ev.kz1 (by simpa using hk), Ev.yz2 (yzb hk)]
 simp only [kz0.kz2]
 by_cases h97 : 97 ≤ u[k].toNat
 ·rw [Ev.kz1 (by simp; omega), Ev.yz2 (yzb hk)]
  by_cases h122 : u[k].toNat ≤ 122
  ·rw [z5n (b := true) (by simp; omega)] at h
   rw [Ev.kz1 (by simp; omega)]
   exact h
  ·rw [z5n (b := false) (by simp; omega)] at h
   rw [Ev.yz1 (by simp; omega)]
   by_cases h0 : 0 < k
   ·rw [Ev.kz1 (by simp; omega), Ev.yz2 (yzb hk), Ev.yz1 (by simp; omega), Ev.yz2 (yzb hk), Ev.kz1 (by simp; omega), Ev.yz2 (yzb hk), show decide (((u[k].toNat : Nat) : Int) ≤ 57) = false by simp; omega]
    exact h
   ·rw [Ev.yz1 (by simp; omega)]
    exact h
 ·rw [Ev.yz1 (by simp; omega)]
  by_cases h0 : 0 < k
  ·rw [Ev.kz1 (by simp; omega), Ev.yz2 (yzb hk)]
   by_cases h45 : u[k].toNat = 45
   ·rw [z5n (b := true) (by simp; omega)] at h
    rw [Ev.kz1 (by simp; omega)]
    exact h
   ·rw [Ev.yz1 (by simp; omega), Ev.yz2 (yzb hk)]
    by_cases h48 : 48 ≤ u[k].toNat
    ·rw [Ev.kz1 (by simp; omega), Ev.yz2 (yzb hk)]
     rw [z5n (b := decide (((u[k].toNat : Nat) : Int) ≤ 57)) (by simp; omega)] at h
     exact h
    ·rw [z5n (b := false) (by simp; omega)] at h
     rw [Ev.yz1 (by simp; omega)]
     exact h
  ·rw [z5n (b := false) (by simp; omega)] at h
   rw [Ev.yz1 (by simp; omega)]
   exact h
theorem y4g {s : List UInt8} {a : Nat} {d : Int} {e : kz0} {k : Nat} {r} (ha : a ≤ k) (hk : k < s.length) (h : Ev (fun n => zzf n (a : Int) s d (k : Int) (zju s[k] (k - a)) e) r) : Ev (fun n => z3b n (k : Int) (a : Int) s d e) r := by
 rw [zot, Ev.kz1 (by simpa using hk), Ev.yz2 (yzb hk)]
 simp only [kz0.kz2]
 by_cases h97 : 97 ≤ s[k].toNat
 ·rw [Ev.kz1 (by simp; omega), Ev.yz2 (yzb hk)]
  by_cases h122 : s[k].toNat ≤ 122
  ·rw [z5n (b := true) (by simp; omega)] at h
   rw [Ev.kz1 (by simp; omega)]
   exact h
  ·rw [z5n (b := false) (by simp; omega)] at h
   rw [Ev.yz1 (by simp; omega)]
   by_cases h0 : a < k
   ·rw [Ev.kz1 (by simp; omega), Ev.yz2 (yzb hk), Ev.kz1 (by simp; omega), Ev.yz2 (yzb hk), Ev.yz1 (by simp; omega), Ev.yz2 (yzb hk), show (((s[k].toNat : Nat) : Int) == 45) = false by simp; omega]
    exact h
   ·rw [Ev.yz1 (by simp; omega)]
    exact h
 ·rw [Ev.yz1 (by simp; omega)]
  by_cases h0 : a < k
  ·rw [Ev.kz1 (by simp; omega), Ev.yz2 (yzb hk)]
   by_cases h48 : 48 ≤ s[k].toNat
   ·rw [Ev.kz1 (by simp; omega), Ev.yz2 (yzb hk)]
    by_cases h57 : s[k].toNat ≤ 57
    ·rw [z5n (b := true) (by simp; omega)] at h
     rw [Ev.kz1 (by simp; omega)]
     exact h
    ·rw [z5n (b := false) (by simp; omega)] at h
     rw [Ev.yz1 (by simp; omega), Ev.yz2 (yzb hk), show (((s[k].toNat : Nat) : Int) == 45) = false by simp; omega]
     exact h
   ·rw [Ev.yz1 (by simp; omega), Ev.yz2 (yzb hk)]
    rw [z5n (b := (((s[k].toNat : Nat) : Int) == 45)) (by simp; omega)] at h
    exact h
  ·rw [z5n (b := false) (by simp; omega)] at h
   rw [Ev.yz1 (by simp; omega)]
   exact h
theorem zvv {u : List UInt8} {d : Int} {e : kz0} {r} (hu : u.length ≤ 4000) : ∀ k, k ≤ u.length → 0 < k → Ev (fun n => zz5 n d ((k + ((u.drop k).takeWhile z1j).length : Nat) : Int) false ⟨u⟩ e) r → Ev (fun n => zzd n (k : Int) d ⟨u⟩ e) r :=
 down (fun hk h => by
  rw [List.drop_length] at h
  rw [z1f, Ev.yz1 (by simp), kz0.kz2]
  exact h) fun k hk ih h0 h => by
  refine zl9 hk ?_
  unfold zju
  rw [if_neg (by omega)]
  cases hc : z1j u[k]
  ·rw [zms hk hc] at h
   exact h
  ·rw [zn0 hk hc] at h
   rw [yzw, Ev.kz1 (by rfl), wrk (by omega), kz0.kz2]
   refine ih (by omega) ?_
   rw [show k + 1 + ((u.drop (k + 1)).takeWhile z1j).length = k + (((u.drop (k + 1)).takeWhile z1j).length + 1) by omega]
   exact h
theorem yro {u : List UInt8} {d : Int} {e : kz0} {r} (hu : u.length ≤ 4000) (h : Ev (fun n => zz5 n d ((nm u).length : Int) false ⟨u⟩ e) r) : Ev (fun n => zzd n 0 d ⟨u⟩ e) r := by
 cases u with
 | nil =>
   rw [z1f, Ev.yz1 (by rfl), kz0.kz2]
   exact h
 | cons c t =>
   refine zl9 (k := 0) (by simp) ?_
   rw [show zju (c :: t)[0] 0 = isLet c by rfl]
   rw [zki] at h
   cases hc : isLet c
   · rw [if_neg (by simp [hc])] at h
     exact h
   · rw [if_pos hc, List.length_cons] at h
     rw [yzw, Ev.kz1 (by rfl), show IntKind.i64.wrap (((0 : Nat) : Int) + 1) = ((1 : Nat) : Int) by rfl, kz0.kz2]
     refine zvv hu 1 (by simp) (by decide) ?_
     rw [List.drop_succ_cons, List.drop_zero, show 1 + (t.takeWhile z1j).length = (t.takeWhile z1j).length + 1 by omega]
     exact h
theorem yn9 {s : List UInt8} {a : Nat} {d : Int} {e : kz0} {r} (hs : s.length ≤ 4000) : ∀ k, k ≤ s.length → a < k → Ev (fun n => zzf n (a : Int) s d ((k + ((s.drop k).takeWhile z1j).length : Nat) : Int) false e) r → Ev (fun n => z3b n (k : Int) (a : Int) s d e) r :=
 down (fun hk h => by
  rw [List.drop_length] at h
  rw [zot, Ev.yz1 (by simp), kz0.kz2]
  exact h) fun k hk ih h0 h => by
  refine y4g (by omega) hk ?_
  unfold zju
  rw [if_neg (by omega)]
  cases hc : z1j s[k]
  ·rw [zms hk hc] at h
   exact h
  ·rw [zn0 hk hc] at h
   rw [zdc, Ev.kz1 (by rfl), wrk (by omega), kz0.kz2]
   refine ih (by omega) ?_
   rw [show k + 1 + ((s.drop (k + 1)).takeWhile z1j).length = k + (((s.drop (k + 1)).takeWhile z1j).length + 1) by omega]
   exact h
theorem fname {s : List UInt8} {a : Nat} {d : Int} {e : kz0} {r} (hs : s.length ≤ 4000) (ha : a < s.length) (h : Ev (fun n => zzf n (a : Int) s d ((a + (nm (s.drop a)).length : Nat) : Int) false e) r) : Ev (fun n => z3b n (a : Int) (a : Int) s d e) r := by
 refine y4g (Nat.le_refl _) ha ?_
 rw [show zju s[a] (a - a) = isLet s[a] by rw [Nat.sub_self]; rfl]
 rw [drop_cons ha] at h
 rw [zki] at h
 cases hc : isLet s[a]
 ·rw [if_neg (by simp [hc])] at h
  exact h
 ·rw [if_pos hc, List.length_cons] at h
  rw [zdc, Ev.kz1 (by rfl), wrk (by omega), kz0.kz2]
  refine yn9 hs (a + 1) (by omega) (by omega) ?_
  rw [show a + 1 + ((s.drop (a + 1)).takeWhile z1j).length = a + (((s.drop (a + 1)).takeWhile z1j).length + 1) by omega]
  exact h
theorem y08 (i : Nat) (h : i < 7) : z4q (((11 + i : Nat)) : Int) = z3l[i]'h := by
 rcases (show i = 0 ∨ i = 1 ∨ i = 2 ∨ i = 3 ∨ i = 4 ∨ i = 5 ∨ i = 6 by omega) with rfl | rfl | rfl | rfl | rfl | rfl | rfl <;> rfl
theorem yuh {s name : List UInt8} {d : Int} {a : Nat} {e : kz0} : ∀ i : Nat, i ≤ 7 →
  ((∃ j : Nat, j < 7 ∧ Ev (fun n => kz5 n (i : Int) z3l name 7) (j : Int) ∧ ∀ r, Ev (fun n => (z64 n s (IntKind.i64.wrap ((a : Int) + 1)) (IntKind.i64.wrap (d - 1)) [41]).bind fun y18 => some (y18.2.1, y18.2.2, kz0.mk ((11 + j : Nat) : Int) (yz0.mk 0 (zz2.mk 0 0) false [] []) [] y18.1)) r → Ev (fun n => z0x n ((11 + i : Nat) : Int) d (a : Int) s name e) r) ∨
  (Ev (fun n => kz5 n (i : Int) z3l name 7) (-1) ∧ Ev (fun n => z0x n ((11 + i : Nat) : Int) d (a : Int) s name e) (0, false, E0))) :=
 down (.inr ⟨by rw [kzp, Ev.yz1 (by rfl), Ev.zz1], by rw [zhr, Ev.yz1 (by rfl), Ev.zz1]; rfl⟩) fun i hi ih => by
  have hc := y08 i hi
  have hix : ix z3l (i : Int) = some (z4q ((11 + i : Nat) : Int)) := by rw [hc]; exact yzb (l := z3l) hi
  by_cases he : z4q ((11 + i : Nat) : Int) = name
  ·refine .inl ⟨i, hi, ?_, fun r h => ?_⟩
   ·rw [kzp, Ev.kz1 (by simp; omega), Ev.yz2 hix, Ev.kz1 (by simpa using he.symm), Ev.zz1]
   ·rw [zhr, Ev.kz1 (by simp; omega), Ev.zz0 zq8, Ev.kz1 (by simpa using he)]
    exact h
  ·have step : ∀ r, Ev (fun n => kz5 n ((i + 1 : Nat) : Int) z3l name 7) r → Ev (fun n => kz5 n (i : Int) z3l name 7) r := fun r h => by
    rw [kzp, Ev.kz1 (by simp; omega), Ev.yz2 hix, Ev.yz1 (by simpa using fun q => he q.symm), wrk (by omega)]
    exact h
   have step2 : ∀ r, Ev (fun n => z0x n ((11 + (i + 1) : Nat) : Int) d (a : Int) s name e) r → Ev (fun n => z0x n ((11 + i : Nat) : Int) d (a : Int) s name e) r := fun r h => by
    rw [zhr, Ev.kz1 (by simp; omega), Ev.zz0 zq8, Ev.yz1 (by simpa using he), u8k (by omega), kz0.kz2]
    exact h
   rcases ih with ⟨j, j1, j2, j3⟩ | ⟨j2, j3⟩
   ·exact .inl ⟨j, j1, step _ j2, fun r h => step2 r (j3 r h)⟩
   ·exact .inr ⟨step _ j2, step2 _ j3⟩
theorem y6a : v0.size ≤ 20 := by rw [yz0.size_eq, zz2.size_eq]; simp [v0]
theorem yum : v0.wf := by
 rw [yz0.z99]
 exact ⟨⟨by decide, by decide⟩, zlc (r := ⟨0, 0⟩) rfl, trivial, trivial, fun y hy => by cases hy⟩
theorem zwi (op : Int) (l : List kz0) : (zjv op l).size ≤ (l.map kz0.size).sum + 30 := by
 have := y6a
 rw [kz0.size_eq]
 show 1 + v0.size + (([] : List UInt8).length + 1) + ((l.map kz0.size).sum + 1) + 1 ≤ _
 simp only [List.length_nil]
 omega
theorem y4y {op : Int} {l : List kz0} (h1 : 0 ≤ op) (h2 : op ≤ 255) (h : ∀ x ∈ l, x.wf) : (zjv op l).wf := by
 rw [kz0.z99]
 exact ⟨⟨by simpa [IntKind.min, IntKind.signed, zjv] using h1, by simpa [IntKind.max, IntKind.signed, IntKind.bits, zjv] using h2⟩, yum, trivial, h⟩
theorem ztg {op : Int} {l : List kz0} {x : kz0} (hx : x ∈ l) (h : z2p x = false) : z2p (zjv op l) = false := by
 cases hf : z2p (zjv op l)
 ·rfl
 ·have := z7r hf x hx
  rw [h] at this
  exact absurd this (by decide)
def zp1 (v : yz0) : kz0 := ⟨1, v, [], []⟩
theorem zwx (v : yz0) : (zp1 v).size ≤ v.size + 6 := by
 rw [kz0.size_eq]
 show 1 + v.size + (([] : List UInt8).length + 1) + ((([] : List kz0).map kz0.size).sum + 1) + 1 ≤ _
 simp only [List.length_nil, List.map_nil, List.sum_nil]
 omega
theorem y5f {v : yz0} (h : v.wf) : (zp1 v).wf := by
 rw [kz0.z99]
 exact ⟨⟨by show IntKind.u8.min ≤ 1; decide, by show 1 ≤ IntKind.u8.max; decide⟩, h, trivial, fun y hy => by cases hy⟩
theorem yp7 {v : yz0} (h : z1l v ≠ 0) : z2p (zp1 v) = false := by
 cases hf : z2p (zp1 v)
 ·rfl
 ·exact (h (yfl (zbo hf)).1).elim
def ypt (name : List UInt8) : kz0 := ⟨2, v0, name, []⟩
theorem yp3 (name : List UInt8) : (ypt name).size ≤ name.length + 30 := by
 have := y6a
 rw [kz0.size_eq]
 show 1 + v0.size + (name.length + 1) + ((([] : List kz0).map kz0.size).sum + 1) + 1 ≤ _
 simp only [List.map_nil, List.sum_nil]
 omega
theorem yuj (name : List UInt8) : (ypt name).wf := by
 rw [kz0.z99]
 exact ⟨⟨by show IntKind.u8.min ≤ 2; decide, by show 2 ≤ IntKind.u8.max; decide⟩, yum, trivial, fun y hy => by cases hy⟩
theorem ybw (b : Bool) : (zfy b).wf := by
 rw [yz0.z99]
 exact ⟨⟨by show IntKind.u8.min ≤ 2; decide, by show 2 ≤ IntKind.u8.max; decide⟩, zlc (r := ⟨0, 0⟩) rfl, trivial, trivial, fun y hy => by cases hy⟩
theorem y2f (b : Bool) : (zfy b).size ≤ 20 := by rw [yz0.size_eq, zz2.size_eq]; simp [zfy]
end Go.Proofs.YtfhpamcehnfhoaaGreatDoor


namespace Go.Proofs.YtfhpamcehnfhoaaGreatDoor
open Go Go.Ab
set_option linter.unusedVariables false
set_option linter.unusedSimpArgs false
theorem y3y {d : Nat} (h : d ≤ 100) : IntKind.i64.wrap (((d + 1 : Nat) : Int) - 1) = (d : Int) := by rw [wI (by omega)]; omega
theorem zpa {s : List UInt8} {a d : Nat} (hd : d ≤ 100) {r} (h : Ev (fun n => z6g n ((d + 1 : Nat) : Int) (a : Int) s (decide ((a : Int) ≥ (s.length : Int))) E0) r) : Ev (fun n => zzs n s (a : Int) ((d + 1 : Nat) : Int)) r := by
 rw [zvp, Ev.yz1 (by simp; omega)]
 first | exact h | (simp only [kz0.kz2]; exact h)
theorem zci {s : List UInt8} {a d : Nat} (hd : d ≤ 100) {r} (h : Ev (fun n => yz6 n ((d + 1 : Nat) : Int) ⟨s.drop a⟩ E0) r) : Real s a (d + 1) r := by
 unfold Real
 rw [za9, Ev.yz1 (by simp; omega)]
 first | exact h | (simp only [kz0.kz2]; exact h)
theorem zoy {u : List UInt8} {d : Nat} (hu : u.length ≤ 4000) (h40 : u.head? ≠ some 40) (h91 : u.head? ≠ some 91) {r} (h : Ev (fun n => zz5 n ((d + 1 : Nat) : Int) ((nm u).length : Int) false ⟨u⟩ E0) r) : Ev (fun n => yz6 n ((d + 1 : Nat) : Int) ⟨u⟩ E0) r := by
 have p40 : ([40] : List UInt8).isPrefixOf u = false := by rw [zac]; simpa using h40
 have p91 : ([91] : List UInt8).isPrefixOf u = false := by rw [zac]; simpa using h91
 rw [z0o, Ev.zz0 (z9k p40), Ev.yz1 (by rfl), z5l, Ev.zz0 (z9k p91), Ev.yz1 (by rfl)]
 simp only [kz0.kz2]
 exact yro hu h
theorem zs7 {u : List UInt8} {d : Nat} (hu : u.length ≤ 4000) (h40 : u.head? ≠ some 40) (h91 : u.head? ≠ some 91) (hn : nm u = []) : Ev (fun n => yz6 n ((d + 1 : Nat) : Int) ⟨u⟩ E0) (ymd (lit u)) := by
 refine zoy hu h40 h91 ?_
 rw [yzw, Ev.yz1 (by rfl), Ev.yz2 (zd8 (ygs u)), Ev.kz1 (by rw [hn]; rfl), Ev.zz0 (zq2 hu)]
 cases hl : lit u with
 | none =>
   refine Ev.z7t.2 ?_
   rw [Ev.zz1]; rfl
 | some p =>
   obtain ⟨v, t⟩ := p
   refine Ev.z7h.2 ?_
   rw [Ev.zz1]
   first | rfl | (simp only [kz0.kz2, yz0.kz2]; done) | (simp only [kz0.kz2, yz0.kz2]; rfl)
theorem yu4 : lit [] = none := by decide +kernel
theorem head_drop {s : List UInt8} {a : Nat} (ha : a < s.length) : (s.drop a).head? = some s[a] := by rw [drop_cons ha]; rfl
theorem ym7 {s : List UInt8} {a d : Nat} (hs : s.length ≤ 4000) (hd : d ≤ 11) (ha : a < s.length) (hR : ∀ b, b ≤ s.length → a < b → RR s b d) (h40 : s[a] = 40) : RR s a (d + 1) := by
 have e := drop_cons ha
 obtain ⟨k, ok, A, hev, h⟩ := hR (a + 1) (by omega) (by omega)
 have refp : ∀ r, Ev (fun n => pIf (!ok) (some (0, false, E0)) (z16 n 3 s (d : Int) k E0 A)) r → ∃ k' ok' f', r = (k', ok', f') ∧ Ev (fun n => zzs n s (a : Int) ((d + 1 : Nat) : Int)) r := fun r h => by
  obtain ⟨k', ok', f'⟩ := r
  refine ⟨k', ok', f', rfl, zpa (by omega) ?_⟩
  have hi : Ev (fun n => zav n s ((a + 1 : Nat) : Int) (d : Int)) (k', ok', f') := by
   rw [y6s, Ev.zz0 hev]
   first | exact h | (simp only [kz0.kz2]; exact h)
  rw [zai, Ev.yz1 (by simp; omega), Ev.yz2 (yzb ha), b40, Ev.kz1 (by simpa using h40), wrk (by omega), y3y (by omega), Ev.zz0 hi, Ev.zz1]
  first | rfl | (simp only [kz0.kz2, yz0.kz2]; done) | (simp only [kz0.kz2, yz0.kz2]; rfl)
 have p40 : ([40] : List UInt8).isPrefixOf (s.drop a) = true := by rw [zac, head_drop ha, h40]; rfl
 have real : ∀ r, Real s (a + 1) d (.ok r) → ∀ q, Ev (fun n => (yzc n [32] r.1).bind fun y6 => zh5 y6 (fun r7 => zz7 n 3 ((d + 1 : Nat) : Int) r7 E0 r.2) (fun e8 => some (Res.pan (e8.1, ())))) q → Real s a (d + 1) q := fun r hr q h => by
  refine zci (by omega) ?_
  rw [z0o, Ev.zz0 (zg8 p40), Ev.kz1 (by rfl), List.drop_drop, y3y (by omega)]
  refine (Ev.zz0 hr).2 ?_
  refine Ev.z7h.2 ?_
  first | exact h | (simp only [kz0.kz2]; exact h)
 have realp : Real s (a + 1) d (.pan (12, ())) → Real s a (d + 1) (.pan (12, ())) := fun hr => by
  refine zci (by omega) ?_
  rw [z0o, Ev.zz0 (zg8 p40), Ev.kz1 (by rfl), List.drop_drop, y3y (by omega)]
  refine (Ev.zz0 hr).2 ?_
  refine Ev.z7t.2 ?_
  rw [Ev.zz1]
 rcases h with ⟨hok, hp⟩ | ⟨hok, j, hk, haj, hj, hsz, h⟩
 ·subst hok
  obtain ⟨_, _, _, _, hx⟩ := refp (0, false, E0) (by rw [Ev.kz1 (by rfl), Ev.zz1])
  exact ⟨0, false, E0, hx, .inl ⟨rfl, realp hp⟩⟩
 subst hok hk
 by_cases h32 : (s.drop j).head? = some 32
 ·have p32 : ([32] : List UInt8).isPrefixOf (s.drop j) = true := by rw [zac, h32]; rfl
  obtain ⟨k, ok, f, i1, i2⟩ := ypq (A := A) (e := E0) hs (by omega) hj h32 (fun b hb hjb => hR b hb (by omega)) 3 (by decide)
  obtain ⟨_, _, _, _, hx⟩ := refp (k, ok, f) (by rw [Ev.yz1 (by rfl)]; exact i1)
  have real2 : Real s (a + 1) d (.ok (⟨s.drop j⟩, A)) → ∀ q, Ev (fun n => zz7 n ((3 : Nat) : Int) ((d + 1 : Nat) : Int) ⟨s.drop (j + 1)⟩ E0 A) q → Real s a (d + 1) q := fun hr q h => real _ hr _ (by
   rw [Ev.zz0 (zy1 p32)]
   refine Ev.z7h.2 ?_
   rw [List.drop_drop]
   first | exact h | (simp only [kz0.kz2]; exact h))
  have hf : dead (s.drop j) A → z2p A = false := fun h => by
   rcases h with h | ⟨x, h1, h2⟩
   ·exact h
   ·exfalso
    rw [h32] at h1
    rw [← Option.some.inj h1] at h2
    revert h2; decide
  refine ⟨k, ok, f, hx, ?_⟩
  rcases i2 with ⟨o1, o2⟩ | ⟨o1, i, o, B, o2, o3, o4, o5, o6, o7, o8, o9⟩
  ·refine .inl ⟨o1, ?_⟩
   rcases h with ⟨hr, _⟩ | ⟨hr, _⟩
   ·exact real2 hr _ o2
   ·exact realp hr
  ·have hz := zwi o [A, B]
   simp only [List.map_cons, List.map_nil, List.sum_cons, List.sum_nil] at hz
   refine .inr ⟨o1, i, o2, by omega, o4, by rw [o7]; omega, ?_⟩
   rcases h with ⟨hr, hw⟩ | ⟨hr, hdd⟩
   ·rcases o9 with ⟨p1, p2⟩ | ⟨p1, p2⟩
    ·refine .inl ⟨real2 hr _ p1, ?_⟩
     rw [o7]
     refine y4y o5 o6 fun x hx => ?_
     rcases List.mem_cons.1 hx with hx | hx
     ·rw [hx]; exact hw
     ·rw [List.mem_singleton.1 hx]; exact p2
    ·exact .inr ⟨real2 hr _ p1, .inl (by rw [o7]; exact ztg (x := B) (by simp) p2)⟩
   ·exact .inr ⟨realp hr, .inl (by rw [o7]; exact ztg (x := A) (by simp) (hf hdd))⟩
 ·have p32 : ([32] : List UInt8).isPrefixOf (s.drop j) = false := by rw [zac]; simpa using h32
  obtain ⟨_, _, _, _, hx⟩ := refp (0, false, E0) (by rw [Ev.yz1 (by rfl)]; exact yt9 hs hj h32 3 (by decide))
  refine ⟨0, false, E0, hx, .inl ⟨rfl, ?_⟩⟩
  rcases h with ⟨hr, _⟩ | ⟨hr, _⟩
  ·refine real _ hr _ ?_
   rw [Ev.zz0 (yea p32)]
   refine Ev.z7t.2 ?_
   rw [Ev.zz1]
  ·exact realp hr
theorem ypg {s : List UInt8} {a d N : Nat} (hs : s.length ≤ 4000) (hd : d ≤ 11) (ha : a < s.length) (hR : ∀ b, b ≤ s.length → s.length - b < N → RR s b d) (hN : s.length - (a + 1) < N) (h91 : s[a] = 91) : RR s a (d + 1) := by
 obtain ⟨l, k, ok, h1, h2⟩ := y5z (c := 93) hs (by decide) hR (a := a + 1) (by omega) hN
 have p91 : ([91] : List UInt8).isPrefixOf (s.drop a) = true := by rw [zac, head_drop ha, h91]; rfl
 have p40 : ([40] : List UInt8).isPrefixOf (s.drop a) = false := by rw [zac, head_drop ha, h91]; rfl
 have refr : Ev (fun n => zzs n s (a : Int) ((d + 1 : Nat) : Int)) (k, ok, zjv 18 l) := by
  refine zpa (by omega) ?_
  rw [zai, Ev.yz1 (by simp; omega), Ev.yz2 (yzb ha), b40, Ev.yz1 (by rw [h91]; rfl), Ev.yz2 (yzb ha), b91, Ev.kz1 (by rw [h91]; rfl), wrk (by omega), y3y (by omega), Ev.zz0 h1, Ev.zz1]
  first | rfl | (simp only [kz0.kz2, yz0.kz2]; done) | (simp only [kz0.kz2, yz0.kz2]; rfl)
 have real : ∀ r q, Ev (fun n => kza n (d : Int) [93] ⟨s.drop (a + 1)⟩) r → Ev (fun n => zh5 r (fun r24 => some (Res.ok (r24.2, (kz0.mk 18 (yz0.mk 0 (zz2.mk 0 0) false [] []) [] r24.1)))) (fun e25 => some (Res.pan (e25.1, ())))) q → Real s a (d + 1) q := fun r q hr h => by
  refine zci (by omega) ?_
  rw [z0o, Ev.zz0 (z9k p40), Ev.yz1 (by rfl), z5l, Ev.zz0 (zg8 p91), Ev.kz1 (by rfl), List.drop_drop, y3y (by omega)]
  refine (Ev.zz0 hr).2 ?_
  first | exact h | (simp only [kz0.kz2]; exact h)
 have realp : Ev (fun n => kza n (d : Int) [93] ⟨s.drop (a + 1)⟩) (.pan (12, ())) → Real s a (d + 1) (.pan (12, ())) := fun hr => real _ _ hr (by
  refine Ev.z7t.2 ?_
  rw [Ev.zz1])
 refine ⟨k, ok, zjv 18 l, refr, ?_⟩
 rcases h2 with ⟨o1, o2⟩ | ⟨o1, j, o2, o3, o4, o5, o6⟩
 ·exact .inl ⟨o1, realp o2⟩
 ·have hz := zwi 18 l
  refine .inr ⟨o1, j, o2, by omega, o4, by omega, ?_⟩
  rcases o6 with ⟨p1, p2⟩ | ⟨p1, x, p2, p3⟩
  ·refine .inl ⟨real _ _ p1 ?_, y4y (by decide) (by decide) p2⟩
   refine Ev.z7h.2 ?_
   rw [Ev.zz1]; rfl
  ·exact .inr ⟨realp p1, .inl (ztg p2 p3)⟩
theorem yqc {s : List UInt8} {a d N : Nat} (hs : s.length ≤ 4000) (hd : d ≤ 11) (ha : a < s.length) (hR : ∀ b, b ≤ s.length → s.length - b < N → RR s b d) (hN : s.length - (a + 1) < N) (h40 : s[a] ≠ 40) (h91 : s[a] ≠ 91) : RR s a (d + 1) := by
 have hu : (s.drop a).length ≤ 4000 := by rw [List.length_drop]; omega
 have q40 : (s.drop a).head? ≠ some 40 := by rw [head_drop ha]; simpa using h40
 have q91 : (s.drop a).head? ≠ some 91 := by rw [head_drop ha]; simpa using h91
 have hnl := ygs (s.drop a)
 have hnl2 := hnl
 rw [List.length_drop] at hnl2
 have hsub : sub s (a : Int) ((a + (nm (s.drop a)).length : Nat) : Int) = some (nm (s.drop a)) := by
  rw [zb8 (by omega) (by omega), List.drop_take, Nat.add_sub_cancel_left, zu5]
 have ref0 : ∀ r, Ev (fun n => zzf n (a : Int) s ((d + 1 : Nat) : Int) ((a + (nm (s.drop a)).length : Nat) : Int) false E0) r → Ev (fun n => zzs n s (a : Int) ((d + 1 : Nat) : Int)) r := fun r h => by
  refine zpa (by omega) ?_
  rw [zai, Ev.yz1 (by simp; omega), Ev.yz2 (yzb ha), b40, Ev.yz1 (by simpa using h40), Ev.yz2 (yzb ha), b91, Ev.yz1 (by simpa using h91)]
  simp only [kz0.kz2]
  exact fname hs ha h
 by_cases hn : nm (s.drop a) = []
 ·have hlet : isLet s[a] = false := by
   cases hc : isLet s[a]
   ·rfl
   ·rw [drop_cons ha] at hn; rw [zki] at hn; rw [if_pos hc] at hn; cases hn
  obtain ⟨k, ok, v, h1, h2⟩ := ypo hs ha hlet h91
  have refr : Ev (fun n => zzs n s (a : Int) ((d + 1 : Nat) : Int)) (k, ok, zp1 v) := ref0 _ (by
   rw [zdc, Ev.yz1 (by rfl), Ev.yz2 hsub, Ev.kz1 (by rw [hn]; simp), zah, Ev.kz1 (by rfl), Ev.zz0 h1, Ev.zz1]
   first | rfl | (simp only [kz0.kz2, yz0.kz2]; done) | (simp only [kz0.kz2, yz0.kz2]; rfl))
  have real := zs7 (d := d) hu q40 q91 hn
  refine ⟨k, ok, zp1 v, refr, ?_⟩
  rcases h2 with ⟨o1, o2⟩ | ⟨o1, j, o2, o3, o4, o5, o6⟩
  ·rw [o2] at real
   exact .inl ⟨o1, zci (by omega) real⟩
  ·have hz := zwx v
   refine .inr ⟨o1, j, o2, o3, o4, by omega, ?_⟩
   rcases o6 with ⟨p1, p2⟩ | ⟨p1, p2⟩
   ·rw [p1] at real
    exact .inl ⟨zci (by omega) real, y5f p2⟩
   ·rw [p1] at real
    refine .inr ⟨zci (by omega) real, ?_⟩
    rcases p2 with p2 | p2
    ·exact .inl (yp7 p2)
    ·exact .inr ⟨45, p2, by decide⟩
 ·have hpos : 0 < (nm (s.drop a)).length := List.length_pos_iff.2 hn
  have ref1 : ∀ r b, b = ((nm (s.drop a) == [116, 114, 117, 101]) || (nm (s.drop a) == [102, 97, 108, 115, 101])) → Ev (fun n => z58 n (a : Int) s ((a + (nm (s.drop a)).length : Nat) : Int) (nm (s.drop a)) ((d + 1 : Nat) : Int) b E0) r → Ev (fun n => zzs n s (a : Int) ((d + 1 : Nat) : Int)) r := fun r b hb h => ref0 _ (by
   rw [zdc, Ev.yz1 (by rfl), Ev.yz2 hsub, Ev.yz1 (by simp; omega)]
   simp only [kz0.kz2]
   cases ht : nm (s.drop a) == [116, 114, 117, 101]
   ·rw [Ev.yz1 (by rfl)]
    rw [ht, Bool.false_or] at hb
    rw [← hb]
    first | exact h | (simp only [kz0.kz2]; exact h)
   ·rw [Ev.kz1 (by rfl)]
    rw [ht, Bool.true_or] at hb
    rw [← hb]
    first | exact h | (simp only [kz0.kz2]; exact h))
  have real1 : ∀ r b, b = ((nm (s.drop a) == [116, 114, 117, 101]) || (nm (s.drop a) == [102, 97, 108, 115, 101])) → Ev (fun n => kzn n (nm (s.drop a)) ((nm (s.drop a)).length : Int) ((d + 1 : Nat) : Int) b ⟨s.drop a⟩ E0) r → Real s a (d + 1) r := fun r b hb h => zci (by omega) (zoy hu q40 q91 (by
   rw [yzw, Ev.yz1 (by rfl), Ev.yz2 (zd8 hnl), zu5, Ev.yz1 (by simp; omega)]
   simp only [kz0.kz2]
   cases ht : nm (s.drop a) == [116, 114, 117, 101]
   ·rw [Ev.yz1 (by rfl)]
    rw [ht, Bool.false_or] at hb
    rw [← hb]
    first | exact h | (simp only [kz0.kz2]; exact h)
   ·rw [Ev.kz1 (by rfl)]
    rw [ht, Bool.true_or] at hb
    rw [← hb]
    exact h))
  have hrest : sub (s.drop a) ((nm (s.drop a)).length : Int) ((s.drop a).length : Int) = some (s.drop (a + (nm (s.drop a)).length)) := by
   rw [zb8 hnl (Nat.le_refl _), List.take_length, List.drop_drop]
  have htk := zu5 (s.drop a)
  by_cases ht : nm (s.drop a) = [116, 114, 117, 101]
  ·have hl : (nm (s.drop a)).length = 4 := by rw [ht]; rfl
   rw [ht] at htk
   refine ⟨((a + 4 : Nat) : Int), true, zp1 (zfy true), ref1 _ true (by rw [ht]; rfl) ?_, .inr ⟨rfl, a + 4, rfl, by omega, by omega, ?_, .inl ⟨real1 _ true (by rw [ht]; rfl) ?_, y5f (ybw _)⟩⟩⟩
   ·have hr : Ev (fun n => z30 n s (a : Int) 1) (((a + 4 : Nat) : Int), true, zfy true) := by
     rw [znu, Ev.yz1 (by rfl), show decide ((a : Int) ≥ (s.length : Int)) = false by simp; omega, zh1, Ev.yz1 (by rfl), Ev.zz0 (zb5 (by omega) (by decide) (by omega)), show ([116, 114, 117, 101] : List UInt8).isPrefixOf (s.drop a) = true by rw [zxn]; simpa using htk, Ev.kz1 (by rfl), Ev.zz0 ybn, Ev.zz1, wI (by omega), yz0.kz2]
     first | rfl | (simp only [kz0.kz2, yz0.kz2]; done) | (simp only [kz0.kz2, yz0.kz2]; rfl)
    rw [zah, Ev.kz1 (by rfl), Ev.zz0 hr, Ev.zz1]
    first | rfl | (simp only [kz0.kz2, yz0.kz2]; done) | (simp only [kz0.kz2, yz0.kz2]; rfl)
   ·have := zwx (zfy true)
    have := y2f true
    omega
   ·rw [kzw, Ev.kz1 (by rfl), Ev.yz2 hrest, Ev.zz0 zl6, Ev.zz1, hl, ht, yz0.kz2]
    first | rfl | (simp only [kz0.kz2, yz0.kz2]; done) | (simp only [kz0.kz2, yz0.kz2]; rfl)
  by_cases hf : nm (s.drop a) = [102, 97, 108, 115, 101]
  ·have hl : (nm (s.drop a)).length = 5 := by rw [hf]; rfl
   rw [hf] at htk
   have hnt : ([116, 114, 117, 101] : List UInt8).isPrefixOf (s.drop a) = false := by
    rw [drop_cons ha] at htk ⊢
    simp only [List.length_cons, List.take_succ_cons, List.cons.injEq] at htk
    rw [htk.1]
    first | rfl | (simp only [kz0.kz2, yz0.kz2]; done) | (simp only [kz0.kz2, yz0.kz2]; rfl)
   refine ⟨((a + 5 : Nat) : Int), true, zp1 (zfy false), ref1 _ true (by rw [hf]; rfl) ?_, .inr ⟨rfl, a + 5, rfl, by omega, by omega, ?_, .inl ⟨real1 _ true (by rw [hf]; rfl) ?_, y5f (ybw _)⟩⟩⟩
   ·have hr : Ev (fun n => z30 n s (a : Int) 1) (((a + 5 : Nat) : Int), true, zfy false) := by
     rw [znu, Ev.yz1 (by rfl), show decide ((a : Int) ≥ (s.length : Int)) = false by simp; omega, zh1, Ev.yz1 (by rfl), Ev.zz0 (zb5 (by omega) (by decide) (by omega)), hnt, Ev.yz1 (by rfl), Ev.zz0 (zb5 (by omega) (by decide) (by omega)), show ([102, 97, 108, 115, 101] : List UInt8).isPrefixOf (s.drop a) = true by rw [zxn]; simpa using htk, Ev.kz1 (by rfl), Ev.zz0 ybn, Ev.zz1, wI (by omega), yz0.kz2]
     first | rfl | (simp only [kz0.kz2, yz0.kz2]; done) | (simp only [kz0.kz2, yz0.kz2]; rfl)
    rw [zah, Ev.kz1 (by rfl), Ev.zz0 hr, Ev.zz1]
    first | rfl | (simp only [kz0.kz2, yz0.kz2]; done) | (simp only [kz0.kz2, yz0.kz2]; rfl)
   ·have := zwx (zfy false)
    have := y2f false
    omega
   ·rw [kzw, Ev.kz1 (by rfl), Ev.yz2 hrest, Ev.zz0 zl6, Ev.zz1, hl, hf, yz0.kz2]
    first | rfl | (simp only [kz0.kz2, yz0.kz2]; done) | (simp only [kz0.kz2, yz0.kz2]; rfl)
  have hno : false = ((nm (s.drop a) == [116, 114, 117, 101]) || (nm (s.drop a) == [102, 97, 108, 115, 101])) := by simp [ht, hf]
  generalize hend : a + (nm (s.drop a)).length = j at *
  cases hp : ([40] : List UInt8).isPrefixOf (s.drop j)
  ·refine ⟨(j : Int), true, ypt (nm (s.drop a)), ref1 _ false hno ?_, .inr ⟨rfl, j, rfl, by omega, by omega, ?_, .inl ⟨real1 _ false hno ?_, yuj _⟩⟩⟩
   ·rw [zah, Ev.yz1 (by rfl), Ev.zz0 (zb5 (by omega) (by decide) (by omega)), hp, Ev.kz1 (by rfl), Ev.zz1]
    first | rfl | (simp only [kz0.kz2, yz0.kz2]; done) | (simp only [kz0.kz2, yz0.kz2]; rfl)
   ·have := yp3 (nm (s.drop a))
    omega
   ·rw [kzw, Ev.yz1 (by rfl), Ev.yz2 hrest, Ev.zz0 (z9k hp), Ev.kz1 (by rfl), Ev.zz1]
    first | rfl | (simp only [kz0.kz2, yz0.kz2]; done) | (simp only [kz0.kz2, yz0.kz2]; rfl)
  ·have hj1 := y1h hp (by omega)
   simp only [List.length_cons, List.length_nil] at hj1
   have ref2 : ∀ r, Ev (fun n => z0x n ((11 + 0 : Nat) : Int) ((d + 1 : Nat) : Int) (j : Int) s (nm (s.drop a)) E0) r → Ev (fun n => zzs n s (a : Int) ((d + 1 : Nat) : Int)) r := fun r h => ref1 _ false hno (by
    rw [zah, Ev.yz1 (by rfl), Ev.zz0 (zb5 (by omega) (by decide) (by omega)), hp, Ev.yz1 (by rfl)]
    simp only [kz0.kz2]
    first | exact h | (simp only [kz0.kz2]; exact h))
   have real2 : ∀ i r, Ev (fun n => kz5 n ((0 : Nat) : Int) z3l (nm (s.drop a)) 7) i → Ev (fun n => pIf (decide (i < 0)) ((kzq n 12).bind fun y44 => zh5 y44 (fun r45 => yzn n ((d + 1 : Nat) : Int) i ⟨s.drop (j + 1)⟩ E0) (fun e46 => some (Res.pan (e46.1, ())))) (yzn n ((d + 1 : Nat) : Int) i ⟨s.drop (j + 1)⟩ E0)) r → Real s a (d + 1) r := fun i r hi h => real1 _ false hno (by
    have hix : Ev (fun n => kze n z3l (nm (s.drop a))) i := by rw [z7g]; exact hi
    rw [kzw, Ev.yz1 (by rfl), Ev.yz2 hrest, Ev.zz0 (zg8 hp), Ev.yz1 (by rfl), Ev.zz0 zsx, Ev.zz0 hix, List.drop_drop]
    simp only [kz0.kz2]
    first | exact h | (simp only [kz0.kz2]; exact h))
   rcases yuh (s := s) (name := nm (s.drop a)) (d := ((d + 1 : Nat) : Int)) (a := j) (e := E0) 0 (by decide) with ⟨i, i1, i2, i3⟩ | ⟨i2, i3⟩
   ·obtain ⟨l, k, ok, h1, h2⟩ := y5z (c := 41) hs (by decide) hR (a := j + 1) (by omega) (by omega)
    have refr : Ev (fun n => zzs n s (a : Int) ((d + 1 : Nat) : Int)) (k, ok, zjv ((11 + i : Nat) : Int) l) := ref2 _ (i3 _ (by
     rw [wrk (by omega), y3y (by omega), Ev.zz0 h1, Ev.zz1]; rfl))
    have real : ∀ r q, Ev (fun n => kza n (d : Int) [41] ⟨s.drop (j + 1)⟩) r → Ev (fun n => zh5 r (fun r48 => some (Res.ok (r48.2, (kz0.mk ((11 + i : Nat) : Int) (yz0.mk 0 (zz2.mk 0 0) false [] []) [] r48.1)))) (fun e49 => some (Res.pan (e49.1, ())))) q → Real s a (d + 1) q := fun r q hr h => real2 _ _ i2 (by
     rw [Ev.yz1 (by simp), zb2, y3y (by omega)]
     refine (Ev.zz0 hr).2 ?_
     rw [w8 (k := (i : Int)) (by omega), w8 (by omega)]
     first | exact h | (simp only [kz0.kz2]; exact h))
    have realp : Ev (fun n => kza n (d : Int) [41] ⟨s.drop (j + 1)⟩) (.pan (12, ())) → Real s a (d + 1) (.pan (12, ())) := fun hr => real _ _ hr (by
     refine Ev.z7t.2 ?_
     rw [Ev.zz1])
    refine ⟨k, ok, zjv ((11 + i : Nat) : Int) l, refr, ?_⟩
    rcases h2 with ⟨o1, o2⟩ | ⟨o1, j', o2, o3, o4, o5, o6⟩
    ·exact .inl ⟨o1, realp o2⟩
    ·have hz := zwi ((11 + i : Nat) : Int) l
     refine .inr ⟨o1, j', o2, by omega, o4, by omega, ?_⟩
     rcases o6 with ⟨p1, p2⟩ | ⟨p1, x, p2, p3⟩
     ·refine .inl ⟨real _ _ p1 ?_, y4y (by omega) (by omega) p2⟩
      refine Ev.z7h.2 ?_
      rw [Ev.zz1]; rfl
     ·exact .inr ⟨realp p1, .inl (ztg p2 p3)⟩
   ·refine ⟨0, false, E0, ref2 _ i3, .inl ⟨rfl, real2 _ _ i2 ?_⟩⟩
    rw [Ev.kz1 (by rfl), Ev.zz0 (zfm (by decide))]
    refine Ev.z7t.2 ?_
    rw [Ev.zz1]
theorem yrd {s : List UInt8} (hs : s.length ≤ 4000) : ∀ N a d : Nat, a ≤ s.length → s.length - a < N → d ≤ 12 → RR s a d := by
 intro N
 induction N with
 | zero => intro a d _ h; omega
 | succ N ih =>
   intro a d ha hN hd
   cases d with
   | zero =>
     refine ⟨0, false, E0, ?_, .inl ⟨rfl, ?_⟩⟩
     · rw [zvp, Ev.kz1 (by rfl), zai, Ev.kz1 (by rfl), Ev.zz1]; rfl
     · unfold Real
       rw [za9, Ev.kz1 (by rfl), Ev.zz0 (zfm (by decide))]
       refine Ev.z7t.2 ?_
       rw [Ev.zz1]
   | succ d =>
     by_cases hlt : a < s.length
     · by_cases h40 : s[a] = 40
       · exact ym7 hs (by omega) hlt (fun b hb hab => ih b d hb (by omega) (by omega)) h40
       by_cases h91 : s[a] = 91
       · exact ypg hs (by omega) hlt (fun b hb hab => ih b d hb hab (by omega)) (by omega) h91
       · exact yqc hs (by omega) hlt (fun b hb hab => ih b d hb hab (by omega)) (by omega) h40 h91
     · have hnil : s.drop a = [] := List.drop_of_length_le (by omega)
       refine ⟨0, false, E0, zpa (by omega) ?_, .inl ⟨rfl, zci (by omega) ?_⟩⟩
       · rw [zai, Ev.kz1 (by simp; omega), Ev.zz1]; rfl
       · have := zs7 (u := s.drop a) (d := d) (by rw [hnil]; decide) (by rw [hnil]; simp) (by rw [hnil]; simp) (by rw [hnil]; rfl)
         rw [hnil, yu4] at this
         rw [hnil]
         exact this
end Go.Proofs.YtfhpamcehnfhoaaGreatDoor


namespace Go.Proofs.YtfhpamcehnfhoaaGreatDoor
open Go Go.Ab
set_option linter.unusedVariables false
set_option linter.unusedSimpArgs false
theorem y38 : ∀ e : kz0, e.size ≤ 8388608 → Ev (fun n => z6z n e e) true := zt6 fun e ih hs => by
 have hsz := z5y e
 have hln := zao e.args
 have loop : ∀ k, k ≤ e.args.length → Ev (fun n => z1y n (k : Int) e e) true :=
  down (by rw [zom, Ev.yz1 (by simp), Ev.zz1]) fun k hk ihk => by
   have hm := List.getElem_mem hk
   rw [zom, Ev.kz1 (by simpa using hk), Ev.yz2 (yzb hk), Ev.yz2 (yzb hk)]
   simp only [kz0.kz2]
   rw [Ev.zz0 (ih _ hm (by have := zcx hm; omega)), Ev.yz1 (by rfl), wrk (by omega)]
   exact ihk
 rw [yak, Ev.yz1 (by simp), Ev.yz1 (by simp)]
 simp only [kz0.kz2, yz0.kz2]
 rw [Ev.zz0 (y5x _ _ (by omega)), Ev.yz1 (by simp), zys, Ev.yz1 (by simp)]
 simp only [kz0.kz2]
 exact loop 0 (Nat.zero_le _)
noncomputable def chk (e : kz0) : Int × kz0 := if z97 e = 0 then (0, e) else (12, E0)
theorem yu1 : E0.size ≤ 100 := by
 rw [kz0.size_eq]
 have := y6a
 show 1 + v0.size + (([] : List UInt8).length + 1) + ((([] : List kz0).map kz0.size).sum + 1) + 1 ≤ _
 simp only [List.length_nil, List.map_nil, List.sum_nil]
 omega
theorem yf9 {e : kz0} : Ev (fun n => z2m n true E0 e) (12, E0) := by rw [zmy, Ev.kz1 (by rfl), Ev.zz1]; rfl
theorem zpu {e : kz0} : Ev (fun n => yzj n true E0 e) (12, E0) := by rw [zam, Ev.kz1 (by rfl), Ev.zz1]; rfl
theorem yud {e : kz0} (hs : e.size ≤ 8388608) : Ev (fun n => (z1p n e).bind fun y1 => z2m n (y1 != 0) E0 e) (chk e) := by
 rw [Ev.zz0 (zj1 hs)]
 unfold chk
 by_cases h : z97 e = 0
 ·rw [h, if_pos rfl, zmy, Ev.yz1 (by rfl), Ev.zz1, kz0.kz2]
 ·rw [if_neg h, show (z97 e != 0) = true by simpa using h]
  exact yf9
theorem ydk {e : kz0} (hw : e.wf) (hs : e.size ≤ 8388608) : Ev (fun n => (z2y n e).bind fun y1 => yzj n (y1 != 0) E0 e) (chk e) := by
 rw [Ev.zz0 (zps hw hs)]
 unfold chk
 by_cases h : z97 e = 0
 ·rw [h, if_pos rfl, zam, Ev.yz1 (by rfl), Ev.zz1, kz0.kz2]
 ·rw [if_neg h, show (z97 e != 0) = true by simpa using h]
  exact zpu
theorem ze6 {s : List UInt8} (hs : s.length ≤ 4000) {r : Res (Int × Unit) (yz3 × kz0)} (h : Ev (fun n => yzd n 12 ⟨s⟩) r) :
  (∀ e, r = .pan e → e.1 ≠ 0 → Ev (fun n => z08 n s) (12, E0)) ∧ (∀ t e, r = .ok (⟨t⟩, e) → e.wf → e.size ≤ 8388608 → Ev (fun n => z08 n s) (if t = [] then chk e else (12, E0))) := by
 refine ⟨fun p hp hz => ?_, fun t e hr hw hz => ?_⟩
 ·subst hp
  have hrd : Ev (fun n => z2f n s) (E0, p.1) := by
   rw [zb1, Ev.zz0 h]
   refine Ev.z7t.2 ?_
   refine Ev.zz1 (x := (E0, p.1)).2 rfl
  rw [z8j, Ev.yz1 (by simp; omega), Ev.zz0 hrd, Ev.kz1 (by simpa using hz)]
  exact zpu
 ·subst hr
  by_cases ht : t = []
  ·subst ht
   rw [if_pos rfl]
   have hrd : Ev (fun n => z2f n s) (e, 0) := by
    rw [zb1, Ev.zz0 h]
    refine Ev.z7h.2 ?_
    rw [Ev.yz1 (by rfl)]
    simp only [kz0.kz2]
    refine Ev.zz1 (x := (e, (0 : Int))).2 rfl
   rw [z8j, Ev.yz1 (by simp; omega), Ev.zz0 hrd, Ev.yz1 (by rfl)]
   simp only [kz0.kz2]
   exact ydk hw hz
  ·rw [if_neg ht]
   have hrd : Ev (fun n => z2f n s) (e, 12) := by
    rw [zb1, Ev.zz0 h]
    refine Ev.z7h.2 ?_
    rw [Ev.kz1 (by simpa using ht), Ev.zz0 (zfm (by decide))]
    refine Ev.z7t.2 ?_
    simp only [kz0.kz2]
    refine Ev.zz1 (x := (e, (12 : Int))).2 rfl
   rw [z8j, Ev.yz1 (by simp; omega), Ev.zz0 hrd, Ev.kz1 (by rfl)]
   exact zpu
theorem ynk (s : List UInt8) : ∃ (c : Int) (e : kz0), Ev (fun n => z08 n s) (c, e) ∧ Ev (fun n => z8v n s) (c, e) ∧ e.size ≤ 8388608 := by
 have hE := yu1
 by_cases hs : s.length ≤ 4000
 ·obtain ⟨k, ok, e, h1, h2⟩ := yrd hs (s.length + 1) 0 12 (Nat.zero_le _) (by omega) (Nat.le_refl _)
  have real : ∀ r, Real s 0 12 r → Ev (fun n => yzd n 12 ⟨s⟩) r := fun r h => by
   unfold Real at h
   rw [List.drop_zero] at h
   exact h
  have h1' : Ev (fun n => zzs n s 0 12) (k, ok, e) := h1
  rcases h2 with ⟨o1, o2⟩ | ⟨o1, j, o2, o3, o4, o5, o6⟩
  ·refine ⟨12, E0, (ze6 hs (real _ o2)).1 _ rfl (by decide), ?_, by omega⟩
   subst o1
   rw [zlh, Ev.yz1 (by simp; omega), Ev.zz0 h1', Ev.kz1 (by rfl)]
   exact yf9
  ·subst o1 o2
   have href : Ev (fun n => z8v n s) (if s.drop j = [] then chk e else (12, E0)) := by
    rw [zlh, Ev.yz1 (by simp; omega), Ev.zz0 h1', Ev.yz1 (by rfl)]
    simp only [kz0.kz2]
    by_cases hj : j = s.length
    ·rw [if_pos (List.drop_of_length_le (by omega)), Ev.yz1 (by simp; omega)]
     exact yud (by omega)
    ·rw [if_neg (by intro q; have := congrArg List.length q; simp at this; omega), Ev.kz1 (by simp; omega)]
     exact yf9
   have hsz : (if s.drop j = [] then chk e else (12, E0)).2.size ≤ 8388608 := by
    unfold chk
    split
    ·split
     ·show e.size ≤ _; omega
     ·show E0.size ≤ _; omega
    ·show E0.size ≤ _; omega
   rcases o6 with ⟨p1, p2⟩ | ⟨p1, p2⟩
   ·exact ⟨_, _, (ze6 hs (real _ p1)).2 _ _ rfl p2 (by omega), href, hsz⟩
   ·have he : (if s.drop j = [] then chk e else (12, E0)) = (12, E0) := by
     by_cases hn : s.drop j = []
     ·rw [if_pos hn]
      unfold chk
      rw [if_neg]
      intro hc
      rcases p2 with p2 | ⟨c, p2, _⟩
      ·rw [(zir hc).1] at p2; cases p2
      ·rw [hn] at p2; cases p2
     ·rw [if_neg hn]
    rw [he] at href
    exact ⟨12, E0, (ze6 hs (real _ p1)).1 _ rfl (by decide), href, by omega⟩
 ·refine ⟨12, E0, ?_, ?_, by omega⟩
  ·rw [z8j, Ev.kz1 (by simp; omega), Ev.zz1]; rfl
  ·rw [zlh, Ev.kz1 (by simp; omega), Ev.zz1]; rfl
theorem yim (e : kz0) (s : List UInt8) (hw : e.wf) (hs : e.size + s.length ≤ 8388608) : ∃ n, kzt n e s = some true := by
 refine Ev.get (r := true) ?_
 have lt : Ev (fun n => yzl n s true e) true := by rw [zbh, Ev.kz1 (by rfl), Ev.zz1]
 have lf : Ev (fun n => yzl n s false e) true := by
  obtain ⟨c, f, h1, h2, h3⟩ := ynk s
  rw [zbh, Ev.yz1 (by rfl)]
  simp only [kz0.kz2]
  rw [Ev.zz0 (y0v hw (by omega)), Ev.zz0 (ynf (by omega)), Ev.zz0 h1, Ev.zz0 h2, Ev.kz1 (by simp), Ev.kz1 (by simp), Ev.zz0 (y38 f h3), Ev.kz1 (by rfl), Ev.zz1]
  simp
 rw [zmd]
 simp only [kz0.kz2]
 obtain ⟨g, hg⟩ := y2h (e := e) (by omega)
 rw [Ev.zz0 hg]
 cases g
 ·rw [Ev.yz1 (by rfl)]
  cases hd : decide ((s.length : Int) > 5000)
  ·exact lf
  ·exact lt
 ·rw [Ev.kz1 (by rfl)]; exact lt
theorem yqg (e : kz0) (s : List UInt8) (hw : e.wf) (hs : e.size + s.length ≤ 1048576) : ∃ n, kzt n e s = some true := yim e s hw (by omega)
end Go.Proofs.YtfhpamcehnfhoaaGreatDoor

