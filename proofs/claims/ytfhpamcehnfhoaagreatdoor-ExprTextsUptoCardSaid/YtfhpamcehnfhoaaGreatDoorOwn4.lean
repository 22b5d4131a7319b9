/-
  READING RATIOS: THE PROGRAM AND THE REFERENCE.
-/
import Derived.Test.YtfhpamcehnfhoaaGreatDoorOwn3
namespace Go.Proofs.YtfhpamcehnfhoaaGreatDoor
open Go Go.Ab
set_option linter.unusedVariables false
set_option linter.unusedSimpArgs false
theorem yv8 (s : List UInt8) : 0 ≤ (zrg s).1 ∧ (zrg s).1 < 10000000000 := by
 unfold zrg
 split
 ·exact ⟨by decide, by decide⟩
 ·rename_i h
  split
  ·rename_i ha
   have := ysb s 0 0 ha (by decide)
   have hp := zxy (k := 0 + s.length) (by omega)
   have : val 0 s < 10000000000 := by omega
   exact ⟨Int.natCast_nonneg _, by show ((val 0 s : Nat) : Int) < _; omega⟩
  ·exact ⟨by decide, by decide⟩
theorem ysa {w : List UInt8} {b : Bool} {q r : zz2} (h : b = false → rok r = true) : ∃ c r', Ev (fun n => z19 n w b q r) (c, r') ∧ (c = 12 ∨ c = 0 ∧ rok r' = true ∧ z1q r' = w) := by
 cases b
 ·have hr := h rfl
  by_cases ht : z1q r = w
  ·refine ⟨0, r, ?_, .inr ⟨rfl, hr, ht⟩⟩
   rw [z9s, Ev.yz1 (by rfl), Ev.zz0 (zh8 hr), Ev.yz1 (by simpa using ht), Ev.zz1]
  ·refine ⟨12, ⟨0, 0⟩, ?_, .inl rfl⟩
   rw [z9s, Ev.yz1 (by rfl), Ev.zz0 (zh8 hr), Ev.kz1 (by simpa using ht), Ev.zz1]
 ·exact ⟨12, ⟨0, 0⟩, by rw [z9s, Ev.kz1 (by rfl), Ev.zz1], .inl rfl⟩
theorem yup {w : List UInt8} {b1 b2 : Bool} {y x : Int} {q : zz2} (hx : I64 x) : ∃ c r', Ev (fun n => z17 n w b1 b2 y x q) (c, r') ∧ (c = 12 ∨ c = 0 ∧ rok r' = true ∧ z1q r' = w) := by
 cases b2
 ·obtain ⟨c, r', h1, h2⟩ := ysa (w := w) (b := true) (q := q) (r := ⟨x, y⟩) (fun h => by cases h)
  exact ⟨c, r', by rw [z9k, Ev.kz1 (by rfl)]; exact h1, h2⟩
 cases b1
 ·obtain ⟨c, r', h1, h2⟩ := ysa (w := w) (b := true) (q := q) (r := ⟨x, y⟩) (fun h => by cases h)
  exact ⟨c, r', by rw [z9k, Ev.yz1 (by rfl), Ev.kz1 (by rfl)]; exact h1, h2⟩
 have hc := zf8 (r := ⟨x, y⟩) hx
 obtain ⟨c, r', h1, h2⟩ := ysa (w := w) (b := ((if rok ⟨x, y⟩ then 0 else 8 : Int) != 0)) (q := q) (r := ⟨x, y⟩) (fun h => by
  by_cases hr : rok ⟨x, y⟩ = true
  ·exact hr
  ·rw [if_neg hr] at h; cases h)
 exact ⟨c, r', by rw [z9k, Ev.yz1 (by rfl), Ev.yz1 (by rfl), Ev.zz0 hc]; exact h1, h2⟩
theorem ya5 {s p : List UInt8} : (if p.isPrefixOf s then s.drop p.length else s).length ≤ s.length := by split <;> simp
theorem y2w {w : List UInt8} (hl : w.length ≤ 1000000) : ∃ c r, Ev (fun n => z1o n w) (c, r) ∧ (c = 12 ∨ c = 0 ∧ rok r = true ∧ z1q r = w) := by
 have hcl := ya5 (s := w) (p := [45])
 have hb := yv8
 have l0 : ∀ (b : Bool) (d m : List UInt8) (q : zz2), ∃ c r, Ev (fun n => z1a n w b d m q) (c, r) ∧ (c = 12 ∨ c = 0 ∧ rok r = true ∧ z1q r = w) := fun b d m q => by
  have hm := hb m
  cases b
  ·obtain ⟨c, r', h1, h2⟩ := yup (w := w) (b1 := (zrg d).2) (b2 := (zrg m).2) (y := (zrg d).1) (x := (zrg m).1) (q := q) (by unfold I64; omega)
   exact ⟨c, r', by rw [zbz, Ev.zz0 zdr, Ev.zz0 zdr, Ev.yz1 (by rfl)]; exact h1, h2⟩
  ·obtain ⟨c, r', h1, h2⟩ := yup (w := w) (b1 := (zrg d).2) (b2 := (zrg m).2) (y := (zrg d).1) (x := IntKind.i64.wrap (0 - (zrg m).1)) (q := q) (by rw [wI (by omega)]; unfold I64; omega)
   exact ⟨c, r', by rw [zbz, Ev.zz0 zdr, Ev.zz0 zdr, Ev.kz1 (by rfl)]; exact h1, h2⟩
 cases hh : (cutAt 47 (if ([45] : List UInt8).isPrefixOf w then w.drop ([45] : List UInt8).length else w)).2.2
 ·obtain ⟨c, r', h1, h2⟩ := l0 (([45] : List UInt8).isPrefixOf w) [49] (cutAt 47 (if ([45] : List UInt8).isPrefixOf w then w.drop ([45] : List UInt8).length else w)).1 ⟨0, 0⟩
  exact ⟨c, r', by rw [zgc, Ev.zz0 zop, Ev.zz0 (ytd (Nat.le_trans hcl hl)), Ev.kz1 (by rw [hh]; rfl)]; exact h1, h2⟩
 ·obtain ⟨c, r', h1, h2⟩ := l0 (([45] : List UInt8).isPrefixOf w) (cutAt 47 (if ([45] : List UInt8).isPrefixOf w then w.drop ([45] : List UInt8).length else w)).2.1 (cutAt 47 (if ([45] : List UInt8).isPrefixOf w then w.drop ([45] : List UInt8).length else w)).1 ⟨0, 0⟩
  exact ⟨c, r', by rw [zgc, Ev.zz0 zop, Ev.zz0 (ytd (Nat.le_trans hcl hl)), Ev.yz1 (by rw [hh]; rfl)]; exact h1, h2⟩
theorem zrf {c : UInt8} (h : z7t c = true) : c ≠ 47 ∧ c ≠ 45 := by
 have := z7r.1 h
 constructor <;> (intro e; subst e; simp at this)
theorem yvb {d t : List UInt8} (h : d.all z7t = true) : (d ++ 47 :: t).takeWhile (· != 47) = d ∧ (d ++ 47 :: t).dropWhile (· != 47) = 47 :: t := by
 induction d with
 | nil => simp
 | cons c d ih =>
   simp only [List.all_cons, Bool.and_eq_true] at h
   have hc := (zrf h.1).1
   obtain ⟨i1, i2⟩ := ih h.2
   simp only [List.cons_append, List.takeWhile_cons, List.dropWhile_cons]
   have : (c != 47) = true := by simpa using hc
   rw [this]
   exact ⟨by simp only [if_true]; rw [i1], by simp only [if_true]; exact i2⟩
theorem ytq {d t : List UInt8} (h : d.all z7t = true) : cutAt 47 (d ++ 47 :: t) = (d, t, true) := by
 obtain ⟨h1, h2⟩ := yvb (t := t) h
 unfold cutAt
 rw [h1, h2]
 simp
theorem yqp {d : List UInt8} (h : d.all z7t = true) : cutAt 47 d = (d, [], false) := by
 refine ymv ?_
 rw [List.any_eq_false]
 intro c hc
 have := (zrf (List.all_eq_true.1 h c hc)).1
 simpa using this
def zp0 (r : zz2) : List UInt8 := if r.den = 1 then Lib.decDigits r.num.natAbs else Lib.decDigits r.num.natAbs ++ 47 :: Lib.decDigits r.den.natAbs
theorem zo7 {x : Int} (h : 0 ≤ x) : Lib.itoa x = Lib.decDigits x.natAbs := by
 unfold Lib.itoa; rw [if_neg (by omega)]; congr 1; omega
theorem zli {r : zz2} (h : rok r = true) : z1q r = if r.num < 0 then 45 :: zp0 r else zp0 r := by
 obtain ⟨h1, h2, h3⟩ := zxv h
 unfold z1q zp0
 rw [zo7 (x := r.den) (by omega)]
 by_cases hn : r.num < 0
 ·rw [if_pos hn, show Lib.itoa r.num = 45 :: Lib.decDigits r.num.natAbs by unfold Lib.itoa; rw [if_pos hn]]
  split <;> simp
 ·rw [if_neg hn, zo7 (by omega)]
theorem y5t (r : zz2) : ∃ c t, zp0 r = c :: t ∧ z7t c = true := by
 have ha := zel r.num.natAbs
 have hn := zt3 r.num.natAbs
 unfold zp0
 cases hd : Lib.decDigits r.num.natAbs with
 | nil => exact (hn hd).elim
 | cons c t =>
   rw [hd] at ha
   simp only [List.all_cons, Bool.and_eq_true] at ha
   split
   · exact ⟨c, t, rfl, ha.1⟩
   · exact ⟨c, _, rfl, ha.1⟩
theorem y1j {r : zz2} (h : rok r = true) : Ev (fun n => z1o n (z1q r)) (0, r) := by
 obtain ⟨h1, h2, h3⟩ := zxv h
 obtain ⟨c, t, hb, hc⟩ := y5t r
 have hlen := zks h
 have hbl : (zp0 r).length ≤ 1000000 := by
  have := congrArg List.length (zli h)
  split at this
  ·rw [List.length_cons] at this; omega
  ·omega
 have hck := zf8 (r := r) (by unfold I64; omega)
 rw [if_pos h] at hck
 have l1 : Ev (fun n => z17 n (z1q r) true true r.den r.num ⟨0, 0⟩) (0, r) := by
  rw [z9k, Ev.yz1 (by rfl), Ev.yz1 (by rfl)]
  rw [Ev.zz0 (show Ev (fun n => z1r n (zz2.mk r.num r.den)) 0 from hck), z9s, Ev.yz1 (by rfl), Ev.zz0 (show Ev (fun n => z4k n (zz2.mk r.num r.den)) (z1q r, 0) from zh8 h), Ev.yz1 (by simp), Ev.zz1]
 have hdn := yiu (u := r.num.natAbs) (by omega)
 have l0 : ∀ d, zrg d = (r.den, true) → Ev (fun n => z1a n (z1q r) (decide (r.num < 0)) d (Lib.decDigits r.num.natAbs) ⟨0, 0⟩) (0, r) := fun d hd => by
  rw [zbz, Ev.zz0 zdr, Ev.zz0 zdr, hd, hdn]
  by_cases hn : r.num < 0
  ·rw [Ev.kz1 (by simpa using hn), wI (by omega), show (0 : Int) - ((r.num.natAbs : Nat) : Int) = r.num by omega]
   exact l1
  ·rw [Ev.yz1 (by simpa using hn), show ((r.num.natAbs : Nat) : Int) = r.num by omega]
   exact l1
 have hpre : (if ([45] : List UInt8).isPrefixOf (z1q r) then (z1q r).drop ([45] : List UInt8).length else z1q r, ([45] : List UInt8).isPrefixOf (z1q r)) = (zp0 r, decide (r.num < 0)) := by
  rw [zli h]
  by_cases hn : r.num < 0
  ·rw [if_pos hn]
   simp [List.isPrefixOf, hn]
  ·rw [if_neg hn, hb]
   have : (45 == c) = false := by
    have := (zrf hc).2
    rw [beq_eq_false_iff_ne]; exact fun e => this e.symm
   simp [List.isPrefixOf, this, hn]
 have hcp : Ev (fun n => yzy n (z1q r) [45]) (zp0 r, decide (r.num < 0)) := by rw [← hpre]; exact zop
 rw [zgc, Ev.zz0 hcp, Ev.zz0 (ytd hbl)]
 unfold zp0
 by_cases hd : r.den = 1
 ·rw [if_pos hd, yqp (zel _), Ev.kz1 (by rfl)]
  exact l0 [49] (by rw [hd]; decide)
 ·rw [if_neg hd, ytq (zel _), Ev.yz1 (by rfl)]
  exact l0 _ (by rw [yiu (by omega)]; congr 1; omega)
theorem y2q {w : List UInt8} (hl : w.length ≤ 1000000) : ∃ c r, Ev (fun n => z1o n w) (c, r) ∧ ((c = 0 ∧ rok r = true ∧ z1q r = w) ∨ (c = 12 ∧ ∀ r', rok r' = true → z1q r' ≠ w)) := by
 obtain ⟨c, r, h1, h2⟩ := y2w hl
 refine ⟨c, r, h1, ?_⟩
 rcases h2 with rfl | h2
 ·refine .inr ⟨rfl, fun r' hr' hw => ?_⟩
  have := y1j hr'
  rw [hw] at this
  have := congrArg Prod.fst (Ev.det h1 this)
  simp at this
 ·exact .inl h2
end Go.Proofs.YtfhpamcehnfhoaaGreatDoor


namespace Go.Proofs.YtfhpamcehnfhoaaGreatDoor
open Go Go.Ab
set_option linter.unusedVariables false
set_option linter.unusedSimpArgs false
def y0o (s : List UInt8) (f : Nat) (x : Nat) : Int × Bool := ((if f = 1 then -(x : Int) else (x : Int)), decide (f < s.length) && (Lib.itoa (if f = 1 then -(x : Int) else (x : Int)) == s))
theorem y7o {s : List UInt8} {f x : Nat} (hf : f ≤ 1) (hx : x < 10000000000) : Ev (fun n => if decide (((f : Nat) : Int) = 1) then z1i n s (IntKind.i64.wrap (0 - (x : Int))) (f : Int) else z1i n s (x : Int) (f : Int)) (y0o s f x) := by
 have l4 : ∀ v : Int, -10000000000 < v ∧ v < 10000000000 → Ev (fun n => z1i n s v (f : Int)) (v, decide (f < s.length) && (Lib.itoa v == s)) := fun v hv => by
  rw [zws]
  by_cases h : f < s.length
  ·rw [Ev.kz1 (by simp; omega), Ev.zz0 (zig (by omega)), Ev.zz1]; simp [h]
  ·rw [Ev.yz1 (by simp; omega), Ev.zz1]; simp [h]
 unfold y0o
 by_cases h : f = 1
 ·subst h
  simp only [if_pos rfl]
  rw [show IntKind.i64.wrap (0 - (x : Int)) = -(x : Int) by rw [wI (by omega)]; omega]
  exact l4 _ (by omega)
 ·have : f = 0 := by omega
  subst this
  exact l4 _ (by omega)
theorem yiq {s : List UInt8} {f : Nat} (hf : f ≤ 1) (hs : s.length ≤ 1000000) : ∀ i, i ≤ s.length → f ≤ i → i ≤ f + 10 → ∀ a : Nat, a < 10 ^ (i - f) →
  Ev (fun n => z54 n (i : Int) s (a : Int) (f : Int)) (if (s.drop i).all z7t = true ∧ s.length ≤ f + 10 then y0o s f (val a (s.drop i)) else (0, false)) :=
 down (fun h1 h2 a ha => by
  have hp := zxy (k := s.length - f) (by omega)
  rw [zlz, Ev.yz1 (by simp), List.drop_length, y4a, if_pos ⟨rfl, by omega⟩]
  have := y7o (s := s) hf (x := a) (by omega)
  by_cases h : f = 1
  ·subst h
   rw [Ev.kz1 (by rfl)]
   exact this
  ·have : f = 0 := by omega
   subst this
   rw [Ev.yz1 (by rfl)]
   exact y7o (s := s) hf (x := a) (by omega)) fun i hi ih h1 h2 a ha => by
  have hp := zxy (k := i - f) (by omega)
  have hd : s.drop i = s[i] :: s.drop (i + 1) := (List.getElem_cons_drop (h := hi)).symm
  have bad : (z7t s[i] = false ∨ f + 10 < s.length) → Ev (fun n => z2s n s (f : Int) (i : Int) (a : Int) true) (if (s.drop i).all z7t = true ∧ s.length ≤ f + 10 then y0o s f (val a (s.drop i)) else (0, false)) := fun hb => by
   rw [zl9, Ev.kz1 (by rfl), Ev.zz1, if_neg]
   rintro ⟨q1, q2⟩
   rw [hd] at q1
   simp only [List.all_cons, Bool.and_eq_true] at q1
   rcases hb with hb | hb
   ·rw [q1.1] at hb; cases hb
   ·omega
  rw [zlz, Ev.kz1 (by simpa using hi), Ev.yz2 (yzb hi)]
  by_cases h48 : s[i].toNat < 48
  ·rw [Ev.kz1 (by simp; omega)]
   exact bad (.inl (by cases h : z7t s[i]; rfl; have := z7r.1 h; omega))
  rw [Ev.yz1 (by simp; omega), Ev.yz2 (yzb hi)]
  by_cases h57 : 57 < s[i].toNat
  ·rw [Ev.kz1 (by simp; omega)]
   exact bad (.inl (by cases h : z7t s[i]; rfl; have := z7r.1 h; omega))
  rw [Ev.yz1 (by simp; omega), wI (x := (f : Int) + 9) (by omega)]
  by_cases hten : f + 10 ≤ i
  ·rw [show decide ((i : Int) > (f : Int) + 9) = true by simp; omega]
   exact bad (.inr (by omega))
  ·have hdig : z7t s[i] = true := z7r.2 (by omega)
   rw [show decide ((i : Int) > (f : Int) + 9) = false by simp; omega, zl9, Ev.yz1 (by rfl), Ev.yz2 (yzb hi), w8 (by omega), wI (x := (s[i].toNat : Int) - 48) (by omega), wI (x := 10 * (a : Int)) (by omega), wrk (k := i) (by omega), wI (by omega)]
   have := ih (by omega) (by omega) (10 * a + (s[i].toNat - 48)) (by rw [show i + 1 - f = (i - f) + 1 by omega, Nat.pow_succ]; omega)
   rw [show ((10 * a + (s[i].toNat - 48) : Nat) : Int) = 10 * (a : Int) + ((s[i].toNat : Int) - 48) by omega] at this
   refine this.to ?_
   rw [hd]
   simp only [List.all_cons, hdig, Bool.true_and, zyb]
def zaz (s : List UInt8) : Nat := if s.head? = some 45 then 1 else 0
def zcw (s : List UInt8) : Int × Bool := if (s.drop (zaz s)).all z7t = true ∧ s.length ≤ zaz s + 10 then y0o s (zaz s) (val 0 (s.drop (zaz s))) else (0, false)
theorem zxk {s : List UInt8} (hs : s.length ≤ 1000000) : Ev (fun n => z81 n s) (zcw s) := by
 have hle : zaz s ≤ 1 := by unfold zaz; split <;> decide
 have hls : zaz s ≤ s.length := by
  unfold zaz
  cases s with
  | nil => simp
  | cons c t => split <;> simp
 have l2 := yiq (s := s) hle hs (zaz s) hls (Nat.le_refl _) (by omega) 0 (by rw [Nat.sub_self]; decide)
 have l0 : ∀ b, (b = true ↔ s.head? = some 45) → Ev (fun n => z52 n s 0 0 b) (zcw s) := fun b hb => by
  unfold zcw
  rw [zwi]
  cases b
  ·have : zaz s = 0 := by unfold zaz; rw [if_neg fun h => by have := hb.2 h; cases this]
   rw [this] at l2 ⊢
   rw [Ev.yz1 (by rfl), zlo]
   exact l2
  ·have : zaz s = 1 := by unfold zaz; rw [if_pos (hb.1 rfl)]
   rw [this] at l2 ⊢
   rw [Ev.kz1 (by rfl), zlo]
   exact l2
 rw [y3u]
 cases s with
 | nil => rw [Ev.yz1 (by rfl)]; exact l0 false (by simp)
 | cons c t =>
   rw [Ev.kz1 (by simp), Ev.yz2 (show ix (c :: t) 0 = some c by rfl), b45]
   exact l0 _ (by simp)
theorem zla {s : List UInt8} (h : (zcw s).2 = true) : Lib.itoa (zcw s).1 = s := by
 unfold zcw at h ⊢
 split at h
 ·rename_i hc
  rw [if_pos hc]
  unfold y0o at h ⊢
  simp only [Bool.and_eq_true, beq_iff_eq] at h
  exact h.2
 ·cases h
theorem zi7 {x : Int} (h : -1000000000 ≤ x ∧ x ≤ 1000000000) : zcw (Lib.itoa x) = (x, true) := by
 have hl := Lib.decDigits_length x.natAbs
 have h2 := ynz 9 x.natAbs (by omega)
 have h1 := Lib.nDigits_pos x.natAbs
 have ha := zel x.natAbs
 by_cases hn : x < 0
 ·have e : Lib.itoa x = 45 :: Lib.decDigits x.natAbs := by unfold Lib.itoa; rw [if_pos hn]
  have hs : zaz (45 :: Lib.decDigits x.natAbs) = 1 := by simp [zaz]
  unfold zcw
  rw [e, hs]
  simp only [List.drop_succ_cons, List.drop_zero]
  rw [if_pos ⟨ha, by rw [List.length_cons]; omega⟩, zxm]
  unfold y0o
  simp only [if_pos]
  rw [show -((x.natAbs : Nat) : Int) = x by omega, e]
  simp
  exact List.length_pos_iff.2 (zt3 _)
 ·have e : Lib.itoa x = Lib.decDigits x.natAbs := zo7 (by omega)
  obtain ⟨c, t, hd⟩ : ∃ c t, Lib.decDigits x.natAbs = c :: t := by
   cases hq : Lib.decDigits x.natAbs with
   | nil => exact (zt3 _ hq).elim
   | cons c t => exact ⟨c, t, rfl⟩
  have hs : zaz (Lib.decDigits x.natAbs) = 0 := by
   unfold zaz
   rw [if_neg]
   rw [hd] at ha ⊢
   simp only [List.all_cons, Bool.and_eq_true] at ha
   intro he
   exact (zrf ha.1).2 (Option.some.inj he)
  unfold zcw
  rw [e, hs]
  simp only [List.drop_zero]
  rw [if_pos ⟨ha, by omega⟩, zxm]
  unfold y0o
  rw [if_neg (by decide), show ((x.natAbs : Nat) : Int) = x by omega, e]
  simp
  exact List.length_pos_iff.2 (zt3 _)
theorem yrv {r q : zz2} : Ev (fun n => z5r n q r) (if rok r then (0, r) else (12, ⟨0, 0⟩)) := by
 rw [zxn, Ev.zz0 zml]
 cases hr : rok r
 ·rw [Ev.kz1 (by rfl), Ev.zz1]; rfl
 ·rw [Ev.yz1 (by rfl), Ev.zz1]; rfl
def z25 (w : List UInt8) : Int × zz2 :=
 let p := (w.takeWhile (· != 47)).length
 let a := zcw (w.take p)
 let b := zcw (w.drop (p + 1))
 if a.2 = false then (12, ⟨0, 0⟩) else if p < w.length then (if b.2 = false ∨ b.1 = 1 then (12, ⟨0, 0⟩) else if rok ⟨a.1, b.1⟩ then (0, ⟨a.1, b.1⟩) else (12, ⟨0, 0⟩)) else if rok ⟨a.1, 1⟩ then (0, ⟨a.1, 1⟩) else (12, ⟨0, 0⟩)
theorem yro : ∀ (w : List UInt8) (k : Nat) (h : k < w.length), k < (w.takeWhile (· != 47)).length → w[k] ≠ 47
 | [], k, h, _ => by simp at h
 | c :: w, k, h, hk => by
   rw [List.takeWhile_cons] at hk
   split at hk
   · rename_i hc
     cases k with
     | zero => simpa using hc
     | succ k => exact yro w k (by simpa using h) (by simpa using hk)
   · simp at hk
theorem ybu : ∀ (w : List UInt8) (h : (w.takeWhile (· != 47)).length < w.length), w[(w.takeWhile (· != 47)).length] = 47
 | [], h => by simp at h
 | c :: w, h => by
   by_cases hc : c = 47
   · subst hc; rfl
   · have e : (c :: w).takeWhile (· != 47) = c :: w.takeWhile (· != 47) := by rw [List.takeWhile_cons, if_pos (by simpa using hc)]
     simp only [e, List.length_cons, List.getElem_cons_succ]
     exact ybu w (by rw [e] at h; simpa using h)
theorem yoq (w : List UInt8) : (w.takeWhile (· != 47)).length ≤ w.length := (List.takeWhile_prefix _).length_le
theorem yf7 {w : List UInt8} (hl : w.length ≤ 1000000) : Ev (fun n => zal n w) (z25 w) := by
 have hp := yoq w
 have l1 : Ev (fun n => z5q n w ((w.takeWhile (· != 47)).length : Int) false ⟨0, 0⟩) (z25 w) := by
  unfold z25
  generalize hq : (w.takeWhile (· != 47)).length = p at hp
  rw [zmv, Ev.yz1 (by rfl), Ev.yz2 (zd7 hp), Ev.zz0 (zxk (by simp; omega))]
  cases ha : (zcw (w.take p)).2
  ·rw [Ev.kz1 (by rfl), Ev.zz1]; simp [ha]
  ·rw [Ev.yz1 (by rfl)]
   simp only [ha, Bool.true_eq_false, if_false]
   by_cases hlt : p < w.length
   ·rw [Ev.kz1 (by simpa using hlt), wrk (by omega), Ev.yz2 (zbc (by omega) (Nat.le_refl _)), List.take_length, Ev.zz0 (zxk (by simp; omega)), if_pos hlt]
    have l2 : ∀ b, (b = true ↔ ((zcw (w.drop (p + 1))).2 = false ∨ (zcw (w.drop (p + 1))).1 = 1)) → Ev (fun n => z5u n b ⟨0, 0⟩ ⟨(zcw (w.take p)).1, (zcw (w.drop (p + 1))).1⟩) (if (zcw (w.drop (p + 1))).2 = false ∨ (zcw (w.drop (p + 1))).1 = 1 then (12, ⟨0, 0⟩) else if rok ⟨(zcw (w.take p)).1, (zcw (w.drop (p + 1))).1⟩ then (0, ⟨(zcw (w.take p)).1, (zcw (w.drop (p + 1))).1⟩) else (12, ⟨0, 0⟩)) := fun b hb => by
     rw [zxe]
     cases b
     ·rw [Ev.yz1 (by rfl), if_neg fun h => by have := hb.2 h; cases this]; exact yrv
     ·rw [Ev.kz1 (by rfl), Ev.zz1, if_pos (hb.1 rfl)]
    cases hb2 : (zcw (w.drop (p + 1))).2
    ·rw [Ev.kz1 (by rfl)]
     have := l2 true (by simp [hb2])
     rw [hb2] at this
     exact this
    ·rw [Ev.yz1 (by rfl)]
     have := l2 _ (show (((zcw (w.drop (p + 1))).1 == 1) = true ↔ _) by simp [hb2])
     rw [hb2] at this
     exact this
   ·rw [Ev.yz1 (by simpa using hlt), if_neg hlt]
    exact yrv
 have loop : ∀ k, k ≤ (w.takeWhile (· != 47)).length → Ev (fun n => z60 n (k : Int) w ⟨0, 0⟩) (z25 w) :=
  down (by
   rw [zn8]
   by_cases hlt : (w.takeWhile (· != 47)).length < w.length
   ·rw [Ev.kz1 (by simpa using hlt), Ev.yz2 (yzb hlt), ybu w hlt]
    exact l1
   ·rw [Ev.yz1 (by simpa using hlt)]
    exact l1) fun k hk ih => by
   have hlt : k < w.length := by omega
   have h47 := yro w k hlt hk
   rw [zn8, Ev.kz1 (by simpa using hlt), Ev.yz2 (yzb hlt)]
   have hb : (((w[k].toNat : Nat) : Int) != 47) = true := by
    have := b47 w[k]
    simp only [bne, this]
    simpa using h47
   rw [hb, zmv, Ev.kz1 (by rfl), wrk (by omega)]
   exact ih
 rw [y69]
 exact loop 0 (Nat.zero_le _)
theorem zax {w : List UInt8} (h : (z25 w).1 = 0) : rok (z25 w).2 = true ∧ z1q (z25 w).2 = w := by
 have hp := yoq w
 unfold z25 at h ⊢
 generalize hq : (w.takeWhile (· != 47)).length = p at h hp ⊢
 dsimp only at h ⊢
 split at h
 ·cases h
 rename_i ha
 rw [if_neg ha]
 have sa := zla (s := w.take p) (by simpa using ha)
 split at h
 ·rename_i hlt
  rw [if_pos hlt]
  split at h
  ·cases h
  rename_i hb
  rw [if_neg hb]
  have sb := zla (s := w.drop (p + 1)) (by cases hc : (zcw (w.drop (p + 1))).2 <;> simp_all)
  split at h
  ·rename_i hr
   rw [if_pos hr]
   refine ⟨hr, ?_⟩
   unfold z1q
   dsimp only
   rw [if_neg fun e => hb (.inr e), sa, sb]
   have h47 : w[p] = 47 := by subst hq; exact ybu w hlt
   rw [← h47, List.getElem_cons_drop, List.take_append_drop]
  ·cases h
 ·rename_i hlt
  rw [if_neg hlt]
  split at h
  ·rename_i hr
   rw [if_pos hr]
   refine ⟨hr, ?_⟩
   unfold z1q
   dsimp only
   rw [if_pos rfl, sa]
   exact List.take_of_length_le (by omega)
  ·cases h
theorem y5n {x : Int} (h : -1000000000 ≤ x ∧ x ≤ 1000000000) : (Lib.itoa x).all (· != 47) = true := by
 have ha : (Lib.decDigits x.natAbs).all (· != 47) = true := by
  rw [List.all_eq_true]
  intro c hc
  have := (zrf (List.all_eq_true.1 (zel x.natAbs) c hc)).1
  simpa using this
 by_cases hn : x < 0
 ·unfold Lib.itoa; rw [if_pos hn, List.all_cons, ha]; rfl
 ·rw [zo7 (by omega)]; exact ha
theorem y76 {d t : List UInt8} (h : d.all (· != 47) = true) : (d ++ 47 :: t).takeWhile (· != 47) = d := by
 induction d with
 | nil => simp
 | cons c d ih =>
   simp only [List.all_cons, Bool.and_eq_true] at h
   simp only [List.cons_append, List.takeWhile_cons, h.1, if_true]
   rw [ih h.2]
theorem ye8 {d : List UInt8} (h : d.all (· != 47) = true) : d.takeWhile (· != 47) = d := by
 induction d with
 | nil => rfl
 | cons c d ih =>
   simp only [List.all_cons, Bool.and_eq_true] at h
   simp only [List.takeWhile_cons, h.1, if_true]
   rw [ih h.2]
theorem zqc {r : zz2} (h : rok r = true) : z25 (z1q r) = (0, r) := by
 obtain ⟨h1, h2, h3⟩ := zxv h
 have ha := y5n (x := r.num) (by omega)
 unfold z25 z1q
 by_cases hd : r.den = 1
 ·rw [if_pos hd, ye8 ha]
  dsimp only
  rw [List.take_length, zi7 (by omega), if_neg (by simp), if_neg (Nat.lt_irrefl _), show (⟨r.num, 1⟩ : zz2) = r by rw [← hd], if_pos h]
 ·rw [if_neg hd, y76 ha]
  dsimp only
  rw [List.take_left, zi7 (by omega), if_neg (by simp), if_pos (by simp), show (Lib.itoa r.num ++ 47 :: Lib.itoa r.den).drop ((Lib.itoa r.num).length + 1) = Lib.itoa r.den by rw [← List.drop_drop, List.drop_left]; rfl, zi7 (by omega), if_neg (by simpa using hd), if_pos h]
end Go.Proofs.YtfhpamcehnfhoaaGreatDoor


namespace Go.Proofs.YtfhpamcehnfhoaaGreatDoor
open Go Go.Ab
set_option linter.unusedVariables false
set_option linter.unusedSimpArgs false
def scan : List UInt8 → Option (List UInt8 × Nat)
 | [] => none
 | [c] => if c = 34 then some ([], 1) else none
 | c :: d :: t => if c = 34 then some ([], 1) else if c = 92 then (if d = 34 ∨ d = 92 then (scan t).map (fun p => (d :: p.1, p.2 + 2)) else none) else (scan (d :: t)).map fun p => (c :: p.1, p.2 + 1)
def rs : List UInt8 → Nat
 | [] => 0
 | [c] => if c = 34 then 0 else if c = 92 then 2 else 1
 | c :: d :: t => if c = 34 then 0 else if c = 92 then 2 + rs t else 1 + rs (d :: t)
theorem ysc : scan [] = none := by rw [scan]
theorem yvd : rs [] = 0 := by rw [rs]
theorem zu6 (t : List UInt8) : scan (34 :: t) = some ([], 1) := by cases t <;> rw [scan] <;> simp
theorem ztk (d : UInt8) (t : List UInt8) : scan (92 :: d :: t) = if d = 34 ∨ d = 92 then (scan t).map (fun p => (d :: p.1, p.2 + 2)) else none := by rw [scan]; simp
theorem y6x : scan [92] = none := by rw [scan]; simp
theorem zyz {c : UInt8} (t : List UInt8) (h1 : c ≠ 34) (h2 : c ≠ 92) : scan (c :: t) = (scan t).map fun p => (c :: p.1, p.2 + 1) := by
 cases t with
 | nil => rw [ysc, scan, if_neg h1]; rfl
 | cons d t => rw [scan, if_neg h1, if_neg h2]
theorem yo7 (t : List UInt8) : rs (34 :: t) = 0 := by cases t <;> rw [rs] <;> simp
theorem yo8 (d : UInt8) (t : List UInt8) : rs (92 :: d :: t) = 2 + rs t := by rw [rs]; simp
theorem ym5 : rs [92] = 2 := by rw [rs]; simp
theorem rs_c {c : UInt8} (t : List UInt8) (h1 : c ≠ 34) (h2 : c ≠ 92) : rs (c :: t) = 1 + rs t := by
 cases t with
 | nil => rw [yvd, rs, if_neg h1, if_neg h2]
 | cons d t => rw [rs, if_neg h1, if_neg h2]
theorem sind {P : List UInt8 → Prop} (h0 : P []) (h1 : ∀ t, P (34 :: t)) (h2 : P [92]) (h3 : ∀ d t, P t → P (92 :: d :: t)) (h4 : ∀ c t, c ≠ 34 → c ≠ 92 → P t → P (c :: t)) : ∀ u, P u
 | [] => h0
 | [c] => by
   by_cases a : c = 34
   · rw [a]; exact h1 _
   · by_cases b : c = 92
     · rw [b]; exact h2
     · exact h4 c [] a b h0
 | c :: d :: t => by
   by_cases a : c = 34
   · rw [a]; exact h1 _
   · by_cases b : c = 92
     · rw [b]; exact h3 d t (sind h0 h1 h2 h3 h4 t)
     · exact h4 c (d :: t) a b (sind h0 h1 h2 h3 h4 (d :: t))
theorem zon : ∀ u x m, scan u = some (x, m) → m = rs u + 1 ∧ m ≤ u.length ∧ x.length + 1 ≤ m := by
 refine sind ?_ ?_ ?_ ?_ ?_
 ·intro x m h; rw [scan] at h; cases h
 ·intro t x m h
  rw [zu6] at h
  injection h with h
  injection h with h1 h2
  subst h1 h2
  rw [yo7]; simp
 ·intro x m h; rw [y6x] at h; cases h
 ·intro d t ih x m h
  rw [ztk] at h
  split at h
  ·cases hs : scan t with
   | none => rw [hs] at h; cases h
   | some p =>
     obtain ⟨y, k⟩ := p
     rw [hs] at h
     injection h with h
     injection h with h1 h2
     subst h1 h2
     obtain ⟨a, b, c⟩ := ih y k hs
     rw [yo8]
     simp only [List.length_cons]
     omega
  ·cases h
 ·intro c t h34 h92 ih x m h
  rw [zyz t h34 h92] at h
  cases hs : scan t with
  | none => rw [hs] at h; cases h
  | some p =>
    obtain ⟨y, k⟩ := p
    rw [hs] at h
    injection h with h
    injection h with h1 h2
    subst h1 h2
    obtain ⟨a, b, e⟩ := ih y k hs
    rw [rs_c t h34 h92]
    simp only [List.length_cons]
    omega
theorem yca : ∀ u, scan (u.take (rs u + 1)) = scan u := by
 refine sind ?_ ?_ ?_ ?_ ?_
 ·rfl
 ·intro t; rw [yo7, List.take_succ_cons, zu6, zu6]
 ·rw [ym5]; rfl
 ·intro d t ih
  rw [yo8, show 2 + rs t + 1 = (rs t + 1) + 1 + 1 by omega, List.take_succ_cons, List.take_succ_cons, ztk, ztk, ih]
 ·intro c t h34 h92 ih
  rw [rs_c t h34 h92, show 1 + rs t + 1 = (rs t + 1) + 1 by omega, List.take_succ_cons, zyz _ h34 h92, zyz _ h34 h92, ih]
theorem ytu {s : List UInt8} (hs : s.length ≤ 100000) : ∀ N k : Nat, k ≤ s.length → s.length - k ≤ N → ∀ acc : List UInt8, acc.length + (s.length - k) ≤ 100000 →
  (∀ x m, scan (s.drop k) = some (x, m) → Ev (fun n => yz9 n ⟨s, (k : Int), true⟩ (yza acc)) (acc ++ x, ⟨s, ((k + m : Nat) : Int), true⟩)) ∧
  (scan (s.drop k) = none → ∃ a : Int, Ev (fun n => yz9 n ⟨s, (k : Int), true⟩ (yza acc)) ([], ⟨s, a, false⟩)) := by
 intro N
 induction N with
 | zero =>
   intro k hk hN acc hl
   have : k = s.length := by omega
   subst this
   rw [List.drop_length]
   refine ⟨fun x m h => (by rw [scan] at h; cases h), fun _ => ⟨(s.length : Int), ?_⟩⟩
   rw [yzu, Ev.yz1 (by simp), z3x, Ev.zz1]
 | succ N ih =>
   intro k hk hN acc hl
   by_cases hlt : k < s.length
   · have l2 : ∀ (c : UInt8) (j : Nat), (∀ r, Ev (fun n => yz9 n ⟨s, (j : Int), true⟩ (yza (acc ++ [c]))) r → Ev (fun n => zzm n (c.toNat : Int) ⟨s, (j : Int), true⟩ (yza acc)) r) := fun c j r h => by
       rw [zdw, Ev.zz0 (wb rfl (by omega))]
       exact h
     rw [drop_cons hlt]
     by_cases h34 : s[k] = 34
     · rw [h34, zu6]
       refine ⟨fun x m h => ?_, fun h => by cases h⟩
       injection h with h
       injection h with h1 h2
       subst h1 h2
       rw [yzu, Ev.kz1 (by simpa using hlt), Ev.yz2 (yzb hlt), b34, Ev.kz1 (by simpa using h34), Ev.zz0 ypp, Ev.zz1, wrk (by omega), List.append_nil]
     by_cases h92 : s[k] = 92
     · rw [h92]
       by_cases hk1 : k + 1 < s.length
       · rw [drop_cons hk1, ztk]
         by_cases hd : s[k + 1] = 34 ∨ s[k + 1] = 92
         · rw [if_pos hd]
           have go : ∀ r, Ev (fun n => yz9 n ⟨s, ((k + 2 : Nat) : Int), true⟩ (yza (acc ++ [s[k + 1]]))) r → Ev (fun n => yz9 n ⟨s, (k : Int), true⟩ (yza acc)) r := fun r h => by
             have l1 : Ev (fun n => zzj n false ⟨s, ((k + 1 : Nat) : Int), true⟩ (yza acc)) r := by
               rw [z67, Ev.yz1 (by rfl), Ev.yz2 (yzb hk1), wrk (by omega)]
               exact l2 _ _ _ h
             rw [yzu, Ev.kz1 (by simpa using hlt), Ev.yz2 (yzb hlt), b34, b92, Ev.yz1 (by simpa using h34), Ev.kz1 (by simpa using h92), wrk (by omega), Ev.yz1 (by simp; omega), Ev.yz2 (yzb hk1)]
             simp only [bne, b34, b92]
             by_cases hd34 : s[k + 1] = 34
             · rw [Ev.yz1 (by simpa using hd34)]; exact l1
             · rw [Ev.kz1 (by simpa using hd34), Ev.yz2 (yzb hk1), show (!(s[k + 1] == 92)) = false by simpa using hd.resolve_left hd34]; exact l1
           obtain ⟨i1, i2⟩ := ih (k + 2) (by omega) (by omega) (acc ++ [s[k + 1]]) (by simp; omega)
           refine ⟨fun x m h => ?_, fun h => ?_⟩
           · cases hsc : scan (s.drop (k + 2)) with
             | none => rw [show k + 1 + 1 = k + 2 by omega, hsc] at h; cases h
             | some p =>
               obtain ⟨y, j⟩ := p
               rw [show k + 1 + 1 = k + 2 by omega, hsc] at h
               injection h with h
               injection h with e1 e2
               subst e1 e2
               refine (go _ (i1 y j hsc)).to ?_
               rw [List.append_assoc, show k + 2 + j = k + (j + 2) by omega]; rfl
           · cases hsc : scan (s.drop (k + 2)) with
             | none => obtain ⟨a, ha⟩ := i2 hsc; exact ⟨a, go _ ha⟩
             | some p => rw [show k + 1 + 1 = k + 2 by omega, hsc] at h; cases h
         · rw [if_neg hd]
           refine ⟨fun x m h => (by cases h), fun _ => ⟨((k + 1 : Nat) : Int), ?_⟩⟩
           rw [yzu, Ev.kz1 (by simpa using hlt), Ev.yz2 (yzb hlt), b34, b92, Ev.yz1 (by simpa using h34), Ev.kz1 (by simpa using h92), wrk (by omega), Ev.yz1 (by simp; omega), Ev.yz2 (yzb hk1)]
           simp only [bne, b34, b92]
           rw [Ev.kz1 (by simpa using fun e => hd (.inl e)), Ev.yz2 (yzb hk1), show (!(s[k + 1] == 92)) = true by simpa using fun e => hd (.inr e), z67, Ev.kz1 (by rfl), z3x, Ev.zz1]
       · have hke : k + 1 = s.length := by omega
         rw [List.drop_of_length_le (by omega), y6x]
         refine ⟨fun x m h => (by cases h), fun _ => ⟨((k + 1 : Nat) : Int), ?_⟩⟩
         rw [yzu, Ev.kz1 (by simpa using hlt), Ev.yz2 (yzb hlt), b34, b92, Ev.yz1 (by simpa using h34), Ev.kz1 (by simpa using h92), wrk (by omega), Ev.kz1 (by simp; omega), z67, Ev.kz1 (by rfl), z3x, Ev.zz1]
     rw [zyz _ h34 h92]
     have go : ∀ r, Ev (fun n => yz9 n ⟨s, ((k + 1 : Nat) : Int), true⟩ (yza (acc ++ [s[k]]))) r → Ev (fun n => yz9 n ⟨s, (k : Int), true⟩ (yza acc)) r := fun r h => by
       rw [yzu, Ev.kz1 (by simpa using hlt), Ev.yz2 (yzb hlt), b34, b92, Ev.yz1 (by simpa using h34), Ev.yz1 (by simpa using h92), wrk (by omega)]
       exact l2 _ _ _ h
     obtain ⟨i1, i2⟩ := ih (k + 1) (by omega) (by omega) (acc ++ [s[k]]) (by simp; omega)
     refine ⟨fun x m h => ?_, fun h => ?_⟩
     · cases hsc : scan (s.drop (k + 1)) with
       | none => rw [hsc] at h; cases h
       | some p =>
         obtain ⟨y, j⟩ := p
         rw [hsc] at h
         injection h with h
         injection h with e1 e2
         subst e1 e2
         refine (go _ (i1 y j hsc)).to ?_
         rw [List.append_assoc, show k + 1 + j = k + (j + 1) by omega]; rfl
     · cases hsc : scan (s.drop (k + 1)) with
       | none => obtain ⟨a, ha⟩ := i2 hsc; exact ⟨a, go _ ha⟩
       | some p => rw [hsc] at h; cases h
   · have : k = s.length := by omega
     subst this
     rw [List.drop_length]
     refine ⟨fun x m h => (by rw [scan] at h; cases h), fun _ => ⟨(s.length : Int), ?_⟩⟩
     rw [yzu, Ev.yz1 (by simp), z3x, Ev.zz1]
theorem zyt {s : List UInt8} {k : Nat} (hs : s.length ≤ 100000) (hk : k ≤ s.length) :
  (∀ x m, scan (s.drop k) = some (x, m) → Ev (fun n => zzl n ⟨s, (k : Int), true⟩) (x, ⟨s, ((k + m : Nat) : Int), true⟩)) ∧
  (scan (s.drop k) = none → ∃ a : Int, Ev (fun n => zzl n ⟨s, (k : Int), true⟩) ([], ⟨s, a, false⟩)) := by
 obtain ⟨h1, h2⟩ := ytu hs s.length k hk (by omega) [] (by simp; omega)
 refine ⟨fun x m h => ?_, fun h => ?_⟩
 ·rw [zb8]; exact h1 x m h
 ·obtain ⟨a, ha⟩ := h2 h
  exact ⟨a, by rw [zb8]; exact ha⟩
end Go.Proofs.YtfhpamcehnfhoaaGreatDoor


namespace Go.Proofs.YtfhpamcehnfhoaaGreatDoor
open Go Go.Ab
set_option linter.unusedVariables false
set_option linter.unusedSimpArgs false
theorem zwk : ∀ v : yz0, z8m v = true → v.size ≤ 68 * zb4 v := zx5 fun v ih h => by
 have hl : ∀ l : List yz0, (∀ x ∈ l, x ∈ v.list) → (l.map yz0.size).sum ≤ 68 * z5e l := fun l => by
  induction l with
  | nil => intro _; simp
  | cons x l ihl =>
    intro hm
    have h1 := ih x (hm x List.mem_cons_self) (zpj h x (hm x List.mem_cons_self))
    have h2 := ihl fun y hy => hm y (List.mem_cons_of_mem _ hy)
    simp [z5e]; omega
 have hl := hl v.list fun _ h => h
 rw [yz0.size_eq, zz2.size_eq, zd6]
 rw [z7m] at h
 split at h
 ·rename_i hk
  simp only [Bool.and_eq_true, List.isEmpty_iff] at h
  rw [if_neg (by omega), h.2.2.1, h.2.2.2]; simp
 split at h
 ·simp only [Bool.and_eq_true, List.isEmpty_iff] at h
  rw [if_neg (by omega), h.2.1, h.2.2]; simp
 split at h
 ·simp only [Bool.and_eq_true, List.isEmpty_iff, decide_eq_true_eq] at h
  rw [if_neg (by omega), h.2.2.1]
  have := h.2.2.2.1
  simp; omega
 split at h
 ·rename_i hk
  simp only [Bool.and_eq_true, List.isEmpty_iff] at h
  rw [if_pos hk, h.2.2.1]
  simp; omega
 ·cases h
theorem zlg {r : zz2} (h : nul r = true) : r.wf := by
 simp only [nul, Bool.and_eq_true, beq_iff_eq] at h
 rw [zz2.z9d, h.1, h.2]; decide
theorem yky {r : zz2} (h : rok r = true) : r.wf := by
 rw [z68] at h
 rw [zz2.z9d, show IntKind.i64.min = -9223372036854775808 from by decide, show IntKind.i64.max = 9223372036854775807 from by decide]
 omega
theorem y4m : ∀ v : yz0, z8m v = true → v.wf := zx5 fun v ih h => by
 have hl : ∀ x ∈ v.list, x.wf := fun x hx => ih x hx (zpj h x hx)
 have hk := zcp h
 have hn : v.num.wf := by
  rw [z7m] at h
  split at h
  ·simp only [Bool.and_eq_true] at h; exact yky h.1
  split at h
  ·simp only [Bool.and_eq_true] at h; exact zlg h.1
  split at h
  ·simp only [Bool.and_eq_true] at h; exact zlg h.1
  split at h
  ·simp only [Bool.and_eq_true] at h; exact zlg h.1
  ·cases h
 rw [yz0.z9d]
 refine ⟨?_, hn, trivial, trivial, hl⟩
 simp only [IntKind.min, IntKind.max, IntKind.signed, IntKind.bits]
 rcases hk with h | h | h | h <;> rw [h] <;> decide
theorem vok {v : yz0} (h : z1s v = 0) : v.wf ∧ v.size ≤ 6800 := by
 obtain ⟨h1, h2, _⟩ := z9l h
 have := zwk v h1
 exact ⟨y4m v h1, by omega⟩
theorem yet {a b : Nat} : mnI (a : Int) (b : Int) = ((min a b : Nat) : Int) := by unfold mnI; split <;> omega
def zi6 (r : zz2) : yz0 := ⟨1, r, false, [], []⟩
def zfs (b : Bool) : yz0 := ⟨2, ⟨0, 0⟩, b, [], []⟩
theorem zl2 {b : Bool} : Ev (fun n => z74 n b) (zfs b) := by rw [znh, Ev.zz1]; rfl
def y7m : List UInt8 := [48, 49, 50, 51, 52, 53, 54, 55, 56, 57, 47, 45]
def isNum (c : UInt8) : Bool := y7m.any (· == c)
theorem zn5 (c d : UInt8) : (c == d) = decide (c.toNat = d.toNat) := by
 rw [Bool.eq_iff_iff, beq_iff_eq, decide_eq_true_eq, UInt8.toNat_inj]
theorem zo8 {c : UInt8} : isNum c = true ↔ (48 ≤ c.toNat ∧ c.toNat ≤ 57) ∨ c.toNat = 47 ∨ c.toNat = 45 := by
 unfold isNum y7m
 simp only [List.any_cons, List.any_nil, zn5, Bool.or_eq_true, decide_eq_true_eq, Bool.false_eq_true, or_false, show (48 : UInt8).toNat = 48 by rfl, show (49 : UInt8).toNat = 49 by rfl, show (50 : UInt8).toNat = 50 by rfl, show (51 : UInt8).toNat = 51 by rfl, show (52 : UInt8).toNat = 52 by rfl, show (53 : UInt8).toNat = 53 by rfl, show (54 : UInt8).toNat = 54 by rfl, show (55 : UInt8).toNat = 55 by rfl, show (56 : UInt8).toNat = 56 by rfl, show (57 : UInt8).toNat = 57 by rfl, show (47 : UInt8).toNat = 47 by rfl, show (45 : UInt8).toNat = 45 by rfl]
 omega
theorem zp9 (c : UInt8) : ∃ k : Int, Ev (fun n => kzx n [48, 49, 50, 51, 52, 53, 54, 55, 56, 57, 47, 45] (c.toNat : Int)) k ∧ decide (k ≥ 0) = isNum c := by
 have hi : Ev (fun n => yzo n y7m (c.toNat : Int)) (Lib.indexByte y7m c) := ⟨0, fun _ _ => by
  show some _ = some _
  rw [show ((c.toNat : Int)).toNat.toUInt8 = c by simp]⟩
 refine ⟨_, by rw [zd1]; exact (Ev.zz0 hi).2 (Ev.zz1.2 rfl), ?_⟩
 rw [zy7]
 unfold isNum
 cases y7m.any (· == c)
 ·rfl
 ·simp
def zek (x : List UInt8) : yz0 := ⟨3, ⟨0, 0⟩, false, x, []⟩
theorem yjy {t s : List UInt8} {k : Nat} {b : Bool} (hs : s.length ≤ 100000) (hk : k ≤ s.length) : Ev (fun n => kz9 n t ⟨s, (k : Int), b⟩) (if t.isPrefixOf (s.drop k) then (true, ⟨s, ((k + t.length : Nat) : Int), b⟩) else (false, ⟨s, (k : Int), b⟩)) := by
 rw [zce, Ev.yz2 (zbc hk (Nat.le_refl _)), List.take_length, Ev.zz0 zpr]
 cases hp : t.isPrefixOf (s.drop k)
 ·rw [Ev.kz1 (by rfl), Ev.zz1]; rfl
 ·have := zxt hp
  rw [List.length_drop] at this
  rw [Ev.yz1 (by rfl), Ev.zz1, if_pos rfl]
  dsimp only
  rw [wI (by omega), Int.natCast_add]
theorem zb7 {t s : List UInt8} {k : Nat} {b : Bool} (hs : s.length ≤ 100000) (hk : k ≤ s.length) (h : t.isPrefixOf (s.drop k) = false) : Ev (fun n => kz9 n t ⟨s, (k : Int), b⟩) (false, ⟨s, (k : Int), b⟩) := (yjy hs hk).to (by rw [h]; rfl)
theorem yds {t s : List UInt8} {k : Nat} {b : Bool} (hs : s.length ≤ 100000) (hk : k ≤ s.length) (h : t.isPrefixOf (s.drop k) = true) : Ev (fun n => kz9 n t ⟨s, (k : Int), b⟩) (true, ⟨s, ((k + t.length : Nat) : Int), b⟩) := (yjy hs hk).to (by rw [h]; rfl)
theorem y4f (x : List UInt8) : (zek x).wf := by
 rw [yz0.z9d]
 refine ⟨⟨by show IntKind.u8.min ≤ 3; decide, by show 3 ≤ IntKind.u8.max; decide⟩, ?_, trivial, trivial, fun y hy => by cases hy⟩
 exact zlg (r := ⟨0, 0⟩) rfl
theorem ztn (x : List UInt8) : (zek x).size ≤ x.length + 20 := by
 rw [yz0.size_eq]
 show 1 + zz2.size ⟨0, 0⟩ + 1 + (x.length + 1) + ((List.map yz0.size []).sum + 1) + 1 ≤ _
 rw [zz2.size_eq]
 simp only [List.map_nil, List.sum_nil]
 omega
theorem ypx (r : zz2) : (zi6 r).size ≤ 20 := by
 rw [yz0.size_eq]
 show 1 + zz2.size r + 1 + (0 + 1) + ((List.map yz0.size []).sum + 1) + 1 ≤ _
 rw [zz2.size_eq]
 simp only [List.map_nil, List.sum_nil]
 omega
theorem zq1 {r : zz2} (h : rok r = true) : z1s (zi6 r) = 0 := by
 have hf : z8m (zi6 r) = true := by
  rw [z7m]
  simp [zi6, h]
 unfold z1s
 rw [if_neg, if_pos hf]
 rw [zd6, zp2]
 simp [zi6]
theorem zjd {u : List UInt8} (hu : u.length + 1 ≤ 4000) : Ev (fun n => z0y n (34 :: u)) (match scan u with
  | some (x, m) => if m = u.length ∧ z1s (zek x) = 0 then (0, zek x) else (12, v0)
  | none => (12, v0)) := by
 have hl : (34 :: u).length ≤ 100000 := by simp; omega
 have hq := zyt (s := 34 :: u) (k := 1) hl (by simp)
 rw [List.drop_succ_cons, List.drop_zero] at hq
 have l0 : ∀ v : yz0, Ev (fun n => z0o n true ⟨0, ⟨0, 0⟩, false, [], []⟩ v) (12, v0) := fun v => by
  rw [z2k, Ev.kz1 (by rfl), Ev.zz1]; rfl
 have hv : ∀ x q, Ev (fun n => zzl n ⟨34 :: u, ((1 : Nat) : Int), true⟩) (x, q) → Ev (fun n => zzk n 6 ⟨34 :: u, ((0 : Nat) : Int), true⟩) (q, zek x) := fun x q h => by
  rw [z6c, Ev.yz1 (by rfl), Ev.zz0 (zb7 hl (Nat.zero_le _) (by rfl)), Ev.yz1 (by rfl), Ev.zz0 (zb7 hl (Nat.zero_le _) (by rfl)), Ev.yz1 (by rfl), Ev.zz0 (yds hl (Nat.zero_le _) (by simp [List.isPrefixOf])), Ev.kz1 (by rfl)]
  refine (Ev.zz0 h).2 ?_
  rw [Ev.zz1]; rfl
 rw [zd2, Ev.yz1 (by simp; omega)]
 cases hs : scan u with
 | none =>
   obtain ⟨a, ha⟩ := hq.2 hs
   refine (Ev.zz0 (hv _ _ ha)).2 ?_
   rw [Ev.kz1 (by rfl)]
   exact l0 _
 | some p =>
   obtain ⟨x, m⟩ := p
   have hx := hq.1 x m hs
   obtain ⟨e1, e2, e3⟩ := zon u x m hs
   refine (Ev.zz0 (hv _ _ hx)).2 ?_
   dsimp only
   rw [Ev.yz1 (by rfl)]
   by_cases hm : m = u.length
   · have hc := zd4 (y4f x) (by have := ztn x; omega)
     rw [Ev.yz1 (by simp; omega), yz0.kz2, Ev.zz0 hc]
     by_cases hk : z1s (zek x) = 0
     · rw [if_pos ⟨hm, hk⟩, hk, z2k, Ev.yz1 (by rfl), Ev.zz1, yz0.kz2]
     · rw [if_neg fun h => hk h.2, show (z1s (zek x) != 0) = true by simpa using hk]
       exact l0 _
   · rw [if_neg fun h => hm h.1, Ev.kz1 (by simp; omega)]
     exact l0 _
theorem yn7 {c : UInt8} {p w : List UInt8} (h : isNum c = false) (hn : w.all isNum = true) : (c :: p).isPrefixOf w = false := by
 cases w with
 | nil => rfl
 | cons d t =>
   simp only [List.all_cons, Bool.and_eq_true] at hn
   simp only [List.isPrefixOf, Bool.and_eq_false_iff, beq_eq_false_iff_ne]
   exact .inl fun e => by rw [e, hn.1] at h; cases h
theorem zhg {w : List UInt8} (hl : w.length ≤ 100000) : ∃ c r, Ev (fun n => z1o n w) (c, r) ∧ (c == 0) = decide ((z25 w).1 = 0) ∧ ((z25 w).1 = 0 → rok r = true ∧ r = (z25 w).2) := by
 obtain ⟨c, r, h1, h2⟩ := y2q (w := w) (by omega)
 refine ⟨c, r, h1, ?_⟩
 rcases h2 with ⟨a, b, d⟩ | ⟨a, b⟩
 ·have := zqc b
  rw [d] at this
  rw [this, a]
  exact ⟨rfl, fun _ => ⟨b, rfl⟩⟩
 ·have hn : (z25 w).1 ≠ 0 := fun h => b _ (zax h).1 (zax h).2
  rw [a, decide_eq_false hn]
  exact ⟨rfl, fun h => (hn h).elim⟩
theorem zje {w : List UInt8} (hl : w.length ≤ 4000) (hn : w.all isNum = true) : Ev (fun n => z0y n w) (if (z25 w).1 = 0 then (0, zi6 (z25 w).2) else (12, v0)) := by
 have hs : w.length ≤ 100000 := by omega
 have nop : ∀ (c : UInt8) (p : List UInt8), isNum c = false → (c :: p).isPrefixOf (w.drop 0) = false := fun c p h => yn7 h hn
 obtain ⟨c, r, h1, h2, h3⟩ := zhg hs
 have loop : ∀ k, k ≤ w.length → Ev (fun n => yzk n (k : Int) ⟨w, ((0 : Nat) : Int), true⟩ 0 0 0 false [] []) (⟨w, (w.length : Int), c == 0⟩, zi6 r) :=
  down (by
   rw [z4f, Ev.yz1 (by simp), z4m, Ev.yz1 (by rfl)]
   dsimp only
   rw [Ev.yz2 (zbc (Nat.zero_le _) (Nat.le_refl _)), List.take_length, List.drop_zero, Ev.zz0 h1, Ev.kz1 (by rfl), z9v, Ev.zz1]
   rfl) fun k hk ih => by
   obtain ⟨j, hj, hjn⟩ := zp9 w[k]
   rw [z4f, Ev.kz1 (by simpa using hk), Ev.yz2 (yzb hk), Ev.zz0 hj, hjn, List.all_eq_true.1 hn _ (List.getElem_mem hk), z4m, Ev.kz1 (by rfl), wrk (by omega)]
   exact ih
 have hv : Ev (fun n => zzk n 6 ⟨w, ((0 : Nat) : Int), true⟩) (⟨w, (w.length : Int), c == 0⟩, zi6 r) := by
  rw [z6c, Ev.yz1 (by rfl), Ev.zz0 (zb7 hs (Nat.zero_le _) (nop _ _ (by decide))), Ev.yz1 (by rfl), Ev.zz0 (zb7 hs (Nat.zero_le _) (nop _ _ (by decide))), Ev.yz1 (by rfl), Ev.zz0 (zb7 hs (Nat.zero_le _) (nop _ _ (by decide))), Ev.yz1 (by rfl), Ev.zz0 (zb7 hs (Nat.zero_le _) (nop _ _ (by decide))), Ev.yz1 (by rfl), Ev.zz0 (zb7 hs (Nat.zero_le _) (nop _ _ (by decide))), Ev.yz1 (by rfl), za0]
  exact loop 0 (Nat.zero_le _)
 rw [zd2, Ev.yz1 (by simp; omega)]
 refine (Ev.zz0 hv).2 ?_
 dsimp only
 by_cases hz : (z25 w).1 = 0
 ·obtain ⟨q1, q2⟩ := h3 hz
  rw [decide_eq_true hz] at h2
  have hc := zq1 q1
  have hk := zd4 (vok hc).1 (by have := (vok hc).2; omega)
  rw [hc] at hk
  rw [h2, Ev.yz1 (by rfl), Ev.yz1 (by simp), yz0.kz2, Ev.zz0 hk, z2k, Ev.yz1 (by rfl), Ev.zz1, if_pos hz, yz0.kz2, q2]
 ·rw [decide_eq_false hz] at h2
  rw [h2, Ev.kz1 (by rfl), z2k, Ev.kz1 (by rfl), Ev.zz1, if_neg hz]; rfl
def lit (u : List UInt8) : Option (yz0 × List UInt8) :=
 if u.head? = some 34 then
  match scan u.tail with
  | some (x, m) => if z1s (zek x) = 0 then some (zek x, u.drop (m + 1)) else none
  | none => none
 else if (z25 (u.takeWhile isNum)).1 = 0 then some (zi6 (z25 (u.takeWhile isNum)).2, u.drop (u.takeWhile isNum).length) else none
def ylx : Option (yz0 × List UInt8) → Res (Int × Unit) (yz3 × kz0)
 | some (v, t) => .ok (⟨t⟩, ⟨1, v, [], []⟩)
 | none => .pan (12, ())
theorem ye2 : Ev (fun n => zzq n 0) (.ok ()) := by rw [zgn, Ev.yz1 (by rfl), Ev.zz1]
theorem zge {e : Int} (h : e ≠ 0) : Ev (fun n => zzq n e) (.pan (e, ())) := by rw [zgn, Ev.kz1 (by simpa using h), Ev.zz1]
theorem zlb {u : List UInt8} {k : Nat} (hk : k ≤ u.length) (hu : u.length ≤ 4000) {c : Int} {v : yz0} {e : kz0} (h : Ev (fun n => z0y n (u.take k)) (c, v)) (hc : c = 0 ∨ c = 12) : Ev (fun n => yz7 n (k : Int) ⟨u⟩ e) (ylx (if c = 0 then some (v, u.drop k) else none)) := by
 rw [z9e]
 dsimp only
 rw [Ev.yz2 (zd7 hk), Ev.zz0 h]
 rcases hc with hc | hc
 ·subst hc
  rw [Ev.zz0 ye2]
  show Ev _ _
  refine Ev.z7j.2 ?_
  rw [Ev.yz2 (zbc hk (Nat.le_refl _)), List.take_length, Ev.zz1, yz0.kz2]
  rfl
 ·subst hc
  rw [Ev.zz0 (zge (e := 12) (by decide))]
  refine Ev.z7q.2 ?_
  rw [Ev.zz1]; rfl
theorem yli {u : List UInt8} (hu : u.length ≤ 4000) {e : kz0} {r} : ∀ N k : Nat, k ≤ u.length → u.length - k ≤ N → Ev (fun n => yz7 n ((min (k + rs (u.drop k) + 1) u.length : Nat) : Int) ⟨u⟩ e) r → Ev (fun n => zzi n (k : Int) ⟨u⟩ e) r := by
 have fin : ∀ k : Nat, k ≤ u.length + 1 → Ev (fun n => yz7 n ((min (k + 1) u.length : Nat) : Int) ⟨u⟩ e) r → Ev (fun n => yzi n (k : Int) false ⟨u⟩ e) r := fun k hk h => by
  rw [z3y, Ev.yz1 (by rfl), wrk (by omega), yet, kz0.kz2]
  exact h
 intro N
 induction N with
 | zero =>
   intro k hk hN h
   have : k = u.length := by omega
   subst this
   rw [List.drop_length, rs] at h
   rw [yzm, Ev.yz1 (by simp), kz0.kz2]
   exact fin _ (by omega) h
 | succ N ih =>
   intro k hk hN h
   by_cases hlt : k < u.length
   · rw [yzm, Ev.kz1 (by simpa using hlt), Ev.yz2 (yzb hlt)]
     simp only [bne, b34]
     rw [drop_cons hlt] at h
     by_cases h34 : u[k] = 34
     · rw [h34, yo7] at h
       rw [show (!(u[k] == 34)) = false by simpa using h34, kz0.kz2]
       exact fin _ (by omega) h
     · rw [show (!(u[k] == 34)) = true by simpa using h34, z3y, Ev.kz1 (by rfl), Ev.yz2 (yzb hlt), b92]
       by_cases h92 : u[k] = 92
       · rw [h92] at h
         rw [Ev.kz1 (by simpa using h92), wrk (by omega), z3t, wrk (by omega)]
         simp only [kz0.kz2]
         by_cases hk1 : k + 1 < u.length
         · rw [drop_cons hk1, yo8] at h
           refine ih (k + 2) (by omega) (by omega) ?_
           rw [show k + 2 + rs (u.drop (k + 2)) + 1 = k + (2 + rs (u.drop (k + 1 + 1))) + 1 by show k + 2 + rs (u.drop (k + 2)) + 1 = k + (2 + rs (u.drop (k + 2))) + 1; omega]
           exact h
         · rw [List.drop_of_length_le (by omega), ym5] at h
           rw [yzm, Ev.yz1 (by simp; omega), kz0.kz2]
           refine fin _ (by omega) ?_
           rw [show min (k + 1 + 1 + 1) u.length = min (k + 2 + 1) u.length by omega]
           exact h
       · rw [rs_c _ h34 h92] at h
         rw [Ev.yz1 (by simpa using h92), z3t, wrk (by omega)]
         simp only [kz0.kz2]
         refine ih (k + 1) (by omega) (by omega) ?_
         rw [show k + 1 + rs (u.drop (k + 1)) + 1 = k + (1 + rs (u.drop (k + 1))) + 1 by omega]
         exact h
   · have : k = u.length := by omega
     subst this
     rw [List.drop_length, rs] at h
     rw [yzm, Ev.yz1 (by simp), kz0.kz2]
     exact fin _ (by omega) h
theorem zn9 {p : UInt8 → Bool} {u : List UInt8} {k : Nat} (hk : k < u.length) (h : p u[k] = true) : ((u.drop k).takeWhile p).length = ((u.drop (k + 1)).takeWhile p).length + 1 := by
 rw [drop_cons hk, List.takeWhile_cons, if_pos h, List.length_cons]
theorem zmz {p : UInt8 → Bool} {u : List UInt8} {k : Nat} (hk : k < u.length) (h : p u[k] = false) : ((u.drop k).takeWhile p).length = 0 := by
 rw [drop_cons hk, List.takeWhile_cons, if_neg (by simp [h]), List.length_nil]
theorem yl4 {u : List UInt8} (hu : u.length ≤ 4000) {e : kz0} {r} : ∀ k : Nat, k ≤ u.length → Ev (fun n => yz7 n ((k + ((u.drop k).takeWhile isNum).length : Nat) : Int) ⟨u⟩ e) r → Ev (fun n => kzi n (k : Int) ⟨u⟩ e) r :=
 down (fun h => by
  rw [List.drop_length] at h
  rw [z3s, Ev.yz1 (by simp), z3z, Ev.yz1 (by rfl)]
  simp only [kz0.kz2]
  exact h) fun k hk ih h => by
  obtain ⟨j, hj, hjn⟩ := zp9 u[k]
  rw [z3s, Ev.kz1 (by simpa using hk), Ev.yz2 (yzb hk), Ev.zz0 hj, hjn, z3z]
  simp only [kz0.kz2]
  cases hc : isNum u[k]
  ·rw [zmz hk hc] at h
   rw [Ev.yz1 (by rfl)]
   exact h
  ·rw [zn9 hk hc] at h
   rw [Ev.kz1 (by rfl), wrk (by omega)]
   refine ih ?_
   rw [show k + 1 + ((u.drop (k + 1)).takeWhile isNum).length = k + (((u.drop (k + 1)).takeWhile isNum).length + 1) by omega]
   exact h
theorem zkl (p : UInt8 → Bool) (u : List UInt8) : u.take (u.takeWhile p).length = u.takeWhile p := by
 induction u with
 | nil => rfl
 | cons c u ih =>
   rw [List.takeWhile_cons]
   split
   · rw [List.length_cons, List.take_succ_cons, ih]
   · rfl
theorem ym8 (p : UInt8 → Bool) (u : List UInt8) : (u.takeWhile p).all p = true := by
 induction u with
 | nil => rfl
 | cons c u ih =>
   rw [List.takeWhile_cons]
   split
   · rename_i h; rw [List.all_cons, h, ih]; rfl
   · rfl
theorem ylp (p : UInt8 → Bool) (u : List UInt8) : (u.takeWhile p).length ≤ u.length := (List.takeWhile_prefix _).length_le
theorem zqb {u : List UInt8} (hu : u.length ≤ 4000) : Ev (fun n => yzx n ⟨u⟩) (ylx (lit u)) := by
 rw [zb6, Ev.zz0 zpr]
 unfold lit
 by_cases h34 : u.head? = some 34
 ·rw [if_pos h34]
  cases u with
  | nil => cases h34
  | cons c t =>
    have hc : c = 34 := Option.some.inj h34
    subst hc
    rw [Ev.kz1 (by simp [List.isPrefixOf])]
    rw [List.length_cons] at hu
    refine yli (k := 1) (by simpa using hu) _ (by simp) (Nat.le_refl _) ?_
    rw [List.drop_succ_cons, List.drop_zero, List.tail_cons]
    have hp := zjd (u := t.take (rs t + 1)) (by simp; omega)
    have hj : min (1 + rs t + 1) (34 :: t).length = (t.take (rs t + 1)).length + 1 := by simp; omega
    have ht : (34 :: t).take ((t.take (rs t + 1)).length + 1) = 34 :: t.take (rs t + 1) := by
      rw [List.take_succ_cons, List.length_take, List.take_eq_take_min (i := rs t + 1)]
    rw [yca] at hp
    rw [hj]
    cases hs : scan t with
    | none =>
      rw [hs] at hp
      have := zlb (u := 34 :: t) (k := (t.take (rs t + 1)).length + 1) (by simp; omega) (by simpa using hu) (e := ⟨0, ⟨0, ⟨0, 0⟩, false, [], []⟩, [], []⟩) (by rw [ht]; exact hp) (.inr rfl)
      exact this
    | some p =>
      obtain ⟨x, m⟩ := p
      obtain ⟨e1, e2, e3⟩ := zon t x m hs
      rw [hs] at hp
      have hm : m = (t.take (rs t + 1)).length := by simp; omega
      dsimp only at hp ⊢
      by_cases hv : z1s (zek x) = 0
      · rw [if_pos ⟨hm, hv⟩] at hp
        have := zlb (u := 34 :: t) (k := (t.take (rs t + 1)).length + 1) (by simp; omega) (by simpa using hu) (e := ⟨0, ⟨0, ⟨0, 0⟩, false, [], []⟩, [], []⟩) (by rw [ht]; exact hp) (.inl rfl)
        rw [if_pos hv, hm]
        exact this
      · rw [if_neg fun h => hv h.2] at hp
        have := zlb (u := 34 :: t) (k := (t.take (rs t + 1)).length + 1) (by simp; omega) (by simpa using hu) (e := ⟨0, ⟨0, ⟨0, 0⟩, false, [], []⟩, [], []⟩) (by rw [ht]; exact hp) (.inr rfl)
        rw [if_neg hv]
        exact this
 ·rw [if_neg h34]
  have hp : ([34] : List UInt8).isPrefixOf u = false := by
   cases u with
   | nil => rfl
   | cons c t =>
     simp only [List.isPrefixOf, Bool.and_true, beq_eq_false_iff_ne]
     exact fun e => h34 (by rw [← e]; rfl)
  rw [hp, Ev.yz1 (by rfl)]
  refine yl4 hu 0 (Nat.zero_le _) ?_
  rw [List.drop_zero, Nat.zero_add]
  have hl := ylp isNum u
  have hv := zje (w := u.takeWhile isNum) (by omega) (ym8 _ _)
  by_cases hz : (z25 (u.takeWhile isNum)).1 = 0
  ·rw [if_pos hz] at hv ⊢
   exact zlb hl hu (by rw [zkl]; exact hv) (.inl rfl)
  ·rw [if_neg hz] at hv ⊢
   exact zlb hl hu (by rw [zkl]; exact hv) (.inr rfl)
end Go.Proofs.YtfhpamcehnfhoaaGreatDoor


namespace Go.Proofs.YtfhpamcehnfhoaaGreatDoor
open Go Go.Ab
set_option linter.unusedVariables false
set_option linter.unusedSimpArgs false
theorem zbf {s t : List UInt8} {k : Nat} (hs : s.length ≤ 100000) (ht : t.length ≤ 100) (hk : k ≤ s.length) : Ev (fun n => zzg n s (k : Int) t) (t.isPrefixOf (s.drop k)) := by
 rw [y3y, wI (x := (k : Int) + (t.length : Int)) (by omega), ← Int.natCast_add]
 by_cases h : k + t.length ≤ s.length
 ·rw [Ev.kz1 (by simp; omega), Ev.yz2 (zbc (by omega) h), Ev.zz1, zxg, List.drop_take, Nat.add_sub_cancel_left]
 ·rw [Ev.yz1 (by simp; omega), Ev.zz1]
  cases hp : t.isPrefixOf (s.drop k)
  ·rfl
  ·have := zxt hp
   rw [List.length_drop] at this
   omega
theorem yn1 {x : List UInt8} : Ev (fun n => zd8 n x) (zek x) := by rw [ycr, Ev.zz1]; rfl
theorem yp4 {r : zz2} : Ev (fun n => zfc n r) (zi6 r) := by rw [yjk, Ev.zz1]; rfl
theorem yc2 {b : Bool} : Ev (fun n => zd3 n b) (zfs b) := by rw [yiz, Ev.zz1]; rfl
theorem yu9 {s : List UInt8} (hs : s.length ≤ 100000) {v : yz0} : ∀ N k : Nat, k ≤ s.length → s.length - k ≤ N → ∀ acc : List UInt8, acc.length + (s.length - k) ≤ 100000 →
  (∀ x m, scan (s.drop k) = some (x, m) → Ev (fun n => kzh n (k : Int) acc s v) (((k + m : Nat) : Int), true, zek (acc ++ x))) ∧
  (scan (s.drop k) = none → Ev (fun n => kzh n (k : Int) acc s v) (0, false, v0)) := by
 have fin : ∀ acc : List UInt8, Ev (fun n => kzh n (s.length : Int) acc s v) (0, false, v0) := fun acc => by
  rw [z96, Ev.yz1 (by simp), Ev.zz1]; rfl
 have l2 : ∀ (j : Nat) (acc : List UInt8) (hj : j < s.length), acc.length ≤ 100000 → ∀ r, Ev (fun n => kzh n ((j + 1 : Nat) : Int) (acc ++ [s[j]]) s v) r → Ev (fun n => z4y n s (j : Int) acc v) r := fun j acc hj hl r h => by
  rw [zw0, Ev.yz2 (yt9 hj (by omega)), Ev.yz2 (z3r (by simp; omega)), wrk (by omega), yz0.kz2]
  exact h
 intro N
 induction N with
 | zero =>
   intro k hk hN acc hl
   have : k = s.length := by omega
   subst this
   rw [List.drop_length]
   exact ⟨fun x m h => (by rw [scan] at h; cases h), fun _ => fin acc⟩
 | succ N ih =>
   intro k hk hN acc hl
   by_cases hlt : k < s.length
   · have first : ∀ r, s[k] ≠ 34 → s[k] ≠ 92 → Ev (fun n => kzh n ((k + 1 : Nat) : Int) (acc ++ [s[k]]) s v) r → Ev (fun n => kzh n (k : Int) acc s v) r := fun r h34 h92 h => by
       rw [z96, Ev.kz1 (by simpa using hlt), Ev.yz2 (yzb hlt), b34, Ev.yz1 (by simpa using h34), Ev.yz2 (yzb hlt), b92, Ev.yz1 (by simpa using h92), zet, Ev.yz1 (by rfl), Ev.yz2 (yzb hlt), b92, Ev.yz1 (by simpa using h92)]
       simp only [yz0.kz2]
       exact l2 k acc hlt (by omega) r h
     have esc : ∀ r, s[k] = 92 → ∀ h1 : k + 1 < s.length, (s[k + 1] = 34 ∨ s[k + 1] = 92) → Ev (fun n => kzh n ((k + 2 : Nat) : Int) (acc ++ [s[k + 1]]) s v) r → Ev (fun n => kzh n (k : Int) acc s v) r := fun r h92 h1 hd h => by
       have l1 : Ev (fun n => z0s n s acc (k : Int) true v) r := by
         rw [zet, Ev.kz1 (by rfl), wrk (by omega), yz0.kz2]
         exact l2 (k + 1) acc h1 (by omega) r h
       rw [z96, Ev.kz1 (by simpa using hlt), Ev.yz2 (yzb hlt), b34, Ev.yz1 (by rw [h92]; rfl), Ev.yz2 (yzb hlt), b92, Ev.kz1 (by rw [h92]; rfl), wrk (by omega), Ev.kz1 (by simp; omega), Ev.yz2 (yzb h1), b34]
       simp only [yz0.kz2]
       by_cases hd34 : s[k + 1] = 34
       · rw [Ev.kz1 (by simpa using hd34)]; exact l1
       · rw [Ev.yz1 (by simpa using hd34), Ev.yz2 (yzb h1), b92, show (s[k + 1] == 92) = true by simpa using hd.resolve_left hd34]; exact l1
     have bad : s[k] = 92 → (∀ h1 : k + 1 < s.length, s[k + 1] ≠ 34 ∧ s[k + 1] ≠ 92) → Ev (fun n => kzh n (k : Int) acc s v) (0, false, v0) := fun h92 hd => by
       have l1 : Ev (fun n => z0s n s acc (k : Int) false v) (0, false, v0) := by
         rw [zet, Ev.yz1 (by rfl), Ev.yz2 (yzb hlt), b92, Ev.kz1 (by rw [h92]; rfl), Ev.zz1]; rfl
       rw [z96, Ev.kz1 (by simpa using hlt), Ev.yz2 (yzb hlt), b34, Ev.yz1 (by rw [h92]; rfl), Ev.yz2 (yzb hlt), b92, Ev.kz1 (by rw [h92]; rfl), wrk (by omega)]
       simp only [yz0.kz2]
       by_cases h1 : k + 1 < s.length
       · obtain ⟨d1, d2⟩ := hd h1
         rw [Ev.kz1 (by simp; omega), Ev.yz2 (yzb h1), b34, Ev.yz1 (by simpa using d1), Ev.yz2 (yzb h1), b92, show (s[k + 1] == 92) = false by simpa using d2]
         exact l1
       · rw [Ev.yz1 (by simp; omega)]
         exact l1
     rw [drop_cons hlt]
     by_cases h34 : s[k] = 34
     · rw [h34, zu6]
       refine ⟨fun x m h => ?_, fun h => by cases h⟩
       injection h with h
       injection h with h1 h2
       subst h1 h2
       rw [z96, Ev.kz1 (by simpa using hlt), Ev.yz2 (yzb hlt), b34, Ev.kz1 (by simpa using h34), Ev.zz0 yn1, Ev.zz1, wrk (by omega), List.append_nil, yz0.kz2]
     by_cases h92 : s[k] = 92
     · rw [h92]
       by_cases hk1 : k + 1 < s.length
       · rw [drop_cons hk1, ztk, show k + 1 + 1 = k + 2 by omega]
         by_cases hd : s[k + 1] = 34 ∨ s[k + 1] = 92
         · rw [if_pos hd]
           obtain ⟨i1, i2⟩ := ih (k + 2) (by omega) (by omega) (acc ++ [s[k + 1]]) (by simp; omega)
           refine ⟨fun x m h => ?_, fun h => ?_⟩
           · cases hsc : scan (s.drop (k + 2)) with
             | none => rw [hsc] at h; cases h
             | some p =>
               obtain ⟨y, j⟩ := p
               rw [hsc] at h
               injection h with h
               injection h with e1 e2
               subst e1 e2
               refine (esc _ h92 hk1 hd (i1 y j hsc)).to ?_
               rw [List.append_assoc, show k + 2 + j = k + (j + 2) by omega]; rfl
           · cases hsc : scan (s.drop (k + 2)) with
             | none => exact esc _ h92 hk1 hd (i2 hsc)
             | some p => rw [hsc] at h; cases h
         · rw [if_neg hd]
           exact ⟨fun x m h => (by cases h), fun _ => bad h92 fun _ => ⟨fun e => hd (.inl e), fun e => hd (.inr e)⟩⟩
       · rw [List.drop_of_length_le (by omega), y6x]
         exact ⟨fun x m h => (by cases h), fun _ => bad h92 fun h => (hk1 h).elim⟩
     rw [zyz _ h34 h92]
     obtain ⟨i1, i2⟩ := ih (k + 1) (by omega) (by omega) (acc ++ [s[k]]) (by simp; omega)
     refine ⟨fun x m h => ?_, fun h => ?_⟩
     · cases hsc : scan (s.drop (k + 1)) with
       | none => rw [hsc] at h; cases h
       | some p =>
         obtain ⟨y, j⟩ := p
         rw [hsc] at h
         injection h with h
         injection h with e1 e2
         subst e1 e2
         refine (first _ h34 h92 (i1 y j hsc)).to ?_
         rw [List.append_assoc, show k + 1 + j = k + (j + 1) by omega]; rfl
     · cases hsc : scan (s.drop (k + 1)) with
       | none => exact first _ h34 h92 (i2 hsc)
       | some p => rw [hsc] at h; cases h
   · have : k = s.length := by omega
     subst this
     rw [List.drop_length]
     exact ⟨fun x m h => (by rw [scan] at h; cases h), fun _ => fin acc⟩
theorem yfy {s : List UInt8} {a : Nat} (hs : s.length ≤ 100000) (ha : a < s.length) :
  (∀ x m, scan (s.drop (a + 1)) = some (x, m) → Ev (fun n => z4r n s (a : Int)) (((a + 1 + m : Nat) : Int), true, zek x)) ∧
  (scan (s.drop (a + 1)) = none → Ev (fun n => z4r n s (a : Int)) (0, false, v0)) := by
 obtain ⟨h1, h2⟩ := yu9 hs (v := ⟨0, ⟨0, 0⟩, false, [], []⟩) s.length (a + 1) (by omega) (by omega) [] (by simp; omega)
 refine ⟨fun x m h => ?_, fun h => ?_⟩
 ·rw [zqo, wrk (by omega)]; exact h1 x m h
 ·rw [zqo, wrk (by omega)]; exact h2 h
def zfk (c : UInt8) : Bool := z7t c || c == 47
def nw : List UInt8 → List UInt8
 | [] => []
 | c :: t => if c = 45 then 45 :: t.takeWhile zfk else (c :: t).takeWhile zfk
theorem zoq {c : UInt8} : zfk c = true ↔ (48 ≤ c.toNat ∧ c.toNat ≤ 57) ∨ c.toNat = 47 := by
 unfold zfk
 rw [Bool.or_eq_true, z7r, zn5, decide_eq_true_eq]
 rfl
theorem yts (c : UInt8) (t : List UInt8) : nw (c :: t) = if c = 45 then 45 :: t.takeWhile zfk else (c :: t).takeWhile zfk := rfl
theorem yog (u : List UInt8) : u.take (nw u).length = nw u := by
 cases u with
 | nil => rfl
 | cons c t =>
   rw [yts]
   split
   · rename_i h; subst h; rw [List.length_cons, List.take_succ_cons, zkl]
   · exact zkl _ _
theorem ysw (u : List UInt8) : (nw u).length ≤ u.length := by
 have := congrArg List.length (yog u)
 rw [List.length_take] at this
 omega
theorem yo5 {s : List UInt8} {a k : Nat} {v : yz0} {r} (hk : k < s.length) (h : Ev (fun n => yzh n (a : Int) s (k : Int) (zfk s[k] || (s[k] == 45 && decide (k = a))) v) r) : Ev (fun n => z2q n (k : Int) (a : Int) s v) r := by
 have e47 := zn5 s[k] 47
 have e45 := zn5 s[k] 45
 rw [show (47 : UInt8).toNat = 47 by rfl] at e47
 rw [show (45 : UInt8).toNat = 45 by rfl] at e45
 rw [zmb, Ev.kz1 (by simpa using hk), Ev.yz2 (yzb hk)]
 simp only [yz0.kz2]
 by_cases h48 : 48 ≤ s[k].toNat
 ·rw [Ev.kz1 (by simp; omega), Ev.yz2 (yzb hk)]
  by_cases h57 : s[k].toNat ≤ 57
  ·rw [show zfk s[k] = true from zoq.2 (.inl ⟨h48, h57⟩), Bool.true_or] at h
   rw [Ev.kz1 (by simp; omega)]
   exact h
  ·have hn : zfk s[k] = false := by cases hq : zfk s[k]; rfl; rw [zoq] at hq; omega
   rw [hn, e45, decide_eq_false (by omega : ¬ s[k].toNat = 45)] at h
   rw [Ev.yz1 (by simp; omega), Ev.yz2 (yzb hk), Ev.yz1 (by simp; omega), Ev.yz2 (yzb hk), Ev.yz1 (by simp; omega)]
   exact h
 ·rw [Ev.yz1 (by simp; omega), Ev.yz2 (yzb hk)]
  by_cases h47 : s[k].toNat = 47
  ·rw [show zfk s[k] = true from zoq.2 (.inr h47), Bool.true_or] at h
   rw [Ev.kz1 (by simp; omega)]
   exact h
  ·have hn : zfk s[k] = false := by cases hq : zfk s[k]; rfl; rw [zoq] at hq; omega
   rw [hn, e45] at h
   rw [Ev.yz1 (by simp; omega), Ev.yz2 (yzb hk)]
   by_cases h45 : s[k].toNat = 45
   ·rw [decide_eq_true h45, Bool.false_or, Bool.true_and] at h
    rw [Ev.kz1 (by simp; omega), show (((k : Nat) : Int) == (a : Int)) = decide (k = a) by rw [Bool.eq_iff_iff, beq_iff_eq, decide_eq_true_eq]; omega]
    exact h
   ·rw [decide_eq_false h45] at h
    rw [Ev.yz1 (by simp; omega)]
    exact h
theorem yob {s : List UInt8} {a : Nat} {v : yz0} {r} (hs : s.length ≤ 100000) : ∀ k, k ≤ s.length → a < k → Ev (fun n => yzh n (a : Int) s ((k + ((s.drop k).takeWhile zfk).length : Nat) : Int) false v) r → Ev (fun n => z2q n (k : Int) (a : Int) s v) r :=
 down (fun hk h => by
  rw [List.drop_length] at h
  rw [zmb, Ev.yz1 (by simp), yz0.kz2]
  exact h) fun k hk ih ha h => by
  refine yo5 hk ?_
  rw [decide_eq_false (by omega : ¬ k = a), Bool.and_false, Bool.or_false]
  cases hc : zfk s[k]
  ·rw [zmz hk hc] at h
   exact h
  ·rw [zn9 hk hc] at h
   rw [zbe, Ev.kz1 (by rfl), wrk (by omega), yz0.kz2]
   refine ih (by omega) ?_
   rw [show k + 1 + ((s.drop (k + 1)).takeWhile zfk).length = k + (((s.drop (k + 1)).takeWhile zfk).length + 1) by omega]
   exact h
theorem ygs {s : List UInt8} {a : Nat} (hs : s.length ≤ 100000) (ha : a < s.length) : Ev (fun n => z65 n s (a : Int)) (((a + (nw (s.drop a)).length : Nat) : Int), decide ((z25 (nw (s.drop a))).1 = 0), zi6 (z25 (nw (s.drop a))).2) := by
 have hl := ysw (s.drop a)
 rw [List.length_drop] at hl
 have fin : ∀ v : yz0, Ev (fun n => yzh n (a : Int) s ((a + (nw (s.drop a)).length : Nat) : Int) false v) (((a + (nw (s.drop a)).length : Nat) : Int), decide ((z25 (nw (s.drop a))).1 = 0), zi6 (z25 (nw (s.drop a))).2) := fun v => by
  rw [zbe, Ev.yz1 (by rfl), Ev.yz2 (zbc (by omega) (by omega)), List.drop_take, Nat.add_sub_cancel_left, yog, Ev.zz0 (yf7 (by omega)), Ev.zz0 yp4, Ev.zz1, yz0.kz2]
  congr 2
 rw [y3i]
 refine yo5 ha ?_
 have f := fin ⟨0, ⟨0, 0⟩, false, [], []⟩
 revert f
 generalize (((a + (nw (s.drop a)).length : Nat) : Int), decide ((z25 (nw (s.drop a))).1 = 0), zi6 (z25 (nw (s.drop a))).2) = r
 intro f
 have e := drop_cons ha
 by_cases h45 : s[a] = 45
 ·rw [show (zfk s[a] || (s[a] == 45 && decide (a = a))) = true by rw [h45]; simp, zbe, Ev.kz1 (by rfl), wrk (by omega), yz0.kz2]
  refine yob hs (a + 1) (by omega) (by omega) ?_
  rw [e, h45] at f
  rw [show a + 1 + ((s.drop (a + 1)).takeWhile zfk).length = a + (nw (45 :: s.drop (a + 1))).length by rw [nw, if_pos rfl, List.length_cons]; omega]
  exact f
 ·have hn : nw (s.drop a) = (s.drop a).takeWhile zfk := by rw [e, nw, if_neg h45]
  rw [hn] at f
  rw [show (s[a] == 45) = false by simpa using h45, Bool.false_and, Bool.or_false]
  cases hc : zfk s[a]
  ·rw [zmz ha hc] at f
   exact f
  ·rw [zn9 ha hc] at f
   rw [zbe, Ev.kz1 (by rfl), wrk (by omega), yz0.kz2]
   refine yob hs (a + 1) (by omega) (by omega) ?_
   rw [show a + 1 + ((s.drop (a + 1)).takeWhile zfk).length = a + (((s.drop (a + 1)).takeWhile zfk).length + 1) by omega]
   exact f
theorem ylh : ∀ t : List UInt8, t.takeWhile zfk = t.takeWhile isNum ∨ ∃ t', t.takeWhile isNum = t.takeWhile zfk ++ 45 :: t' ∧ (t.drop (t.takeWhile zfk).length).head? = some 45
 | [] => .inl rfl
 | c :: t => by
   by_cases hd : zfk c = true
   · have hn : isNum c = true := by rw [zoq] at hd; rw [zo8]; omega
     have e1 : (c :: t).takeWhile zfk = c :: t.takeWhile zfk := by rw [List.takeWhile_cons, if_pos hd]
     have e2 : (c :: t).takeWhile isNum = c :: t.takeWhile isNum := by rw [List.takeWhile_cons, if_pos hn]
     rw [e1, e2]
     rcases ylh t with h | ⟨t', h1, h2⟩
     · exact .inl (by rw [h])
     · exact .inr ⟨t', by rw [h1]; rfl, by rw [List.length_cons, List.drop_succ_cons]; exact h2⟩
   · have e1 : (c :: t).takeWhile zfk = [] := by rw [List.takeWhile_cons, if_neg hd]
     rw [e1]
     by_cases hn : isNum c = true
     · have hc : c = 45 := by
         rw [zoq] at hd
         rw [zo8] at hn
         exact UInt8.toNat_inj.1 (by show c.toNat = 45; omega)
       subst hc
       exact .inr ⟨t.takeWhile isNum, by rw [List.takeWhile_cons, if_pos hn]; rfl, rfl⟩
     · exact .inl (by rw [List.takeWhile_cons, if_neg hn])
theorem y7c (u : Nat) : (45 : UInt8) ∉ Lib.decDigits u := fun h => (zrf (List.all_eq_true.1 (zel u) _ h)).2 rfl
theorem y73 (r : zz2) : (45 : UInt8) ∉ zp0 r := by
 unfold zp0
 split
 ·exact y7c _
 ·intro h
  rw [List.mem_append, List.mem_cons] at h
  rcases h with h | h | h
  ·exact y7c _ h
  ·cases h
  ·exact y7c _ h
theorem yh4 {r : zz2} (h : rok r = true) {a b : List UInt8} (e : z1q r = a ++ 45 :: b) : a = [] := by
 rw [zli h] at e
 split at e
 ·cases a with
  | nil => rfl
  | cons c a =>
    rw [List.cons_append] at e
    injection e with e1 e2
    exact (y73 r (by rw [e2]; simp)).elim
 ·exact (y73 r (by rw [e]; simp)).elim
theorem ysi (u : List UInt8) : nw u = u.takeWhile isNum ∨ ((z25 (u.takeWhile isNum)).1 ≠ 0 ∧ (u.drop (nw u).length).head? = some 45) := by
 have key : ∀ (a b : List UInt8), a ≠ [] → (z25 (a ++ 45 :: b)).1 ≠ 0 := fun a b ha h => ha (yh4 (zax h).1 (zax h).2)
 cases u with
 | nil => exact .inl rfl
 | cons c t =>
   by_cases hc : c = 45
   · subst hc
     have e2 : (45 :: t : List UInt8).takeWhile isNum = 45 :: t.takeWhile isNum := by rw [List.takeWhile_cons, if_pos (by decide)]
     rw [nw, if_pos rfl, e2]
     rcases ylh t with h | ⟨t', h1, h2⟩
     · exact .inl (by rw [h])
     · refine .inr ⟨?_, by rw [List.length_cons, List.drop_succ_cons]; exact h2⟩
       rw [h1, ← List.cons_append]
       exact key _ _ (by simp)
   · rw [nw, if_neg hc]
     rcases ylh (c :: t) with h | ⟨t', h1, h2⟩
     · exact .inl h
     · refine .inr ⟨?_, h2⟩
       rw [h1]
       refine key _ _ fun e => ?_
       rw [e] at h2
       exact hc (Option.some.inj h2)
theorem yp2 {s : List UInt8} {a : Nat} (hs : s.length ≤ 4000) (ha : a < s.length) (hlet : isLet s[a] = false) (h91 : s[a] ≠ 91) : ∃ (k : Int) (ok : Bool) (v : yz0), Ev (fun n => z30 n s (a : Int) 1) (k, ok, v) ∧
  ((ok = false ∧ lit (s.drop a) = none) ∨ (ok = true ∧ ∃ j : Nat, k = (j : Int) ∧ a < j ∧ j ≤ s.length ∧ v.size ≤ 40 + (j - a) ∧ ((lit (s.drop a) = some (v, s.drop j) ∧ v.wf) ∨ (lit (s.drop a) = none ∧ (z1s v ≠ 0 ∨ (s.drop j).head? = some 45))))) := by
 have e := drop_cons ha
 have nop : ∀ (c : UInt8) (p : List UInt8), isLet c = true → (c :: p).isPrefixOf (s.drop a) = false := fun c p hc => by
  rw [e]
  simp only [List.isPrefixOf, Bool.and_eq_false_iff, beq_eq_false_iff_ne]
  exact .inl fun q => by rw [q, hlet] at hc; cases hc
 have pre : ∀ r, (if s[a] = 34 then Ev (fun n => (z4r n s (a : Int)).bind fun y5 => some (y5.1, y5.2.1, y5.2.2)) r else Ev (fun n => (z65 n s (a : Int)).bind fun y7 => some (y7.1, y7.2.1, y7.2.2)) r) → Ev (fun n => z30 n s (a : Int) 1) r := fun r h => by
  rw [znu, Ev.yz1 (by rfl), show decide ((a : Int) ≥ (s.length : Int)) = false by simp; omega, zic, Ev.yz1 (by rfl), Ev.zz0 (zbf (by omega) (by decide) (by omega)), nop _ _ (by decide), Ev.yz1 (by rfl), Ev.zz0 (zbf (by omega) (by decide) (by omega)), nop _ _ (by decide), Ev.yz1 (by rfl), Ev.yz2 (yzb ha), b34]
  simp only [yz0.kz2]
  split at h
  ·rename_i h34
   rw [Ev.kz1 (by simpa using h34)]
   exact h
  ·rename_i h34
   rw [Ev.yz1 (by simpa using h34), Ev.yz2 (yzb ha), show (((s[a].toNat : Nat) : Int) != 91) = true by have := b91 s[a]; simp only [bne, this]; simpa using h91, Ev.kz1 (by rfl)]
   exact h
 by_cases h34 : s[a] = 34
 ·replace pre : ∀ r, Ev (fun n => (z4r n s (a : Int)).bind fun y5 => some (y5.1, y5.2.1, y5.2.2)) r → Ev (fun n => z30 n s (a : Int) 1) r := fun r h => pre r (by rw [if_pos h34]; exact h)
  obtain ⟨q1, q2⟩ := yfy (s := s) (by omega) ha
  have hl : lit (s.drop a) = (match scan (s.drop (a + 1)) with
    | some (x, m) => if z1s (zek x) = 0 then some (zek x, (s.drop a).drop (m + 1)) else none
    | none => none) := by
   unfold lit
   rw [if_pos (by rw [e, h34]; rfl)]
   rw [show (s.drop a).tail = s.drop (a + 1) by rw [e]; rfl]
   rfl
  cases hsc : scan (s.drop (a + 1)) with
  | none =>
    refine ⟨0, false, v0, pre _ ?_, .inl ⟨rfl, by rw [hl, hsc]⟩⟩
    rw [Ev.zz0 (q2 hsc), Ev.zz1]
  | some p =>
    obtain ⟨x, m⟩ := p
    obtain ⟨e1, e2, e3⟩ := zon _ x m hsc
    rw [List.length_drop] at e2
    have hsz := ztn x
    refine ⟨((a + 1 + m : Nat) : Int), true, zek x, pre _ ?_, .inr ⟨rfl, a + 1 + m, rfl, by omega, by omega, by omega, ?_⟩⟩
    · rw [Ev.zz0 (q1 x m hsc), Ev.zz1]
    · rw [hl, hsc]
      dsimp only
      by_cases hv : z1s (zek x) = 0
      · rw [if_pos hv, List.drop_drop, show a + (m + 1) = a + 1 + m by omega]
        exact .inl ⟨rfl, y4f x⟩
      · rw [if_neg hv]
        exact .inr ⟨rfl, .inl hv⟩
 ·replace pre : ∀ r, Ev (fun n => (z65 n s (a : Int)).bind fun y7 => some (y7.1, y7.2.1, y7.2.2)) r → Ev (fun n => z30 n s (a : Int) 1) r := fun r h => pre r (by rw [if_neg h34]; exact h)
  have hn := ygs (s := s) (by omega) ha
  have hnl := ysw (s.drop a)
  rw [List.length_drop] at hnl
  have hl : lit (s.drop a) = if (z25 ((s.drop a).takeWhile isNum)).1 = 0 then some (zi6 (z25 ((s.drop a).takeWhile isNum)).2, (s.drop a).drop ((s.drop a).takeWhile isNum).length) else none := by
   unfold lit
   rw [if_neg (by rw [show (s.drop a).head? = some s[a] by rw [e]; rfl]; simpa using h34)]
  refine ⟨_, _, _, pre _ (by rw [Ev.zz0 hn, Ev.zz1]), ?_⟩
  by_cases hz : (z25 (nw (s.drop a))).1 = 0
  ·rw [decide_eq_true hz]
   have hpos : 0 < (nw (s.drop a)).length := by
    cases hq : nw (s.drop a) with
    | nil => rw [hq] at hz; revert hz; decide
    | cons c t => simp
   have hsz := ypx (z25 (nw (s.drop a))).2
   refine .inr ⟨rfl, _, rfl, by omega, by omega, by show (zi6 (z25 (nw (s.drop a))).2).size ≤ _; omega, ?_⟩
   rw [hl]
   rcases ysi (s.drop a) with h | ⟨h1, h2⟩
   ·rw [← h, if_pos hz, List.drop_drop]
    exact .inl ⟨rfl, (vok (zq1 (zax hz).1)).1⟩
   ·rw [if_neg h1]
    refine .inr ⟨rfl, .inr ?_⟩
    rw [List.drop_drop] at h2
    exact h2
  ·rw [decide_eq_false hz]
   refine .inl ⟨rfl, ?_⟩
   rw [hl, if_neg]
   rcases ysi (s.drop a) with h | ⟨h1, h2⟩
   ·rw [← h]; exact hz
   ·exact h1
end Go.Proofs.YtfhpamcehnfhoaaGreatDoor


namespace Go.Proofs.YtfhpamcehnfhoaaGreatDoor
open Go Go.Ab
set_option linter.unusedVariables false
set_option linter.unusedSimpArgs false
def E0 : kz0 := ⟨0, ⟨0, ⟨0, 0⟩, false, [], []⟩, [], []⟩
def zjx (op : Int) (l : List kz0) : kz0 := ⟨op, v0, [], l⟩
theorem yjg {t u : List UInt8} : Ev (fun n => kz7 n t ⟨u⟩) (t.isPrefixOf u, ⟨if t.isPrefixOf u then u.drop t.length else u⟩) := by
 rw [zdz, Ev.zz0 zop, Ev.zz1]
theorem zfr {t u : List UInt8} (h : t.isPrefixOf u = true) : Ev (fun n => kz7 n t ⟨u⟩) (true, ⟨u.drop t.length⟩) := yjg.to (by rw [h]; rfl)
theorem z9q {t u : List UInt8} (h : t.isPrefixOf u = false) : Ev (fun n => kz7 n t ⟨u⟩) (false, ⟨u⟩) := yjg.to (by rw [h]; rfl)
theorem zyn {t u : List UInt8} (h : t.isPrefixOf u = true) : Ev (fun n => yzc n t ⟨u⟩) (.ok ⟨u.drop t.length⟩) := by
 rw [zad, Ev.zz0 (zfr h), Ev.yz1 (by rfl), Ev.zz1]
theorem ycs {t u : List UInt8} (h : t.isPrefixOf u = false) : Ev (fun n => yzc n t ⟨u⟩) (.pan (12, ())) := by
 rw [zad, Ev.zz0 (z9q h), Ev.kz1 (by rfl), Ev.zz0 (zge (by decide))]
 refine Ev.z7q.2 ?_
 rw [Ev.zz1]
theorem zac {c : UInt8} {u : List UInt8} : ([c] : List UInt8).isPrefixOf u = (u.head? == some c) := by
 cases u with
 | nil => rfl
 | cons d t =>
   simp only [List.isPrefixOf, Bool.and_true, List.head?_cons]
   rw [Bool.eq_iff_iff, beq_iff_eq, beq_iff_eq]
   exact ⟨fun h => by rw [h], fun h => (Option.some.inj h).symm⟩
theorem y0x {p s : List UInt8} {k : Nat} (h : p.isPrefixOf (s.drop k) = true) (hk : k ≤ s.length) : k + p.length ≤ s.length := by
 have := zxt h
 rw [List.length_drop] at this
 omega
def Real (s : List UInt8) (a d : Nat) (r : Res (Int × Unit) (yz3 × kz0)) : Prop := Ev (fun n => yzd n (d : Int) ⟨s.drop a⟩) r
def dead (u : List UInt8) (e : kz0) : Prop := z2p e = false ∨ ∃ c, u.head? = some c ∧ isNum c = true
def RR (s : List UInt8) (a d : Nat) : Prop := ∃ (k : Int) (ok : Bool) (e : kz0), Ev (fun n => yzs n s (a : Int) (d : Int)) (k, ok, e) ∧
 ((ok = false ∧ Real s a d (.pan (12, ()))) ∨ (ok = true ∧ ∃ j : Nat, k = (j : Int) ∧ a < j ∧ j ≤ s.length ∧ e.size ≤ 60 * (j - a) ∧ ((Real s a d (.ok (⟨s.drop j⟩, e)) ∧ e.wf) ∨ (Real s a d (.pan (12, ())) ∧ dead (s.drop j) e))))
def zv5 (s : List UInt8) (a d : Nat) (c : UInt8) (acc : List kz0) (r : Res (Int × Unit) (List kz0 × yz3)) : Prop := Ev (fun n => yzf n [c] (d : Int) ⟨s.drop a⟩ acc) r
def SS (s : List UInt8) (a d : Nat) (c : UInt8) (acc : List kz0) : Prop := ∃ (l : List kz0) (k : Int) (ok : Bool), Ev (fun n => z0r n s [c] (d : Int) (a : Int) acc) (l, k, ok) ∧
 ((ok = false ∧ zv5 s a d c acc (.pan (12, ()))) ∨ (ok = true ∧ ∃ (j : Nat) (l' : List kz0), k = (j : Int) ∧ l = acc ++ l' ∧ a < j ∧ j ≤ s.length ∧ (l'.map kz0.size).sum ≤ 60 * (j - a) ∧ ((zv5 s a d c acc (.ok (l, ⟨s.drop j⟩)) ∧ ∀ x ∈ l', x.wf) ∨ (zv5 s a d c acc (.pan (12, ())) ∧ ∃ x ∈ l', z2p x = false))))
theorem yq0 {s : List UInt8} {d N : Nat} {c : UInt8} (hs : s.length ≤ 4000) (hc : isNum c = false) (hR : ∀ a, a ≤ s.length → s.length - a < N → RR s a d) : ∀ M, M ≤ N → ∀ a, a ≤ s.length → s.length - a < M → ∀ acc : List kz0, acc.length + (s.length - a) ≤ 100000 → SS s a d c acc := by
 intro M
 induction M with
 | zero => intro _ a _ h; omega
 | succ M ih =>
   intro hM a ha hlt acc hl
   obtain ⟨k, ok, e, hev, h⟩ := hR a ha (by omega)
   have realp : Real s a d (.pan (12, ())) → zv5 s a d c acc (.pan (12, ())) := fun hp => by
     unfold zv5
     rw [z4i, Ev.zz0 hp]
     refine Ev.z7q.2 ?_
     rw [Ev.zz1]
   rcases h with ⟨hok, hp⟩ | ⟨hok, j, hk, haj, hj, hsz, h⟩
   · subst hok
     refine ⟨[], 0, false, ?_, .inl ⟨rfl, realp hp⟩⟩
     rw [zlc, Ev.zz0 hev, Ev.kz1 (by rfl), Ev.zz1]
   subst hok hk
   have pre : ∀ r, Ev (fun n => (zzg n s (j : Int) [c]).bind fun y3 => pIf y3 (some (acc ++ [e], IntKind.i64.wrap ((j : Int) + 1), true)) ((zzg n s (j : Int) [44, 32]).bind fun y4 => pIf (!y4) (some ([], 0, false)) (z0r n s [c] (d : Int) (IntKind.i64.wrap ((j : Int) + 2)) (acc ++ [e])))) r → Ev (fun n => z0r n s [c] (d : Int) (a : Int) acc) r := fun r h => by
     rw [zlc, Ev.zz0 hev, Ev.yz1 (by rfl), kz0.kz2, Ev.yz2 (yge (by simp; omega))]
     exact h
   have real : ∀ r, Real s a d (.ok (⟨s.drop j⟩, e)) → Ev (fun n => (kz7 n [c] ⟨s.drop j⟩).bind fun y4 => pIf y4.1 (some (Res.ok (acc ++ [e], y4.2))) ((yzc n [44, 32] y4.2).bind fun y5 => zi4 y5 (fun r6 => yzf n [c] (d : Int) r6 (acc ++ [e])) (fun e7 => some (Res.pan (e7.1, ()))))) r → zv5 s a d c acc r := fun r hr h => by
     unfold zv5
     rw [z4i, Ev.zz0 hr]
     refine Ev.z7j.2 ?_
     rw [kz0.kz2, Ev.yz2 (yge (by simp; omega))]
     exact h
   cases hend : ([c] : List UInt8).isPrefixOf (s.drop j)
   · cases hcom : ([44, 32] : List UInt8).isPrefixOf (s.drop j)
     · refine ⟨[], 0, false, pre _ ?_, .inl ⟨rfl, ?_⟩⟩
       · rw [Ev.zz0 (zbf (by omega) (by simp) hj), hend, Ev.yz1 (by rfl), Ev.zz0 (zbf (by omega) (by simp) hj), hcom, Ev.kz1 (by rfl), Ev.zz1]
       · rcases h with ⟨hr, _⟩ | ⟨hr, _⟩
         · refine real _ hr ?_
           rw [Ev.zz0 (z9q hend), Ev.yz1 (by rfl), Ev.zz0 (ycs hcom)]
           refine Ev.z7q.2 ?_
           rw [Ev.zz1]
         · exact realp hr
     · have hj2 := y0x hcom hj
       simp only [List.length_cons, List.length_nil] at hj2
       obtain ⟨l, k, ok, i1, i2⟩ := ih (by omega) (j + 2) (by omega) (by omega) (acc ++ [e]) (by simp; omega)
       have refr : Ev (fun n => z0r n s [c] (d : Int) (a : Int) acc) (l, k, ok) := pre _ (by
         rw [Ev.zz0 (zbf (by omega) (by simp) hj), hend, Ev.yz1 (by rfl), Ev.zz0 (zbf (by omega) (by simp) hj), hcom, Ev.yz1 (by rfl), wI (x := (j : Int) + 2) (by omega)]
         exact i1)
       have realr : ∀ r, Real s a d (.ok (⟨s.drop j⟩, e)) → zv5 s (j + 2) d c (acc ++ [e]) r → zv5 s a d c acc r := fun r hr h => real r hr (by
         rw [Ev.zz0 (z9q hend), Ev.yz1 (by rfl), Ev.zz0 (zyn hcom)]
         refine Ev.z7j.2 ?_
         rw [List.drop_drop]
         exact h)
       refine ⟨l, k, ok, refr, ?_⟩
       have hf : dead (s.drop j) e → z2p e = false := fun h => by
         rcases h with h | ⟨x, h1, h2⟩
         · exact h
         · exfalso
           cases hq : s.drop j with
           | nil => rw [hq] at h1; cases h1
           | cons y t =>
             rw [hq] at h1 hcom
             have : x = y := (Option.some.inj h1).symm
             subst this
             simp only [List.isPrefixOf, Bool.and_eq_true, beq_iff_eq] at hcom
             rw [← hcom.1] at h2
             revert h2; decide
       rcases i2 with ⟨o1, o2⟩ | ⟨o1, j', l', o2, o3, o4, o5, o6, o7⟩
       · refine .inl ⟨o1, ?_⟩
         rcases h with ⟨hr, _⟩ | ⟨hr, _⟩
         · exact realr _ hr o2
         · exact realp hr
       · refine .inr ⟨o1, j', e :: l', o2, by rw [o3, List.append_assoc]; rfl, by omega, o5, ?_, ?_⟩
         · rw [List.map_cons, List.sum_cons]; omega
         · rcases h with ⟨hr, hw⟩ | ⟨hr, hd⟩
           · rcases o7 with ⟨p1, p2⟩ | ⟨p1, x, p2, p3⟩
             · refine .inl ⟨realr _ hr p1, fun x hx => ?_⟩
               rcases List.mem_cons.1 hx with hx | hx
               · rw [hx]; exact hw
               · exact p2 x hx
             · exact .inr ⟨realr _ hr p1, x, List.mem_cons_of_mem _ p2, p3⟩
           · exact .inr ⟨realp hr, e, List.mem_cons_self, hf hd⟩
   · have hj1 := y0x hend hj
     simp only [List.length_cons, List.length_nil] at hj1
     have hf : dead (s.drop j) e → z2p e = false := fun h => by
       rcases h with h | ⟨x, h1, h2⟩
       · exact h
       · exfalso
         rw [zac, h1] at hend
         have : x = c := by simpa using hend
         rw [this, hc] at h2
         cases h2
     refine ⟨acc ++ [e], ((j + 1 : Nat) : Int), true, pre _ ?_, .inr ⟨rfl, j + 1, [e], rfl, rfl, by omega, by omega, by simp; omega, ?_⟩⟩
     · rw [Ev.zz0 (zbf (by omega) (by simp) hj), hend, Ev.kz1 (by rfl), Ev.zz1, wrk (by omega)]
     · rcases h with ⟨hr, hw⟩ | ⟨hr, hd⟩
       · refine .inl ⟨real _ hr ?_, fun x hx => by rw [List.mem_singleton.1 hx]; exact hw⟩
         rw [Ev.zz0 (zfr hend), Ev.kz1 (by rfl), Ev.zz1, List.drop_drop]
         rfl
       · exact .inr ⟨realp hr, e, List.mem_singleton.2 rfl, hf hd⟩
theorem y6f {s : List UInt8} {d N a : Nat} {c : UInt8} (hs : s.length ≤ 4000) (hc : isNum c = false) (hR : ∀ a, a ≤ s.length → s.length - a < N → RR s a d) (ha : a ≤ s.length) (hN : s.length - a < N) :
  ∃ (l : List kz0) (k : Int) (ok : Bool), Ev (fun n => z63 n s (a : Int) (d : Int) [c]) (l, k, ok) ∧
   ((ok = false ∧ Ev (fun n => zzb n (d : Int) [c] ⟨s.drop a⟩) (.pan (12, ()))) ∨ (ok = true ∧ ∃ j : Nat, k = (j : Int) ∧ a < j ∧ j ≤ s.length ∧ (l.map kz0.size).sum ≤ 60 * (j - a) ∧ ((Ev (fun n => zzb n (d : Int) [c] ⟨s.drop a⟩) (.ok (l, ⟨s.drop j⟩)) ∧ ∀ x ∈ l, x.wf) ∨ (Ev (fun n => zzb n (d : Int) [c] ⟨s.drop a⟩) (.pan (12, ())) ∧ ∃ x ∈ l, z2p x = false)))) := by
 cases hend : ([c] : List UInt8).isPrefixOf (s.drop a)
 ·obtain ⟨l, k, ok, h1, h2⟩ := yq0 hs hc hR N (Nat.le_refl _) a ha hN [] (by simp; omega)
  have real : ∀ r, zv5 s a d c [] r → Ev (fun n => zzb n (d : Int) [c] ⟨s.drop a⟩) r := fun r h => by
   rw [z69, Ev.zz0 (z9q hend), Ev.yz1 (by rfl)]
   exact h
  refine ⟨l, k, ok, ?_, ?_⟩
  ·rw [zqk, Ev.zz0 (zbf (by omega) (by simp) ha), hend, Ev.yz1 (by rfl)]
   exact h1
  ·rcases h2 with ⟨o1, o2⟩ | ⟨o1, j, l', o2, o3, o4, o5, o6, o7⟩
   ·exact .inl ⟨o1, real _ o2⟩
   ·rw [List.nil_append] at o3
    subst o3
    refine .inr ⟨o1, j, o2, o4, o5, o6, ?_⟩
    rcases o7 with ⟨p1, p2⟩ | ⟨p1, p2⟩
    ·exact .inl ⟨real _ p1, p2⟩
    ·exact .inr ⟨real _ p1, p2⟩
 ·have hj1 := y0x hend ha
  simp only [List.length_cons, List.length_nil] at hj1
  refine ⟨[], ((a + 1 : Nat) : Int), true, ?_, .inr ⟨rfl, a + 1, rfl, by omega, by omega, by simp, .inl ⟨?_, fun x hx => by cases hx⟩⟩⟩
  ·rw [zqk, Ev.zz0 (zbf (by omega) (by simp) ha), hend, Ev.kz1 (by rfl), Ev.zz1, wrk (by omega)]
  ·rw [z69, Ev.zz0 (zfr hend), Ev.kz1 (by rfl), Ev.zz1, List.drop_drop]
   rfl
def sgn (op : Nat) : List UInt8 := [32] ++ z3w (op : Int) ++ [32]
theorem yns (op : Nat) : (sgn op).length = (z3w op).length + 2 := by unfold sgn; simp
theorem ygz {α : Type} {op : Nat} {k : List UInt8 → Nat → Option α} {r} : Ev (fun n => (z6q n (op : Int)).bind fun y1 => (cat [32] y1).bind fun x2 => (cat x2 [32]).bind fun x3 => k x3 n) r ↔ Ev (fun n => k (sgn op) n) r := by
 have := zaf (op : Int)
 rw [Ev.zz0 zw9, Ev.yz2 (z3r (by simp; omega)), Ev.yz2 (z3r (by simp; omega))]
 rfl
theorem u8k {k : Nat} (h : k < 255) : IntKind.u8.wrap ((k : Int) + 1) = ((k + 1 : Nat) : Int) := by rw [w8 (by omega)]; rfl
theorem yt0 {s : List UInt8} {d j : Nat} {A e : kz0} (hs : s.length ≤ 4000) (hj : j ≤ s.length) (h32 : (s.drop j).head? ≠ some 32) : ∀ op : Nat, op ≤ 11 → Ev (fun n => z1b n (op : Int) s (d : Int) (j : Int) e A) (0, false, E0) :=
 down (by rw [z9o, Ev.yz1 (by rfl), Ev.zz1]; rfl) fun op hop ih => by
  have hp : (sgn op).isPrefixOf (s.drop j) = false := by
   unfold sgn
   cases hq : s.drop j with
   | nil => rfl
   | cons x t =>
     rw [hq] at h32
     simp only [List.cons_append, List.nil_append, List.isPrefixOf, Bool.and_eq_false_iff, beq_eq_false_iff_ne]
     exact .inl fun e => h32 (by rw [← e]; rfl)
  have hl := yns op
  have := zaf (op : Int)
  rw [z9o, Ev.kz1 (by simp; omega), ygz, Ev.zz0 (zbf (by omega) (by omega) hj), hp, Ev.kz1 (by rfl), u8k (by omega)]
  simp only [kz0.kz2]
  exact ih
def BB (s : List UInt8) (j d op : Nat) (A e : kz0) : Prop := ∃ (k : Int) (ok : Bool) (f : kz0), Ev (fun n => z1b n (op : Int) s (d : Int) (j : Int) e A) (k, ok, f) ∧
 ((ok = false ∧ Ev (fun n => zz7 n (op : Int) ((d + 1 : Nat) : Int) ⟨s.drop (j + 1)⟩ e A) (.pan (12, ()))) ∨
   (ok = true ∧ ∃ (i : Nat) (o : Int) (B : kz0), k = (i : Int) ∧ j < i ∧ i ≤ s.length ∧ 0 ≤ o ∧ o ≤ 255 ∧ f = zjx o [A, B] ∧ B.size + 60 ≤ 60 * (i - j) ∧
     ((Ev (fun n => zz7 n (op : Int) ((d + 1 : Nat) : Int) ⟨s.drop (j + 1)⟩ e A) (.ok (⟨s.drop i⟩, f)) ∧ B.wf) ∨ (Ev (fun n => zz7 n (op : Int) ((d + 1 : Nat) : Int) ⟨s.drop (j + 1)⟩ e A) (.pan (12, ())) ∧ z2p B = false))))
theorem yq5 {s : List UInt8} {d j : Nat} {A e : kz0} (hs : s.length ≤ 4000) (hd : d ≤ 100) (hj : j ≤ s.length) (h32 : (s.drop j).head? = some 32) (hR : ∀ a, a ≤ s.length → j < a → RR s a d) : ∀ op : Nat, op ≤ 11 → BB s j d op A e :=
 down (by
  refine ⟨0, false, E0, ?_, .inl ⟨rfl, ?_⟩⟩
  ·rw [z9o, Ev.yz1 (by rfl), Ev.zz1]; rfl
  ·rw [z3k, Ev.yz1 (by rfl), Ev.zz0 (zge (by decide))]
   refine Ev.z7q.2 ?_
   rw [Ev.zz1]) fun op hop ih => by
  have hl := yns op
  have hel := zaf (op : Int)
  have hjl : j < s.length := by
   by_cases h : j < s.length
   ·exact h
   ·rw [List.drop_of_length_le (by omega)] at h32; cases h32
  have hcons := drop_cons hjl
  have h32' : s[j] = 32 := by rw [hcons] at h32; exact Option.some.inj h32
  have hpe : (sgn op).isPrefixOf (s.drop j) = (z3w (op : Int) ++ [32]).isPrefixOf (s.drop (j + 1)) := by
   rw [hcons, h32']
   unfold sgn
   simp [List.isPrefixOf]
  have hcat : cat (z3w (op : Int)) [32] = some (z3w (op : Int) ++ [32]) := z3r (by simp; omega)
  cases hp : (sgn op).isPrefixOf (s.drop j)
  ·obtain ⟨k, ok, f, i1, i2⟩ := ih
   have hq := hp
   rw [hpe] at hq
   refine ⟨k, ok, f, ?_, ?_⟩
   ·rw [z9o, Ev.kz1 (by simp; omega), ygz, Ev.zz0 (zbf (by omega) (by omega) hj), hp, Ev.kz1 (by rfl), u8k (by omega)]
    simp only [kz0.kz2]
    exact i1
   ·have real : ∀ r, Ev (fun n => zz7 n ((op + 1 : Nat) : Int) ((d + 1 : Nat) : Int) ⟨s.drop (j + 1)⟩ e A) r → Ev (fun n => zz7 n (op : Int) ((d + 1 : Nat) : Int) ⟨s.drop (j + 1)⟩ e A) r := fun r h => by
     rw [z3k, Ev.kz1 (by simp; omega), Ev.zz0 zde, Ev.yz2 hcat, Ev.zz0 (z9q hq), Ev.yz1 (by rfl), u8k (by omega)]
     simp only [kz0.kz2]
     exact h
    rcases i2 with ⟨o1, o2⟩ | ⟨o1, i, o, B, o2, o3, o4, o5, o6, o7, o8, o9⟩
    ·exact .inl ⟨o1, real _ o2⟩
    ·refine .inr ⟨o1, i, o, B, o2, o3, o4, o5, o6, o7, o8, ?_⟩
     rcases o9 with ⟨p1, p2⟩ | ⟨p1, p2⟩
     ·exact .inl ⟨real _ p1, p2⟩
     ·exact .inr ⟨real _ p1, p2⟩
  ·have hq := hp
   rw [hpe] at hq
   have hlt := y0x hp hj
   obtain ⟨k, ok, B, i1, i2⟩ := hR (j + (sgn op).length) hlt (by omega)
   have hlen : j + 1 + (z3w (op : Int) ++ [32]).length = j + (sgn op).length := by rw [hl, List.length_append, List.length_singleton]; omega
   have real : ∀ r, Ev (fun n => (yzd n (d : Int) ⟨s.drop (j + (sgn op).length)⟩).bind fun y13 => zi4 y13 (fun r14 => (yzc n [41] r14.1).bind fun y15 => zi4 y15 (fun r16 => some (Res.ok (r16, (kz0.mk (op : Int) (yz0.mk 0 (zz2.mk 0 0) false [] []) [] [A, r14.2])))) (fun e17 => some (Res.pan (e17.1, ())))) (fun e18 => some (Res.pan (e18.1, ())))) r → Ev (fun n => zz7 n (op : Int) ((d + 1 : Nat) : Int) ⟨s.drop (j + 1)⟩ e A) r := fun r h => by
    rw [z3k, Ev.kz1 (by simp; omega), Ev.zz0 zde, Ev.yz2 hcat, Ev.zz0 (zfr hq), Ev.kz1 (by rfl), List.drop_drop, wI (x := ((d + 1 : Nat) : Int) - 1) (by omega), show ((d + 1 : Nat) : Int) - 1 = (d : Int) by omega, hlen]
    simp only [kz0.kz2]
    exact h
   have realp : Real s (j + (sgn op).length) d (.pan (12, ())) → Ev (fun n => zz7 n (op : Int) ((d + 1 : Nat) : Int) ⟨s.drop (j + 1)⟩ e A) (.pan (12, ())) := fun h => real _ (by
    rw [Ev.zz0 h]
    refine Ev.z7q.2 ?_
    rw [Ev.zz1])
   have refp : ∀ r, Ev (fun n => pIf (!ok) (z2f n k (op : Int) true e B A) ((zzg n s k [41]).bind fun y6 => z2f n k (op : Int) (!y6) e B A)) r → Ev (fun n => z1b n (op : Int) s (d : Int) (j : Int) e A) r := fun r h => by
    rw [z9o, Ev.kz1 (by simp; omega), ygz, Ev.zz0 (zbf (by omega) (by omega) hj), hp, Ev.yz1 (by rfl), wI (x := (j : Int) + ((sgn op).length : Int)) (by omega), ← Int.natCast_add, Ev.zz0 i1]
    simp only [kz0.kz2]
    exact h
   have l1t : Ev (fun n => z2f n k (op : Int) true e B A) (0, false, E0) := by rw [zmt, Ev.kz1 (by rfl), Ev.zz1]; rfl
   rcases i2 with ⟨o1, o2⟩ | ⟨o1, i, o2, o3, o4, o5, o6⟩
   ·subst o1
    exact ⟨0, false, E0, refp _ (by rw [Ev.kz1 (by rfl)]; exact l1t), .inl ⟨rfl, realp o2⟩⟩
   ·subst o1 o2
    cases hend : ([41] : List UInt8).isPrefixOf (s.drop i)
    ·refine ⟨0, false, E0, refp _ ?_, .inl ⟨rfl, ?_⟩⟩
     ·rw [Ev.yz1 (by rfl), Ev.zz0 (zbf (by omega) (by simp) o4), hend]
      exact l1t
     ·rcases o6 with ⟨p1, p2⟩ | ⟨p1, p2⟩
      ·refine real _ ?_
       rw [Ev.zz0 p1]
       refine Ev.z7j.2 ?_
       rw [Ev.zz0 (ycs hend)]
       refine Ev.z7q.2 ?_
       rw [Ev.zz1]
      ·exact realp p1
    ·have hi1 := y0x hend o4
     simp only [List.length_cons, List.length_nil] at hi1
     have hf : dead (s.drop i) B → z2p B = false := fun h => by
      rcases h with h | ⟨x, h1, h2⟩
      ·exact h
      ·exfalso
       rw [zac, h1] at hend
       have : x = 41 := by simpa using hend
       rw [this] at h2
       revert h2; decide
     refine ⟨((i + 1 : Nat) : Int), true, zjx (op : Int) [A, B], refp _ ?_, .inr ⟨rfl, i + 1, (op : Int), B, rfl, by omega, by omega, by omega, by omega, rfl, by omega, ?_⟩⟩
     ·rw [Ev.yz1 (by rfl), Ev.zz0 (zbf (by omega) (by simp) o4), hend, zmt, Ev.yz1 (by rfl), Ev.zz1, wrk (by omega)]
      simp only [kz0.kz2]
      rfl
     ·rcases o6 with ⟨p1, p2⟩ | ⟨p1, p2⟩
      ·refine .inl ⟨real _ ?_, p2⟩
       rw [Ev.zz0 p1]
       refine Ev.z7j.2 ?_
       rw [Ev.zz0 (zyn hend)]
       refine Ev.z7j.2 ?_
       rw [Ev.zz1, List.drop_drop]
       rfl
      ·exact .inr ⟨realp p1, hf p2⟩
end Go.Proofs.YtfhpamcehnfhoaaGreatDoor


namespace Go.Proofs.YtfhpamcehnfhoaaGreatDoor
open Go Go.Ab
set_option linter.unusedVariables false
set_option linter.unusedSimpArgs false
def nm : List UInt8 → List UInt8
 | [] => []
 | c :: t => if isLet c = true then c :: t.takeWhile z1k else []
theorem zk1 (c : UInt8) (t : List UInt8) : nm (c :: t) = if isLet c = true then c :: t.takeWhile z1k else [] := rfl
theorem ztx (u : List UInt8) : u.take (nm u).length = nm u := by
 cases u with
 | nil => rfl
 | cons c t =>
   rw [zk1]
   split
   · rw [List.length_cons, List.take_succ_cons, zkl]
   · rfl
theorem ygg (u : List UInt8) : (nm u).length ≤ u.length := by
 have := congrArg List.length (ztx u)
 rw [List.length_take] at this
 omega
theorem zkp {c : UInt8} : isLet c = true ↔ 97 ≤ c.toNat ∧ c.toNat ≤ 122 := by unfold isLet; simp
theorem y0p {c : UInt8} : z1k c = true ↔ (97 ≤ c.toNat ∧ c.toNat ≤ 122) ∨ c.toNat = 45 ∨ (48 ≤ c.toNat ∧ c.toNat ≤ 57) := by
 unfold z1k
 rw [Bool.or_eq_true, Bool.or_eq_true, zkp, z7r, zn5, decide_eq_true_eq, show (45 : UInt8).toNat = 45 by rfl]
 omega
def zjt (c : UInt8) (k : Nat) : Bool := if k = 0 then isLet c else z1k c
theorem y1o {c : UInt8} {k : Nat} : zjt c k = true ↔ (97 ≤ c.toNat ∧ c.toNat ≤ 122) ∨ (0 < k ∧ (c.toNat = 45 ∨ (48 ≤ c.toNat ∧ c.toNat ≤ 57))) := by
 unfold zjt
 split
 ·rw [zkp]; omega
 ·rw [y0p]; omega
theorem z5z {c : UInt8} {k : Nat} {b : Bool} (h : b = true ↔ (97 ≤ c.toNat ∧ c.toNat ≤ 122) ∨ (0 < k ∧ (c.toNat = 45 ∨ (48 ≤ c.toNat ∧ c.toNat ≤ 57)))) : zjt c k = b := by
 rw [Bool.eq_iff_iff, y1o, h]
theorem zly {u : List UInt8} {d : Int} {e : kz0} {k : Nat} {r} (hk : k < u.length) (h : Ev (fun n => zz5 n d (k : Int) (zjt u[k] k) ⟨u⟩ e) r) : Ev (fun n => kzc n (k : Int) d ⟨u⟩ e) r := by
 rw [z1e, Ev.kz1 (by simpa using hk), Ev.yz2 (yzb hk)]
 simp only [kz0.kz2]
 by_cases h97 : 97 ≤ u[k].toNat
 ·rw [Ev.kz1 (by simp; omega), Ev.yz2 (yzb hk)]
  by_cases h122 : u[k].toNat ≤ 122
  ·rw [z5z (b := true) (by simp; omega)] at h
   rw [Ev.kz1 (by simp; omega)]
   exact h
  ·rw [z5z (b := false) (by simp; omega)] at h
   rw [Ev.yz1 (by simp; omega)]
   by_cases h0 : 0 < k
   ·rw [Ev.kz1 (by simp; omega), Ev.yz2 (yzb hk), Ev.yz1 (by simp; omega), Ev.yz2 (yzb hk), Ev.kz1 (by simp; omega), Ev.yz2 (yzb hk), show decide (((u[k].toNat : Nat) : Int) ≤ 57) = false by simp; omega]
    exact h
   ·rw [Ev.yz1 (by simp; omega)]
    exact h
 ·rw [Ev.yz1 (by simp; omega)]
  by_cases h0 : 0 < k
  ·rw [Ev.kz1 (by simp; omega), Ev.yz2 (yzb hk)]
   by_cases h45 : u[k].toNat = 45
   ·rw [z5z (b := true) (by simp; omega)] at h
    rw [Ev.kz1 (by simp; omega)]
    exact h
   ·rw [Ev.yz1 (by simp; omega), Ev.yz2 (yzb hk)]
    by_cases h48 : 48 ≤ u[k].toNat
    ·rw [Ev.kz1 (by simp; omega), Ev.yz2 (yzb hk)]
     rw [z5z (b := decide (((u[k].toNat : Nat) : Int) ≤ 57)) (by simp; omega)] at h
     exact h
    ·rw [z5z (b := false) (by simp; omega)] at h
     rw [Ev.yz1 (by simp; omega)]
     exact h
  ·rw [z5z (b := false) (by simp; omega)] at h
   rw [Ev.yz1 (by simp; omega)]
   exact h
theorem y6c {s : List UInt8} {a : Nat} {d : Int} {e : kz0} {k : Nat} {r} (ha : a ≤ k) (hk : k < s.length) (h : Ev (fun n => zzf n (a : Int) s d (k : Int) (zjt s[k] (k - a)) e) r) : Ev (fun n => z3a n (k : Int) (a : Int) s d e) r := by
 rw [zox, Ev.kz1 (by simpa using hk), Ev.yz2 (yzb hk)]
 simp only [kz0.kz2]
 by_cases h97 : 97 ≤ s[k].toNat
 ·rw [Ev.kz1 (by simp; omega), Ev.yz2 (yzb hk)]
  by_cases h122 : s[k].toNat ≤ 122
  ·rw [z5z (b := true) (by simp; omega)] at h
   rw [Ev.kz1 (by simp; omega)]
   exact h
  ·rw [z5z (b := false) (by simp; omega)] at h
   rw [Ev.yz1 (by simp; omega)]
   by_cases h0 : a < k
   ·rw [Ev.kz1 (by simp; omega), Ev.yz2 (yzb hk), Ev.kz1 (by simp; omega), Ev.yz2 (yzb hk), Ev.yz1 (by simp; omega), Ev.yz2 (yzb hk), show (((s[k].toNat : Nat) : Int) == 45) = false by simp; omega]
    exact h
   ·rw [Ev.yz1 (by simp; omega)]
    exact h
 ·rw [Ev.yz1 (by simp; omega)]
  by_cases h0 : a < k
  ·rw [Ev.kz1 (by simp; omega), Ev.yz2 (yzb hk)]
   by_cases h48 : 48 ≤ s[k].toNat
   ·rw [Ev.kz1 (by simp; omega), Ev.yz2 (yzb hk)]
    by_cases h57 : s[k].toNat ≤ 57
    ·rw [z5z (b := true) (by simp; omega)] at h
     rw [Ev.kz1 (by simp; omega)]
     exact h
    ·rw [z5z (b := false) (by simp; omega)] at h
     rw [Ev.yz1 (by simp; omega), Ev.yz2 (yzb hk), show (((s[k].toNat : Nat) : Int) == 45) = false by simp; omega]
     exact h
   ·rw [Ev.yz1 (by simp; omega), Ev.yz2 (yzb hk)]
    rw [z5z (b := (((s[k].toNat : Nat) : Int) == 45)) (by simp; omega)] at h
    exact h
  ·rw [z5z (b := false) (by simp; omega)] at h
   rw [Ev.yz1 (by simp; omega)]
   exact h
theorem zwe {u : List UInt8} {d : Int} {e : kz0} {r} (hu : u.length ≤ 4000) : ∀ k, k ≤ u.length → 0 < k → Ev (fun n => zz5 n d ((k + ((u.drop k).takeWhile z1k).length : Nat) : Int) false ⟨u⟩ e) r → Ev (fun n => kzc n (k : Int) d ⟨u⟩ e) r :=
 down (fun hk h => by
  rw [List.drop_length] at h
  rw [z1e, Ev.yz1 (by simp), kz0.kz2]
  exact h) fun k hk ih h0 h => by
  refine zly hk ?_
  unfold zjt
  rw [if_neg (by omega)]
  cases hc : z1k u[k]
  ·rw [zmz hk hc] at h
   exact h
  ·rw [zn9 hk hc] at h
   rw [kzw, Ev.kz1 (by rfl), wrk (by omega), kz0.kz2]
   refine ih (by omega) ?_
   rw [show k + 1 + ((u.drop (k + 1)).takeWhile z1k).length = k + (((u.drop (k + 1)).takeWhile z1k).length + 1) by omega]
   exact h
theorem yta {u : List UInt8} {d : Int} {e : kz0} {r} (hu : u.length ≤ 4000) (h : Ev (fun n => zz5 n d ((nm u).length : Int) false ⟨u⟩ e) r) : Ev (fun n => kzc n 0 d ⟨u⟩ e) r := by
 cases u with
 | nil =>
   rw [z1e, Ev.yz1 (by rfl), kz0.kz2]
   exact h
 | cons c t =>
   refine zly (k := 0) (by simp) ?_
   rw [show zjt (c :: t)[0] 0 = isLet c by rfl]
   rw [zk1] at h
   cases hc : isLet c
   · rw [if_neg (by simp [hc])] at h
     exact h
   · rw [if_pos hc, List.length_cons] at h
     rw [kzw, Ev.kz1 (by rfl), show IntKind.i64.wrap (((0 : Nat) : Int) + 1) = ((1 : Nat) : Int) by rfl, kz0.kz2]
     refine zwe hu 1 (by simp) (by decide) ?_
     rw [List.drop_succ_cons, List.drop_zero, show 1 + (t.takeWhile z1k).length = (t.takeWhile z1k).length + 1 by omega]
     exact h
theorem ymg {s : List UInt8} {a : Nat} {d : Int} {e : kz0} {r} (hs : s.length ≤ 4000) : ∀ k, k ≤ s.length → a < k → Ev (fun n => zzf n (a : Int) s d ((k + ((s.drop k).takeWhile z1k).length : Nat) : Int) false e) r → Ev (fun n => z3a n (k : Int) (a : Int) s d e) r :=
 down (fun hk h => by
  rw [List.drop_length] at h
  rw [zox, Ev.yz1 (by simp), kz0.kz2]
  exact h) fun k hk ih h0 h => by
  refine y6c (by omega) hk ?_
  unfold zjt
  rw [if_neg (by omega)]
  cases hc : z1k s[k]
  ·rw [zmz hk hc] at h
   exact h
  ·rw [zn9 hk hc] at h
   rw [zds, Ev.kz1 (by rfl), wrk (by omega), kz0.kz2]
   refine ih (by omega) ?_
   rw [show k + 1 + ((s.drop (k + 1)).takeWhile z1k).length = k + (((s.drop (k + 1)).takeWhile z1k).length + 1) by omega]
   exact h
theorem fname {s : List UInt8} {a : Nat} {d : Int} {e : kz0} {r} (hs : s.length ≤ 4000) (ha : a < s.length) (h : Ev (fun n => zzf n (a : Int) s d ((a + (nm (s.drop a)).length : Nat) : Int) false e) r) : Ev (fun n => z3a n (a : Int) (a : Int) s d e) r := by
 refine y6c (Nat.le_refl _) ha ?_
 rw [show zjt s[a] (a - a) = isLet s[a] by rw [Nat.sub_self]; rfl]
 rw [drop_cons ha] at h
 rw [zk1] at h
 cases hc : isLet s[a]
 ·rw [if_neg (by simp [hc])] at h
  exact h
 ·rw [if_pos hc, List.length_cons] at h
  rw [zds, Ev.kz1 (by rfl), wrk (by omega), kz0.kz2]
  refine ymg hs (a + 1) (by omega) (by omega) ?_
  rw [show a + 1 + ((s.drop (a + 1)).takeWhile z1k).length = a + (((s.drop (a + 1)).takeWhile z1k).length + 1) by omega]
  exact h
theorem y0i (i : Nat) (h : i < 7) : z4p (((11 + i : Nat)) : Int) = z3g[i]'h := by
 rcases (show i = 0 ∨ i = 1 ∨ i = 2 ∨ i = 3 ∨ i = 4 ∨ i = 5 ∨ i = 6 by omega) with rfl | rfl | rfl | rfl | rfl | rfl | rfl <;> rfl
theorem ytn {s name : List UInt8} {d : Int} {a : Nat} {e : kz0} : ∀ i : Nat, i ≤ 7 →
  ((∃ j : Nat, j < 7 ∧ Ev (fun n => kz5 n (i : Int) z3g name 7) (j : Int) ∧ ∀ r, Ev (fun n => (z63 n s (IntKind.i64.wrap ((a : Int) + 1)) (IntKind.i64.wrap (d - 1)) [41]).bind fun y18 => some (y18.2.1, y18.2.2, kz0.mk ((11 + j : Nat) : Int) (yz0.mk 0 (zz2.mk 0 0) false [] []) [] y18.1)) r → Ev (fun n => z0x n ((11 + i : Nat) : Int) d (a : Int) s name e) r) ∨
  (Ev (fun n => kz5 n (i : Int) z3g name 7) (-1) ∧ Ev (fun n => z0x n ((11 + i : Nat) : Int) d (a : Int) s name e) (0, false, E0))) :=
 down (.inr ⟨by rw [yzq, Ev.yz1 (by rfl), Ev.zz1], by rw [zhb, Ev.yz1 (by rfl), Ev.zz1]; rfl⟩) fun i hi ih => by
  have hc := y0i i hi
  have hix : ix z3g (i : Int) = some (z4p ((11 + i : Nat) : Int)) := by rw [hc]; exact yzb (l := z3g) hi
  by_cases he : z4p ((11 + i : Nat) : Int) = name
  ·refine .inl ⟨i, hi, ?_, fun r h => ?_⟩
   ·rw [yzq, Ev.kz1 (by simp; omega), Ev.yz2 hix, Ev.kz1 (by simpa using he.symm), Ev.zz1]
   ·rw [zhb, Ev.kz1 (by simp; omega), Ev.zz0 zqg, Ev.kz1 (by simpa using he)]
    exact h
  ·have step : ∀ r, Ev (fun n => kz5 n ((i + 1 : Nat) : Int) z3g name 7) r → Ev (fun n => kz5 n (i : Int) z3g name 7) r := fun r h => by
    rw [yzq, Ev.kz1 (by simp; omega), Ev.yz2 hix, Ev.yz1 (by simpa using fun q => he q.symm), wrk (by omega)]
    exact h
   have step2 : ∀ r, Ev (fun n => z0x n ((11 + (i + 1) : Nat) : Int) d (a : Int) s name e) r → Ev (fun n => z0x n ((11 + i : Nat) : Int) d (a : Int) s name e) r := fun r h => by
    rw [zhb, Ev.kz1 (by simp; omega), Ev.zz0 zqg, Ev.yz1 (by simpa using he), u8k (by omega), kz0.kz2]
    exact h
   rcases ih with ⟨j, j1, j2, j3⟩ | ⟨j2, j3⟩
   ·exact .inl ⟨j, j1, step _ j2, fun r h => step2 r (j3 r h)⟩
   ·exact .inr ⟨step _ j2, step2 _ j3⟩
theorem y6d : v0.size ≤ 20 := by rw [yz0.size_eq, zz2.size_eq]; simp [v0]
theorem yus : v0.wf := by
 rw [yz0.z9d]
 exact ⟨⟨by decide, by decide⟩, zlg (r := ⟨0, 0⟩) rfl, trivial, trivial, fun y hy => by cases hy⟩
theorem zwv (op : Int) (l : List kz0) : (zjx op l).size ≤ (l.map kz0.size).sum + 30 := by
 have := y6d
 rw [kz0.size_eq]
 show 1 + v0.size + (([] : List UInt8).length + 1) + ((l.map kz0.size).sum + 1) + 1 ≤ _
 simp only [List.length_nil]
 omega
theorem y6a {op : Int} {l : List kz0} (h1 : 0 ≤ op) (h2 : op ≤ 255) (h : ∀ x ∈ l, x.wf) : (zjx op l).wf := by
 rw [kz0.z9d]
 exact ⟨⟨by simpa [IntKind.min, IntKind.signed, zjx] using h1, by simpa [IntKind.max, IntKind.signed, IntKind.bits, zjx] using h2⟩, yus, trivial, h⟩
theorem zts {op : Int} {l : List kz0} {x : kz0} (hx : x ∈ l) (h : z2p x = false) : z2p (zjx op l) = false := by
 cases hf : z2p (zjx op l)
 ·rfl
 ·have := z7p hf x hx
  rw [h] at this
  exact absurd this (by decide)
def zoc (v : yz0) : kz0 := ⟨1, v, [], []⟩
theorem zx9 (v : yz0) : (zoc v).size ≤ v.size + 6 := by
 rw [kz0.size_eq]
 show 1 + v.size + (([] : List UInt8).length + 1) + ((([] : List kz0).map kz0.size).sum + 1) + 1 ≤ _
 simp only [List.length_nil, List.map_nil, List.sum_nil]
 omega
theorem y68 {v : yz0} (h : v.wf) : (zoc v).wf := by
 rw [kz0.z9d]
 exact ⟨⟨by show IntKind.u8.min ≤ 1; decide, by show 1 ≤ IntKind.u8.max; decide⟩, h, trivial, fun y hy => by cases hy⟩
theorem yq9 {v : yz0} (h : z1s v ≠ 0) : z2p (zoc v) = false := by
 cases hf : z2p (zoc v)
 ·rfl
 ·exact (h (yef (zbi hf)).1).elim
def ypj (name : List UInt8) : kz0 := ⟨2, v0, name, []⟩
theorem yp8 (name : List UInt8) : (ypj name).size ≤ name.length + 30 := by
 have := y6d
 rw [kz0.size_eq]
 show 1 + v0.size + (name.length + 1) + ((([] : List kz0).map kz0.size).sum + 1) + 1 ≤ _
 simp only [List.map_nil, List.sum_nil]
 omega
theorem yug (name : List UInt8) : (ypj name).wf := by
 rw [kz0.z9d]
 exact ⟨⟨by show IntKind.u8.min ≤ 2; decide, by show 2 ≤ IntKind.u8.max; decide⟩, yus, trivial, fun y hy => by cases hy⟩
theorem yce (b : Bool) : (zfs b).wf := by
 rw [yz0.z9d]
 exact ⟨⟨by show IntKind.u8.min ≤ 2; decide, by show 2 ≤ IntKind.u8.max; decide⟩, zlg (r := ⟨0, 0⟩) rfl, trivial, trivial, fun y hy => by cases hy⟩
theorem y2f (b : Bool) : (zfs b).size ≤ 20 := by rw [yz0.size_eq, zz2.size_eq]; simp [zfs]
end Go.Proofs.YtfhpamcehnfhoaaGreatDoor


namespace Go.Proofs.YtfhpamcehnfhoaaGreatDoor
open Go Go.Ab
set_option linter.unusedVariables false
set_option linter.unusedSimpArgs false
theorem y40 {d : Nat} (h : d ≤ 100) : IntKind.i64.wrap (((d + 1 : Nat) : Int) - 1) = (d : Int) := by rw [wI (by omega)]; omega
theorem zpg {s : List UInt8} {a d : Nat} (hd : d ≤ 100) {r} (h : Ev (fun n => z6g n ((d + 1 : Nat) : Int) (a : Int) s (decide ((a : Int) ≥ (s.length : Int))) E0) r) : Ev (fun n => yzs n s (a : Int) ((d + 1 : Nat) : Int)) r := by
 rw [zvg, Ev.yz1 (by simp; omega)]
 first | exact h | (simp only [kz0.kz2]; exact h)
theorem zcc {s : List UInt8} {a d : Nat} (hd : d ≤ 100) {r} (h : Ev (fun n => yz6 n ((d + 1 : Nat) : Int) ⟨s.drop a⟩ E0) r) : Real s a (d + 1) r := by
 unfold Real
 rw [za8, Ev.yz1 (by simp; omega)]
 first | exact h | (simp only [kz0.kz2]; exact h)
theorem zp6 {u : List UInt8} {d : Nat} (hu : u.length ≤ 4000) (h40 : u.head? ≠ some 40) (h91 : u.head? ≠ some 91) {r} (h : Ev (fun n => zz5 n ((d + 1 : Nat) : Int) ((nm u).length : Int) false ⟨u⟩ E0) r) : Ev (fun n => yz6 n ((d + 1 : Nat) : Int) ⟨u⟩ E0) r := by
 have p40 : ([40] : List UInt8).isPrefixOf u = false := by rw [zac]; simpa using h40
 have p91 : ([91] : List UInt8).isPrefixOf u = false := by rw [zac]; simpa using h91
 rw [z0m, Ev.zz0 (z9q p40), Ev.yz1 (by rfl), z5l, Ev.zz0 (z9q p91), Ev.yz1 (by rfl)]
 simp only [kz0.kz2]
 exact yta hu h
theorem zri {u : List UInt8} {d : Nat} (hu : u.length ≤ 4000) (h40 : u.head? ≠ some 40) (h91 : u.head? ≠ some 91) (hn : nm u = []) : Ev (fun n => yz6 n ((d + 1 : Nat) : Int) ⟨u⟩ E0) (ylx (lit u)) := by
 refine zp6 hu h40 h91 ?_
 rw [kzw, Ev.yz1 (by rfl), Ev.yz2 (zd7 (ygg u)), Ev.kz1 (by rw [hn]; rfl), Ev.zz0 (zqb hu)]
 cases hl : lit u with
 | none =>
   refine Ev.z7q.2 ?_
   rw [Ev.zz1]; rfl
 | some p =>
   obtain ⟨v, t⟩ := p
   refine Ev.z7j.2 ?_
   rw [Ev.zz1]
   first | rfl | (simp only [kz0.kz2, yz0.kz2]; done) | (simp only [kz0.kz2, yz0.kz2]; rfl)
theorem yuh : lit [] = none := by decide +kernel
theorem head_drop {s : List UInt8} {a : Nat} (ha : a < s.length) : (s.drop a).head? = some s[a] := by rw [drop_cons ha]; rfl
theorem yn4 {s : List UInt8} {a d : Nat} (hs : s.length ≤ 4000) (hd : d ≤ 11) (ha : a < s.length) (hR : ∀ b, b ≤ s.length → a < b → RR s b d) (h40 : s[a] = 40) : RR s a (d + 1) := by
 have e := drop_cons ha
 obtain ⟨k, ok, A, hev, h⟩ := hR (a + 1) (by omega) (by omega)
 have refp : ∀ r, Ev (fun n => pIf (!ok) (some (0, false, E0)) (z1b n 3 s (d : Int) k E0 A)) r → ∃ k' ok' f', r = (k', ok', f') ∧ Ev (fun n => yzs n s (a : Int) ((d + 1 : Nat) : Int)) r := fun r h => by
  obtain ⟨k', ok', f'⟩ := r
  refine ⟨k', ok', f', rfl, zpg (by omega) ?_⟩
  have hi : Ev (fun n => zan n s ((a + 1 : Nat) : Int) (d : Int)) (k', ok', f') := by
   rw [y6v, Ev.zz0 hev]
   first | exact h | (simp only [kz0.kz2]; exact h)
  rw [zat, Ev.yz1 (by simp; omega), Ev.yz2 (yzb ha), b40, Ev.kz1 (by simpa using h40), wrk (by omega), y40 (by omega), Ev.zz0 hi, Ev.zz1]
  first | rfl | (simp only [kz0.kz2, yz0.kz2]; done) | (simp only [kz0.kz2, yz0.kz2]; rfl)
 have p40 : ([40] : List UInt8).isPrefixOf (s.drop a) = true := by rw [zac, head_drop ha, h40]; rfl
 have real : ∀ r, Real s (a + 1) d (.ok r) → ∀ q, Ev (fun n => (yzc n [32] r.1).bind fun y6 => zi4 y6 (fun r7 => zz7 n 3 ((d + 1 : Nat) : Int) r7 E0 r.2) (fun e8 => some (Res.pan (e8.1, ())))) q → Real s a (d + 1) q := fun r hr q h => by
  refine zcc (by omega) ?_
  rw [z0m, Ev.zz0 (zfr p40), Ev.kz1 (by rfl), List.drop_drop, y40 (by omega)]
  refine (Ev.zz0 hr).2 ?_
  refine Ev.z7j.2 ?_
  first | exact h | (simp only [kz0.kz2]; exact h)
 have realp : Real s (a + 1) d (.pan (12, ())) → Real s a (d + 1) (.pan (12, ())) := fun hr => by
  refine zcc (by omega) ?_
  rw [z0m, Ev.zz0 (zfr p40), Ev.kz1 (by rfl), List.drop_drop, y40 (by omega)]
  refine (Ev.zz0 hr).2 ?_
  refine Ev.z7q.2 ?_
  rw [Ev.zz1]
 rcases h with ⟨hok, hp⟩ | ⟨hok, j, hk, haj, hj, hsz, h⟩
 ·subst hok
  obtain ⟨_, _, _, _, hx⟩ := refp (0, false, E0) (by rw [Ev.kz1 (by rfl), Ev.zz1])
  exact ⟨0, false, E0, hx, .inl ⟨rfl, realp hp⟩⟩
 subst hok hk
 by_cases h32 : (s.drop j).head? = some 32
 ·have p32 : ([32] : List UInt8).isPrefixOf (s.drop j) = true := by rw [zac, h32]; rfl
  obtain ⟨k, ok, f, i1, i2⟩ := yq5 (A := A) (e := E0) hs (by omega) hj h32 (fun b hb hjb => hR b hb (by omega)) 3 (by decide)
  obtain ⟨_, _, _, _, hx⟩ := refp (k, ok, f) (by rw [Ev.yz1 (by rfl)]; exact i1)
  have real2 : Real s (a + 1) d (.ok (⟨s.drop j⟩, A)) → ∀ q, Ev (fun n => zz7 n ((3 : Nat) : Int) ((d + 1 : Nat) : Int) ⟨s.drop (j + 1)⟩ E0 A) q → Real s a (d + 1) q := fun hr q h => real _ hr _ (by
   rw [Ev.zz0 (zyn p32)]
   refine Ev.z7j.2 ?_
   rw [List.drop_drop]
   first | exact h | (simp only [kz0.kz2]; exact h))
  have hf : dead (s.drop j) A → z2p A = false := fun h => by
   rcases h with h | ⟨x, h1, h2⟩
   ·exact h
   ·exfalso
    rw [h32] at h1
    rw [← Option.some.inj h1] at h2
    revert h2; decide
  refine ⟨k, ok, f, hx, ?_⟩
  rcases i2 with ⟨o1, o2⟩ | ⟨o1, i, o, B, o2, o3, o4, o5, o6, o7, o8, o9⟩
  ·refine .inl ⟨o1, ?_⟩
   rcases h with ⟨hr, _⟩ | ⟨hr, _⟩
   ·exact real2 hr _ o2
   ·exact realp hr
  ·have hz := zwv o [A, B]
   simp only [List.map_cons, List.map_nil, List.sum_cons, List.sum_nil] at hz
   refine .inr ⟨o1, i, o2, by omega, o4, by rw [o7]; omega, ?_⟩
   rcases h with ⟨hr, hw⟩ | ⟨hr, hdd⟩
   ·rcases o9 with ⟨p1, p2⟩ | ⟨p1, p2⟩
    ·refine .inl ⟨real2 hr _ p1, ?_⟩
     rw [o7]
     refine y6a o5 o6 fun x hx => ?_
     rcases List.mem_cons.1 hx with hx | hx
     ·rw [hx]; exact hw
     ·rw [List.mem_singleton.1 hx]; exact p2
    ·exact .inr ⟨real2 hr _ p1, .inl (by rw [o7]; exact zts (x := B) (by simp) p2)⟩
   ·exact .inr ⟨realp hr, .inl (by rw [o7]; exact zts (x := A) (by simp) (hf hdd))⟩
 ·have p32 : ([32] : List UInt8).isPrefixOf (s.drop j) = false := by rw [zac]; simpa using h32
  obtain ⟨_, _, _, _, hx⟩ := refp (0, false, E0) (by rw [Ev.yz1 (by rfl)]; exact yt0 hs hj h32 3 (by decide))
  refine ⟨0, false, E0, hx, .inl ⟨rfl, ?_⟩⟩
  rcases h with ⟨hr, _⟩ | ⟨hr, _⟩
  ·refine real _ hr _ ?_
   rw [Ev.zz0 (ycs p32)]
   refine Ev.z7q.2 ?_
   rw [Ev.zz1]
  ·exact realp hr
theorem ypt {s : List UInt8} {a d N : Nat} (hs : s.length ≤ 4000) (hd : d ≤ 11) (ha : a < s.length) (hR : ∀ b, b ≤ s.length → s.length - b < N → RR s b d) (hN : s.length - (a + 1) < N) (h91 : s[a] = 91) : RR s a (d + 1) := by
 obtain ⟨l, k, ok, h1, h2⟩ := y6f (c := 93) hs (by decide) hR (a := a + 1) (by omega) hN
 have p91 : ([91] : List UInt8).isPrefixOf (s.drop a) = true := by rw [zac, head_drop ha, h91]; rfl
 have p40 : ([40] : List UInt8).isPrefixOf (s.drop a) = false := by rw [zac, head_drop ha, h91]; rfl
 have refr : Ev (fun n => yzs n s (a : Int) ((d + 1 : Nat) : Int)) (k, ok, zjx 18 l) := by
  refine zpg (by omega) ?_
  rw [zat, Ev.yz1 (by simp; omega), Ev.yz2 (yzb ha), b40, Ev.yz1 (by rw [h91]; rfl), Ev.yz2 (yzb ha), b91, Ev.kz1 (by rw [h91]; rfl), wrk (by omega), y40 (by omega), Ev.zz0 h1, Ev.zz1]
  first | rfl | (simp only [kz0.kz2, yz0.kz2]; done) | (simp only [kz0.kz2, yz0.kz2]; rfl)
 have real : ∀ r q, Ev (fun n => zzb n (d : Int) [93] ⟨s.drop (a + 1)⟩) r → Ev (fun n => zi4 r (fun r24 => some (Res.ok (r24.2, (kz0.mk 18 (yz0.mk 0 (zz2.mk 0 0) false [] []) [] r24.1)))) (fun e25 => some (Res.pan (e25.1, ())))) q → Real s a (d + 1) q := fun r q hr h => by
  refine zcc (by omega) ?_
  rw [z0m, Ev.zz0 (z9q p40), Ev.yz1 (by rfl), z5l, Ev.zz0 (zfr p91), Ev.kz1 (by rfl), List.drop_drop, y40 (by omega)]
  refine (Ev.zz0 hr).2 ?_
  first | exact h | (simp only [kz0.kz2]; exact h)
 have realp : Ev (fun n => zzb n (d : Int) [93] ⟨s.drop (a + 1)⟩) (.pan (12, ())) → Real s a (d + 1) (.pan (12, ())) := fun hr => real _ _ hr (by
  refine Ev.z7q.2 ?_
  rw [Ev.zz1])
 refine ⟨k, ok, zjx 18 l, refr, ?_⟩
 rcases h2 with ⟨o1, o2⟩ | ⟨o1, j, o2, o3, o4, o5, o6⟩
 ·exact .inl ⟨o1, realp o2⟩
 ·have hz := zwv 18 l
  refine .inr ⟨o1, j, o2, by omega, o4, by omega, ?_⟩
  rcases o6 with ⟨p1, p2⟩ | ⟨p1, x, p2, p3⟩
  ·refine .inl ⟨real _ _ p1 ?_, y6a (by decide) (by decide) p2⟩
   refine Ev.z7j.2 ?_
   rw [Ev.zz1]; rfl
  ·exact .inr ⟨realp p1, .inl (zts p2 p3)⟩
theorem yq2 {s : List UInt8} {a d N : Nat} (hs : s.length ≤ 4000) (hd : d ≤ 11) (ha : a < s.length) (hR : ∀ b, b ≤ s.length → s.length - b < N → RR s b d) (hN : s.length - (a + 1) < N) (h40 : s[a] ≠ 40) (h91 : s[a] ≠ 91) : RR s a (d + 1) := by
 have hu : (s.drop a).length ≤ 4000 := by rw [List.length_drop]; omega
 have q40 : (s.drop a).head? ≠ some 40 := by rw [head_drop ha]; simpa using h40
 have q91 : (s.drop a).head? ≠ some 91 := by rw [head_drop ha]; simpa using h91
 have hnl := ygg (s.drop a)
 have hnl2 := hnl
 rw [List.length_drop] at hnl2
 have hsub : sub s (a : Int) ((a + (nm (s.drop a)).length : Nat) : Int) = some (nm (s.drop a)) := by
  rw [zbc (by omega) (by omega), List.drop_take, Nat.add_sub_cancel_left, ztx]
 have ref0 : ∀ r, Ev (fun n => zzf n (a : Int) s ((d + 1 : Nat) : Int) ((a + (nm (s.drop a)).length : Nat) : Int) false E0) r → Ev (fun n => yzs n s (a : Int) ((d + 1 : Nat) : Int)) r := fun r h => by
  refine zpg (by omega) ?_
  rw [zat, Ev.yz1 (by simp; omega), Ev.yz2 (yzb ha), b40, Ev.yz1 (by simpa using h40), Ev.yz2 (yzb ha), b91, Ev.yz1 (by simpa using h91)]
  simp only [kz0.kz2]
  exact fname hs ha h
 by_cases hn : nm (s.drop a) = []
 ·have hlet : isLet s[a] = false := by
   cases hc : isLet s[a]
   ·rfl
   ·rw [drop_cons ha] at hn; rw [zk1] at hn; rw [if_pos hc] at hn; cases hn
  obtain ⟨k, ok, v, h1, h2⟩ := yp2 hs ha hlet h91
  have refr : Ev (fun n => yzs n s (a : Int) ((d + 1 : Nat) : Int)) (k, ok, zoc v) := ref0 _ (by
   rw [zds, Ev.yz1 (by rfl), Ev.yz2 hsub, Ev.kz1 (by rw [hn]; simp), zah, Ev.kz1 (by rfl), Ev.zz0 h1, Ev.zz1]
   first | rfl | (simp only [kz0.kz2, yz0.kz2]; done) | (simp only [kz0.kz2, yz0.kz2]; rfl))
  have real := zri (d := d) hu q40 q91 hn
  refine ⟨k, ok, zoc v, refr, ?_⟩
  rcases h2 with ⟨o1, o2⟩ | ⟨o1, j, o2, o3, o4, o5, o6⟩
  ·rw [o2] at real
   exact .inl ⟨o1, zcc (by omega) real⟩
  ·have hz := zx9 v
   refine .inr ⟨o1, j, o2, o3, o4, by omega, ?_⟩
   rcases o6 with ⟨p1, p2⟩ | ⟨p1, p2⟩
   ·rw [p1] at real
    exact .inl ⟨zcc (by omega) real, y68 p2⟩
   ·rw [p1] at real
    refine .inr ⟨zcc (by omega) real, ?_⟩
    rcases p2 with p2 | p2
    ·exact .inl (yq9 p2)
    ·exact .inr ⟨45, p2, by decide⟩
 ·have hpos : 0 < (nm (s.drop a)).length := List.length_pos_iff.2 hn
  have ref1 : ∀ r b, b = ((nm (s.drop a) == [116, 114, 117, 101]) || (nm (s.drop a) == [102, 97, 108, 115, 101])) → Ev (fun n => z5b n (a : Int) s ((a + (nm (s.drop a)).length : Nat) : Int) (nm (s.drop a)) ((d + 1 : Nat) : Int) b E0) r → Ev (fun n => yzs n s (a : Int) ((d + 1 : Nat) : Int)) r := fun r b hb h => ref0 _ (by
   rw [zds, Ev.yz1 (by rfl), Ev.yz2 hsub, Ev.yz1 (by simp; omega)]
   simp only [kz0.kz2]
   cases ht : nm (s.drop a) == [116, 114, 117, 101]
   ·rw [Ev.yz1 (by rfl)]
    rw [ht, Bool.false_or] at hb
    rw [← hb]
    first | exact h | (simp only [kz0.kz2]; exact h)
   ·rw [Ev.kz1 (by rfl)]
    rw [ht, Bool.true_or] at hb
    rw [← hb]
    first | exact h | (simp only [kz0.kz2]; exact h))
  have real1 : ∀ r b, b = ((nm (s.drop a) == [116, 114, 117, 101]) || (nm (s.drop a) == [102, 97, 108, 115, 101])) → Ev (fun n => kzn n (nm (s.drop a)) ((nm (s.drop a)).length : Int) ((d + 1 : Nat) : Int) b ⟨s.drop a⟩ E0) r → Real s a (d + 1) r := fun r b hb h => zcc (by omega) (zp6 hu q40 q91 (by
   rw [kzw, Ev.yz1 (by rfl), Ev.yz2 (zd7 hnl), ztx, Ev.yz1 (by simp; omega)]
   simp only [kz0.kz2]
   cases ht : nm (s.drop a) == [116, 114, 117, 101]
   ·rw [Ev.yz1 (by rfl)]
    rw [ht, Bool.false_or] at hb
    rw [← hb]
    first | exact h | (simp only [kz0.kz2]; exact h)
   ·rw [Ev.kz1 (by rfl)]
    rw [ht, Bool.true_or] at hb
    rw [← hb]
    exact h))
  have hrest : sub (s.drop a) ((nm (s.drop a)).length : Int) ((s.drop a).length : Int) = some (s.drop (a + (nm (s.drop a)).length)) := by
   rw [zbc hnl (Nat.le_refl _), List.take_length, List.drop_drop]
  have htk := ztx (s.drop a)
  by_cases ht : nm (s.drop a) = [116, 114, 117, 101]
  ·have hl : (nm (s.drop a)).length = 4 := by rw [ht]; rfl
   rw [ht] at htk
   refine ⟨((a + 4 : Nat) : Int), true, zoc (zfs true), ref1 _ true (by rw [ht]; rfl) ?_, .inr ⟨rfl, a + 4, rfl, by omega, by omega, ?_, .inl ⟨real1 _ true (by rw [ht]; rfl) ?_, y68 (yce _)⟩⟩⟩
   ·have hr : Ev (fun n => z30 n s (a : Int) 1) (((a + 4 : Nat) : Int), true, zfs true) := by
     rw [znu, Ev.yz1 (by rfl), show decide ((a : Int) ≥ (s.length : Int)) = false by simp; omega, zic, Ev.yz1 (by rfl), Ev.zz0 (zbf (by omega) (by decide) (by omega)), show ([116, 114, 117, 101] : List UInt8).isPrefixOf (s.drop a) = true by rw [zxg]; simpa using htk, Ev.kz1 (by rfl), Ev.zz0 yc2, Ev.zz1, wI (by omega), yz0.kz2]
     first | rfl | (simp only [kz0.kz2, yz0.kz2]; done) | (simp only [kz0.kz2, yz0.kz2]; rfl)
    rw [zah, Ev.kz1 (by rfl), Ev.zz0 hr, Ev.zz1]
    first | rfl | (simp only [kz0.kz2, yz0.kz2]; done) | (simp only [kz0.kz2, yz0.kz2]; rfl)
   ·have := zx9 (zfs true)
    have := y2f true
    omega
   ·rw [zzx, Ev.kz1 (by rfl), Ev.yz2 hrest, Ev.zz0 zl2, Ev.zz1, hl, ht, yz0.kz2]
    first | rfl | (simp only [kz0.kz2, yz0.kz2]; done) | (simp only [kz0.kz2, yz0.kz2]; rfl)
  by_cases hf : nm (s.drop a) = [102, 97, 108, 115, 101]
  ·have hl : (nm (s.drop a)).length = 5 := by rw [hf]; rfl
   rw [hf] at htk
   have hnt : ([116, 114, 117, 101] : List UInt8).isPrefixOf (s.drop a) = false := by
    rw [drop_cons ha] at htk ⊢
    simp only [List.length_cons, List.take_succ_cons, List.cons.injEq] at htk
    rw [htk.1]
    first | rfl | (simp only [kz0.kz2, yz0.kz2]; done) | (simp only [kz0.kz2, yz0.kz2]; rfl)
   refine ⟨((a + 5 : Nat) : Int), true, zoc (zfs false), ref1 _ true (by rw [hf]; rfl) ?_, .inr ⟨rfl, a + 5, rfl, by omega, by omega, ?_, .inl ⟨real1 _ true (by rw [hf]; rfl) ?_, y68 (yce _)⟩⟩⟩
   ·have hr : Ev (fun n => z30 n s (a : Int) 1) (((a + 5 : Nat) : Int), true, zfs false) := by
     rw [znu, Ev.yz1 (by rfl), show decide ((a : Int) ≥ (s.length : Int)) = false by simp; omega, zic, Ev.yz1 (by rfl), Ev.zz0 (zbf (by omega) (by decide) (by omega)), hnt, Ev.yz1 (by rfl), Ev.zz0 (zbf (by omega) (by decide) (by omega)), show ([102, 97, 108, 115, 101] : List UInt8).isPrefixOf (s.drop a) = true by rw [zxg]; simpa using htk, Ev.kz1 (by rfl), Ev.zz0 yc2, Ev.zz1, wI (by omega), yz0.kz2]
     first | rfl | (simp only [kz0.kz2, yz0.kz2]; done) | (simp only [kz0.kz2, yz0.kz2]; rfl)
    rw [zah, Ev.kz1 (by rfl), Ev.zz0 hr, Ev.zz1]
    first | rfl | (simp only [kz0.kz2, yz0.kz2]; done) | (simp only [kz0.kz2, yz0.kz2]; rfl)
   ·have := zx9 (zfs false)
    have := y2f false
    omega
   ·rw [zzx, Ev.kz1 (by rfl), Ev.yz2 hrest, Ev.zz0 zl2, Ev.zz1, hl, hf, yz0.kz2]
    first | rfl | (simp only [kz0.kz2, yz0.kz2]; done) | (simp only [kz0.kz2, yz0.kz2]; rfl)
  have hno : false = ((nm (s.drop a) == [116, 114, 117, 101]) || (nm (s.drop a) == [102, 97, 108, 115, 101])) := by simp [ht, hf]
  generalize hend : a + (nm (s.drop a)).length = j at *
  cases hp : ([40] : List UInt8).isPrefixOf (s.drop j)
  ·refine ⟨(j : Int), true, ypj (nm (s.drop a)), ref1 _ false hno ?_, .inr ⟨rfl, j, rfl, by omega, by omega, ?_, .inl ⟨real1 _ false hno ?_, yug _⟩⟩⟩
   ·rw [zah, Ev.yz1 (by rfl), Ev.zz0 (zbf (by omega) (by decide) (by omega)), hp, Ev.kz1 (by rfl), Ev.zz1]
    first | rfl | (simp only [kz0.kz2, yz0.kz2]; done) | (simp only [kz0.kz2, yz0.kz2]; rfl)
   ·have := yp8 (nm (s.drop a))
    omega
   ·rw [zzx, Ev.yz1 (by rfl), Ev.yz2 hrest, Ev.zz0 (z9q hp), Ev.kz1 (by rfl), Ev.zz1]
    first | rfl | (simp only [kz0.kz2, yz0.kz2]; done) | (simp only [kz0.kz2, yz0.kz2]; rfl)
  ·have hj1 := y0x hp (by omega)
   simp only [List.length_cons, List.length_nil] at hj1
   have ref2 : ∀ r, Ev (fun n => z0x n ((11 + 0 : Nat) : Int) ((d + 1 : Nat) : Int) (j : Int) s (nm (s.drop a)) E0) r → Ev (fun n => yzs n s (a : Int) ((d + 1 : Nat) : Int)) r := fun r h => ref1 _ false hno (by
    rw [zah, Ev.yz1 (by rfl), Ev.zz0 (zbf (by omega) (by decide) (by omega)), hp, Ev.yz1 (by rfl)]
    simp only [kz0.kz2]
    first | exact h | (simp only [kz0.kz2]; exact h))
   have real2 : ∀ i r, Ev (fun n => kz5 n ((0 : Nat) : Int) z3g (nm (s.drop a)) 7) i → Ev (fun n => pIf (decide (i < 0)) ((zzq n 12).bind fun y44 => zi4 y44 (fun r45 => zzo n ((d + 1 : Nat) : Int) i ⟨s.drop (j + 1)⟩ E0) (fun e46 => some (Res.pan (e46.1, ())))) (zzo n ((d + 1 : Nat) : Int) i ⟨s.drop (j + 1)⟩ E0)) r → Real s a (d + 1) r := fun i r hi h => real1 _ false hno (by
    have hix : Ev (fun n => kze n z3g (nm (s.drop a))) i := by rw [z7h]; exact hi
    rw [zzx, Ev.yz1 (by rfl), Ev.yz2 hrest, Ev.zz0 (zfr hp), Ev.yz1 (by rfl), Ev.zz0 zrm, Ev.zz0 hix, List.drop_drop]
    simp only [kz0.kz2]
    first | exact h | (simp only [kz0.kz2]; exact h))
   rcases ytn (s := s) (name := nm (s.drop a)) (d := ((d + 1 : Nat) : Int)) (a := j) (e := E0) 0 (by decide) with ⟨i, i1, i2, i3⟩ | ⟨i2, i3⟩
   ·obtain ⟨l, k, ok, h1, h2⟩ := y6f (c := 41) hs (by decide) hR (a := j + 1) (by omega) (by omega)
    have refr : Ev (fun n => yzs n s (a : Int) ((d + 1 : Nat) : Int)) (k, ok, zjx ((11 + i : Nat) : Int) l) := ref2 _ (i3 _ (by
     rw [wrk (by omega), y40 (by omega), Ev.zz0 h1, Ev.zz1]; rfl))
    have real : ∀ r q, Ev (fun n => zzb n (d : Int) [41] ⟨s.drop (j + 1)⟩) r → Ev (fun n => zi4 r (fun r48 => some (Res.ok (r48.2, (kz0.mk ((11 + i : Nat) : Int) (yz0.mk 0 (zz2.mk 0 0) false [] []) [] r48.1)))) (fun e49 => some (Res.pan (e49.1, ())))) q → Real s a (d + 1) q := fun r q hr h => real2 _ _ i2 (by
     rw [Ev.yz1 (by simp), zbd, y40 (by omega)]
     refine (Ev.zz0 hr).2 ?_
     rw [w8 (k := (i : Int)) (by omega), w8 (by omega)]
     first | exact h | (simp only [kz0.kz2]; exact h))
    have realp : Ev (fun n => zzb n (d : Int) [41] ⟨s.drop (j + 1)⟩) (.pan (12, ())) → Real s a (d + 1) (.pan (12, ())) := fun hr => real _ _ hr (by
     refine Ev.z7q.2 ?_
     rw [Ev.zz1])
    refine ⟨k, ok, zjx ((11 + i : Nat) : Int) l, refr, ?_⟩
    rcases h2 with ⟨o1, o2⟩ | ⟨o1, j', o2, o3, o4, o5, o6⟩
    ·exact .inl ⟨o1, realp o2⟩
    ·have hz := zwv ((11 + i : Nat) : Int) l
     refine .inr ⟨o1, j', o2, by omega, o4, by omega, ?_⟩
     rcases o6 with ⟨p1, p2⟩ | ⟨p1, x, p2, p3⟩
     ·refine .inl ⟨real _ _ p1 ?_, y6a (by omega) (by omega) p2⟩
      refine Ev.z7j.2 ?_
      rw [Ev.zz1]; rfl
     ·exact .inr ⟨realp p1, .inl (zts p2 p3)⟩
   ·refine ⟨0, false, E0, ref2 _ i3, .inl ⟨rfl, real2 _ _ i2 ?_⟩⟩
    rw [Ev.kz1 (by rfl), Ev.zz0 (zge (by decide))]
    refine Ev.z7q.2 ?_
    rw [Ev.zz1]
theorem yra {s : List UInt8} (hs : s.length ≤ 4000) : ∀ N a d : Nat, a ≤ s.length → s.length - a < N → d ≤ 12 → RR s a d := by
 intro N
 induction N with
 | zero => intro a d _ h; omega
 | succ N ih =>
   intro a d ha hN hd
   cases d with
   | zero =>
     refine ⟨0, false, E0, ?_, .inl ⟨rfl, ?_⟩⟩
     · rw [zvg, Ev.kz1 (by rfl), zat, Ev.kz1 (by rfl), Ev.zz1]; rfl
     · unfold Real
       rw [za8, Ev.kz1 (by rfl), Ev.zz0 (zge (by decide))]
       refine Ev.z7q.2 ?_
       rw [Ev.zz1]
   | succ d =>
     by_cases hlt : a < s.length
     · by_cases h40 : s[a] = 40
       · exact yn4 hs (by omega) hlt (fun b hb hab => ih b d hb (by omega) (by omega)) h40
       by_cases h91 : s[a] = 91
       · exact ypt hs (by omega) hlt (fun b hb hab => ih b d hb hab (by omega)) (by omega) h91
       · exact yq2 hs (by omega) hlt (fun b hb hab => ih b d hb hab (by omega)) (by omega) h40 h91
     · have hnil : s.drop a = [] := List.drop_of_length_le (by omega)
       refine ⟨0, false, E0, zpg (by omega) ?_, .inl ⟨rfl, zcc (by omega) ?_⟩⟩
       · rw [zat, Ev.kz1 (by simp; omega), Ev.zz1]; rfl
       · have := zri (u := s.drop a) (d := d) (by rw [hnil]; decide) (by rw [hnil]; simp) (by rw [hnil]; simp) (by rw [hnil]; rfl)
         rw [hnil, yuh] at this
         rw [hnil]
         exact this
end Go.Proofs.YtfhpamcehnfhoaaGreatDoor


namespace Go.Proofs.YtfhpamcehnfhoaaGreatDoor
open Go Go.Ab
set_option linter.unusedVariables false
set_option linter.unusedSimpArgs false
theorem y45 : ∀ e : kz0, e.size ≤ 8388608 → Ev (fun n => z6t n e e) true := zsy fun e ih hs => by
 have hsz := z5w e
 have hln := zak e.args
 have loop : ∀ k, k ≤ e.args.length → Ev (fun n => z1y n (k : Int) e e) true :=
  down (by rw [zof, Ev.yz1 (by simp), Ev.zz1]) fun k hk ihk => by
   have hm := List.getElem_mem hk
   rw [zof, Ev.kz1 (by simpa using hk), Ev.yz2 (yzb hk), Ev.yz2 (yzb hk)]
   simp only [kz0.kz2]
   rw [Ev.zz0 (ih _ hm (by have := zcs hm; omega)), Ev.yz1 (by rfl), wrk (by omega)]
   exact ihk
 rw [y9s, Ev.yz1 (by simp), Ev.yz1 (by simp)]
 simp only [kz0.kz2, yz0.kz2]
 rw [Ev.zz0 (y6p _ _ (by omega)), Ev.yz1 (by simp), y1g, Ev.yz1 (by simp)]
 simp only [kz0.kz2]
 exact loop 0 (Nat.zero_le _)
noncomputable def chk (e : kz0) : Int × kz0 := if z98 e = 0 then (0, e) else (12, E0)
theorem ytx : E0.size ≤ 100 := by
 rw [kz0.size_eq]
 have := y6d
 show 1 + v0.size + (([] : List UInt8).length + 1) + ((([] : List kz0).map kz0.size).sum + 1) + 1 ≤ _
 simp only [List.length_nil, List.map_nil, List.sum_nil]
 omega
theorem yh1 {e : kz0} : Ev (fun n => z2e n true E0 e) (12, E0) := by rw [zn7, Ev.kz1 (by rfl), Ev.zz1]; rfl
theorem zq3 {e : kz0} : Ev (fun n => kzj n true E0 e) (12, E0) := by rw [zai, Ev.kz1 (by rfl), Ev.zz1]; rfl
theorem yu8 {e : kz0} (hs : e.size ≤ 8388608) : Ev (fun n => (z1n n e).bind fun y1 => z2e n (y1 != 0) E0 e) (chk e) := by
 rw [Ev.zz0 (zin hs)]
 unfold chk
 by_cases h : z98 e = 0
 ·rw [h, if_pos rfl, zn7, Ev.yz1 (by rfl), Ev.zz1, kz0.kz2]
 ·rw [if_neg h, show (z98 e != 0) = true by simpa using h]
  exact yh1
theorem ye0 {e : kz0} (hw : e.wf) (hs : e.size ≤ 8388608) : Ev (fun n => (z2z n e).bind fun y1 => kzj n (y1 != 0) E0 e) (chk e) := by
 rw [Ev.zz0 (zps hw hs)]
 unfold chk
 by_cases h : z98 e = 0
 ·rw [h, if_pos rfl, zai, Ev.yz1 (by rfl), Ev.zz1, kz0.kz2]
 ·rw [if_neg h, show (z98 e != 0) = true by simpa using h]
  exact zq3
theorem zed {s : List UInt8} (hs : s.length ≤ 4000) {r : Res (Int × Unit) (yz3 × kz0)} (h : Ev (fun n => yzd n 12 ⟨s⟩) r) :
  (∀ e, r = .pan e → e.1 ≠ 0 → Ev (fun n => z07 n s) (12, E0)) ∧ (∀ t e, r = .ok (⟨t⟩, e) → e.wf → e.size ≤ 8388608 → Ev (fun n => z07 n s) (if t = [] then chk e else (12, E0))) := by
 refine ⟨fun p hp hz => ?_, fun t e hr hw hz => ?_⟩
 ·subst hp
  have hrd : Ev (fun n => z2a n s) (E0, p.1) := by
   rw [zbg, Ev.zz0 h]
   refine Ev.z7q.2 ?_
   refine Ev.zz1 (x := (E0, p.1)).2 rfl
  rw [z8j, Ev.yz1 (by simp; omega), Ev.zz0 hrd, Ev.kz1 (by simpa using hz)]
  exact zq3
 ·subst hr
  by_cases ht : t = []
  ·subst ht
   rw [if_pos rfl]
   have hrd : Ev (fun n => z2a n s) (e, 0) := by
    rw [zbg, Ev.zz0 h]
    refine Ev.z7j.2 ?_
    rw [Ev.yz1 (by rfl)]
    simp only [kz0.kz2]
    refine Ev.zz1 (x := (e, (0 : Int))).2 rfl
   rw [z8j, Ev.yz1 (by simp; omega), Ev.zz0 hrd, Ev.yz1 (by rfl)]
   simp only [kz0.kz2]
   exact ye0 hw hz
  ·rw [if_neg ht]
   have hrd : Ev (fun n => z2a n s) (e, 12) := by
    rw [zbg, Ev.zz0 h]
    refine Ev.z7j.2 ?_
    rw [Ev.kz1 (by simpa using ht), Ev.zz0 (zge (by decide))]
    refine Ev.z7q.2 ?_
    simp only [kz0.kz2]
    refine Ev.zz1 (x := (e, (12 : Int))).2 rfl
   rw [z8j, Ev.yz1 (by simp; omega), Ev.zz0 hrd, Ev.kz1 (by rfl)]
   exact zq3
theorem ykr (s : List UInt8) : ∃ (c : Int) (e : kz0), Ev (fun n => z07 n s) (c, e) ∧ Ev (fun n => z90 n s) (c, e) ∧ e.size ≤ 8388608 := by
 have hE := ytx
 by_cases hs : s.length ≤ 4000
 ·obtain ⟨k, ok, e, h1, h2⟩ := yra hs (s.length + 1) 0 12 (Nat.zero_le _) (by omega) (Nat.le_refl _)
  have real : ∀ r, Real s 0 12 r → Ev (fun n => yzd n 12 ⟨s⟩) r := fun r h => by
   unfold Real at h
   rw [List.drop_zero] at h
   exact h
  have h1' : Ev (fun n => yzs n s 0 12) (k, ok, e) := h1
  rcases h2 with ⟨o1, o2⟩ | ⟨o1, j, o2, o3, o4, o5, o6⟩
  ·refine ⟨12, E0, (zed hs (real _ o2)).1 _ rfl (by decide), ?_, by omega⟩
   subst o1
   rw [zm9, Ev.yz1 (by simp; omega), Ev.zz0 h1', Ev.kz1 (by rfl)]
   exact yh1
  ·subst o1 o2
   have href : Ev (fun n => z90 n s) (if s.drop j = [] then chk e else (12, E0)) := by
    rw [zm9, Ev.yz1 (by simp; omega), Ev.zz0 h1', Ev.yz1 (by rfl)]
    simp only [kz0.kz2]
    by_cases hj : j = s.length
    ·rw [if_pos (List.drop_of_length_le (by omega)), Ev.yz1 (by simp; omega)]
     exact yu8 (by omega)
    ·rw [if_neg (by intro q; have := congrArg List.length q; simp at this; omega), Ev.kz1 (by simp; omega)]
     exact yh1
   have hsz : (if s.drop j = [] then chk e else (12, E0)).2.size ≤ 8388608 := by
    unfold chk
    split
    ·split
     ·show e.size ≤ _; omega
     ·show E0.size ≤ _; omega
    ·show E0.size ≤ _; omega
   rcases o6 with ⟨p1, p2⟩ | ⟨p1, p2⟩
   ·exact ⟨_, _, (zed hs (real _ p1)).2 _ _ rfl p2 (by omega), href, hsz⟩
   ·have he : (if s.drop j = [] then chk e else (12, E0)) = (12, E0) := by
     by_cases hn : s.drop j = []
     ·rw [if_pos hn]
      unfold chk
      rw [if_neg]
      intro hc
      rcases p2 with p2 | ⟨c, p2, _⟩
      ·rw [(zj4 hc).1] at p2; cases p2
      ·rw [hn] at p2; cases p2
     ·rw [if_neg hn]
    rw [he] at href
    exact ⟨12, E0, (zed hs (real _ p1)).1 _ rfl (by decide), href, by omega⟩
 ·refine ⟨12, E0, ?_, ?_, by omega⟩
  ·rw [z8j, Ev.kz1 (by simp; omega), Ev.zz1]; rfl
  ·rw [zm9, Ev.kz1 (by simp; omega), Ev.zz1]; rfl
theorem yka (e : kz0) (s : List UInt8) (hw : e.wf) (hs : e.size + s.length ≤ 8388608) : ∃ n, zzv n e s = some true := by
 refine Ev.get (r := true) ?_
 have lt : Ev (fun n => kzl n s true e) true := by rw [zbk, Ev.kz1 (by rfl), Ev.zz1]
 have lf : Ev (fun n => kzl n s false e) true := by
  obtain ⟨c, f, h1, h2, h3⟩ := ykr s
  rw [zbk, Ev.yz1 (by rfl)]
  simp only [kz0.kz2]
  rw [Ev.zz0 (y1h hw (by omega)), Ev.zz0 (ykz (by omega)), Ev.zz0 h1, Ev.zz0 h2, Ev.kz1 (by simp), Ev.kz1 (by simp), Ev.zz0 (y45 f h3), Ev.kz1 (by rfl), Ev.zz1]
  simp
 rw [zmg]
 simp only [kz0.kz2]
 obtain ⟨g, hg⟩ := y1v (e := e) (by omega)
 rw [Ev.zz0 hg]
 cases g
 ·rw [Ev.yz1 (by rfl)]
  cases hd : decide ((s.length : Int) > 5000)
  ·exact lf
  ·exact lt
 ·rw [Ev.kz1 (by rfl)]; exact lt
theorem ypb (e : kz0) (s : List UInt8) (hw : e.wf) (hs : e.size + s.length ≤ 1048576) : ∃ n, zzv n e s = some true := yka e s hw (by omega)
end Go.Proofs.YtfhpamcehnfhoaaGreatDoor

