/-
  VALUES: ORDER, SUMS, LENGTHS, ELEMENTS.
-/
import Derived.Test.YtfhpamcehnfhoaaGreatDoorOwn2
import Derived.Test.YtfhpamcehnfhoaaGreatDoorLib6
import Derived.Test.YtfhpamcehnfhoaaGreatDoorLib8
namespace Go.Proofs.YtfhpamcehnfhoaaGreatDoor
open Go Go.Ab
set_option linter.unusedVariables false
set_option linter.unusedSimpArgs false
mutual
noncomputable def z9d : zz0 → zz0 → Int × Int
 | ⟨k, q, t, s, l⟩, b =>
   if k ≠ b.kind then (0, 20)
   else if k = 1 then (y8p q b.num, 0)
   else if k = 2 then ((if t = b.truth then 0 else if t then 1 else -1), 0)
   else if k = 3 then (Lib.compareBytes s b.str, 0)
   else z3a l b.list
noncomputable def z3a : List zz0 → List zz0 → Int × Int
 | [], [] => (0, 0)
 | [], _ :: _ => (-1, 0)
 | _ :: _, [] => (1, 0)
 | x :: l, y :: m => if eqB x y then z3a l m else z9d x y
end
theorem zns (a b : zz0) : z9d a b =
  if a.kind ≠ b.kind then (0, 20)
  else if a.kind = 1 then (y8p a.num b.num, 0)
  else if a.kind = 2 then ((if a.truth = b.truth then 0 else if a.truth then 1 else -1), 0)
  else if a.kind = 3 then (Lib.compareBytes a.str b.str, 0)
  else z3a a.list b.list := by cases a; rw [z9d]
theorem zen {v : zz0} (h : z3x v = true) (hk : v.kind = 1) : rok v.num = true := by
 rw [z5x, if_pos hk] at h; simp only [Bool.and_eq_true] at h; exact h.1
theorem z5z {v : zz0} (h : z3x v = true) : ∀ x ∈ v.list, z3x x = true := by
 rw [z5x] at h
 split at h
 ·simp only [Bool.and_eq_true, List.isEmpty_iff] at h; rw [h.2.2.2]; intro x hx; cases hx
 split at h
 ·simp only [Bool.and_eq_true, List.isEmpty_iff] at h; rw [h.2.2]; intro x hx; cases hx
 split at h
 ·simp only [Bool.and_eq_true, List.isEmpty_iff] at h; rw [h.2.2.1]; intro x hx; cases hx
 split at h
 ·simp only [Bool.and_eq_true, zpm, List.all_eq_true] at h; exact h.2.2.2
 ·cases h
theorem strings_Compare {a b : List UInt8} : Ev (fun n => z09 n a b) (Lib.compareBytes a b) := by
 rw [z81, Ev.kz0 (a := fun n => zzm n a b) (y := Lib.compareBytes a b) (.pure rfl), Ev.yz0]
theorem zh9 : ∀ a b : zz0, a.size ≤ 2097152 → z3x a = true → z3x b = true → Ev (fun n => z0c n a b) (z9d a b) := zj1 (P := fun a => ∀ b : zz0, a.size ≤ 2097152 → z3x a = true → z3x b = true → Ev (fun n => z0c n a b) (z9d a b)) fun a ih b hs hfa hfb => by
 have hsl := yzp a
 have hlen := z3m a.list
 rw [zbj, zns]
 by_cases h0 : a.kind = b.kind
 case neg => rw [Ev.yz2 (by simpa using h0), if_pos h0, Ev.yz0]
 rw [Ev.kz1 (by simpa using h0), if_neg (by simpa using h0)]
 by_cases h1 : a.kind = 1
 ·rw [Ev.yz2 (by simpa using h1), if_pos h1, Ev.kz0 (zw9 (zen hfa h1) (zen hfb (by omega))), Ev.yz0]
 rw [Ev.kz1 (by simpa using h1), if_neg h1]
 by_cases h2 : a.kind = 2
 ·rw [Ev.yz2 (by simpa using h2), if_pos h2]
  cases a.truth <;> cases b.truth <;> simp [Ev.pif, Ev.yz0]
 rw [Ev.kz1 (by simpa using h2), if_neg h2]
 by_cases h3 : a.kind = 3
 ·rw [Ev.yz2 (by simpa using h3), if_pos h3, Ev.kz0 strings_Compare, Ev.yz0]
 rw [Ev.kz1 (by simpa using h3), if_neg h3, zz0.zz3, zz0.zz3]
 have loop : ∀ k, k ≤ a.list.length → k ≤ b.list.length → Ev (fun n => yzj n (k : Int) a.list (a.list.length : Int) b a) (z3a (a.list.drop k) (b.list.drop k)) :=
  down (Q := fun k => k ≤ b.list.length → Ev (fun n => yzj n (k : Int) a.list (a.list.length : Int) b a) (z3a (a.list.drop k) (b.list.drop k))) (fun hb => by
   rw [z4g, Ev.kz1 (by simp), List.drop_length]
   by_cases hlt : a.list.length < b.list.length
   ·rw [Ev.yz2 (by simpa using hlt), Ev.yz0, ← List.getElem_cons_drop (h := hlt), z3a]
   ·rw [Ev.kz1 (by simpa using hlt), Ev.yz0, List.drop_of_length_le (by omega), z3a]) fun k hk ihk hb => by
   have hx := List.getElem_mem hk
   have hsx := z98 hx
   rw [z4g, Ev.yz2 (by simpa using hk), Ev.kz3 (z0u hk), ← List.getElem_cons_drop (h := hk)]
   by_cases he : k = b.list.length
   ·rw [Ev.yz2 (by simp; omega), Ev.yz0, List.drop_of_length_le (l := b.list) (by omega), z3a]
   ·have hk2 : k < b.list.length := by omega
    rw [Ev.kz1 (by simp; omega), Ev.kz3 (z0u hk2), zz0.zz3, zz0.zz3, Ev.kz0 (zg3 _ _ (by omega)), ← List.getElem_cons_drop (h := hk2), z3a]
    cases hf : eqB a.list[k] b.list[k]
    ·rw [Ev.yz2 (by rfl), Ev.kz3 (z0u hk2), zz0.zz3, Ev.kz0 (ih _ hx _ (by omega) (z5z hfa _ hx) (z5z hfb _ (List.getElem_mem hk2))), Ev.yz0]; rfl
    ·rw [Ev.kz1 (by rfl), wrk (by omega), zz0.zz3, zz0.zz3, if_pos rfl]
     exact ihk (by omega)
 exact loop 0 (Nat.zero_le _) (Nat.zero_le _)
theorem z0h {v : zz0} (h : zz9 v = 0) : z3x v = true ∧ z14 v ≤ 100 ∧ z7n v ≤ 6 := by
 unfold zz9 at h
 split at h
 ·cases h
 ·split at h
  ·exact ⟨‹_›, by omega, by omega⟩
  ·cases h
def z7d (a b : zz0) : Int := if zz9 a = 0 then zz9 b else zz9 a
theorem zb7 {a b : zz0} (ha : a.wf) (hb : b.wf) (sa : a.size ≤ 2097152) (sb : b.size ≤ 2097152) : Ev (fun n => z33 n a b) (z7d a b) := by
 rw [zda, zz0.zz3, zz0.zz3, Ev.kz0 (z5o ha sa)]
 unfold z7d
 by_cases h : zz9 a = 0
 ·rw [Ev.kz1 (by simpa using h), Ev.kz0 (z5o hb sb), if_pos h, Ev.yz0]
 ·rw [Ev.yz2 (by simpa using h), if_neg h, Ev.yz0]
theorem zdi {a b : zz0} (h : z7d a b = 0) : zz9 a = 0 ∧ zz9 b = 0 := by
 unfold z7d at h
 split at h
 ·exact ⟨‹_›, h⟩
 ·exact (‹¬ _› h).elim
noncomputable def z5j (a b : zz0) : Int × Int := if z7d a b = 0 then z9d a b else (0, z7d a b)
theorem zm3 {a b : zz0} (ha : a.wf) (hb : b.wf) (sa : a.size ≤ 2097152) (sb : b.size ≤ 2097152) : Ev (fun n => z15 n a b) (z5j a b) := by
 rw [z9i, zz0.zz3, zz0.zz3, Ev.kz0 (zb7 ha hb sa sb)]
 unfold z5j
 by_cases h : z7d a b = 0
 ·obtain ⟨h1, h2⟩ := zdi h
  rw [Ev.kz1 (by simpa using h), if_pos h, Ev.kz0 (zh9 a b sa (z0h h1).1 (z0h h2).1), Ev.yz0]
 ·rw [Ev.yz2 (by simpa using h), if_neg h, Ev.yz0]
theorem zuw {α : Type} {x y : List α} (h : x.length + y.length ≤ 268435456) : ext x y = some (x ++ y) := by unfold ext; rw [if_pos (by simpa [zct] using h)]
def zq3 (a b : zz0) : Int × zz0 :=
 if z7d a b ≠ 0 then (z7d a b, v0)
 else if a.kind ≠ b.kind ∨ a.kind = 2 then (20, v0)
 else if a.kind = 1 then (if (z95 zne a.num b.num).1 ≠ 0 then ((z95 zne a.num b.num).1, v0) else (0, ⟨1, (z95 zne a.num b.num).2, false, [], []⟩))
 else if a.kind = 3 then (if a.str.length + b.str.length > 60 then (4, v0) else (0, ⟨3, ⟨0, 0⟩, false, a.str ++ b.str, []⟩))
 else (if z14 a + z14 b - 1 > 100 then (4, v0) else (0, ⟨4, ⟨0, 0⟩, false, [], a.list ++ b.list⟩))
theorem zaz {v : zz0} (h : z3x v = true) : v.kind = 1 ∨ v.kind = 2 ∨ v.kind = 3 ∨ v.kind = 4 := by
 rw [z5x] at h
 by_cases h1 : v.kind = 1; · exact .inl h1
 by_cases h2 : v.kind = 2; · exact .inr (.inl h2)
 by_cases h3 : v.kind = 3; · exact .inr (.inr (.inl h3))
 by_cases h4 : v.kind = 4; · exact .inr (.inr (.inr h4))
 rw [if_neg h1, if_neg h2, if_neg h3, if_neg h4] at h; cases h
theorem zwi {a b : zz0} (ha : a.wf) (hb : b.wf) (sa : a.size ≤ 2097152) (sb : b.size ≤ 2097152) : Ev (fun n => z4x n a b) (zq3 a b) := by
 have l0 : ∀ a0 a1 a2 a3 a4 a5 a6 a7 a8 a9 a10 a11, Ev (fun n => z0m n a0 a1 a2 a3 a4 a5 a6 a7 a8 a9 a10 a11) (0, ⟨a5, ⟨a6, a7⟩, a8, a9, a11⟩) := fun a0 a1 a2 a3 a4 a5 a6 a7 a8 a9 a10 a11 => by rw [za4, Ev.yz0]
 rw [zfb, zz0.zz3, zz0.zz3, Ev.kz0 (zb7 ha hb sa sb)]
 unfold zq3
 by_cases h : z7d a b = 0
 case neg => rw [Ev.yz2 (by simpa using h), if_pos h, Ev.yz0]; rfl
 obtain ⟨c1, c2⟩ := zdi h
 obtain ⟨f1, p1, _⟩ := z0h c1
 obtain ⟨f2, p2, _⟩ := z0h c2
 rw [Ev.kz1 (by simpa using h), if_neg (by simpa using h)]
 by_cases hk : a.kind = b.kind
 case neg => rw [Ev.yz2 (by simpa using hk), if_pos (.inl hk), Ev.yz0]; rfl
 rw [Ev.kz1 (by simpa using hk)]
 by_cases h1 : a.kind = 1
 ·rw [Ev.yz2 (by simpa using h1), if_neg (by omega), if_pos h1, Ev.kz0 (zwc (zfn ha) (zfn hb))]
  by_cases hr : (z95 zne a.num b.num).1 = 0
  ·rw [Ev.kz1 (by simpa using hr), if_neg (by simpa using hr)]
   exact (l0 _ _ _ _ _ _ _ _ _ _ _ _).to (by rw [h1])
  ·rw [Ev.yz2 (by simpa using hr), if_pos hr, Ev.yz0]; rfl
 rw [Ev.kz1 (by simpa using h1)]
 by_cases h3 : a.kind = 3
 ·rw [Ev.yz2 (by simpa using h3), if_neg (by omega), if_neg h1, if_pos h3]
  have s1 := yzp a; have s2 := yzp b
  rw [Ev.kz3 (yi0 (by omega))]
  by_cases hl : a.str.length + b.str.length > 60
  ·rw [Ev.yz2 (by simp; omega), if_pos hl, Ev.yz0]; rfl
  ·rw [Ev.kz1 (by simp; omega), if_neg hl]
   exact (l0 _ _ _ _ _ _ _ _ _ _ _ _).to (by rw [h3])
 rw [Ev.kz1 (by simpa using h3)]
 by_cases h4 : a.kind = 4
 ·rw [Ev.yz2 (by simpa using h4), if_neg (by omega), if_neg h1, if_neg h3, Ev.kz0 (z8z a sa), Ev.kz0 (z8z b sb), wI (x := _ + _) (by simp only; omega), wI (x := _ - 1) (by simp only; omega)]
  have q1 := z02 a; have q2 := z02 b
  rw [if_pos h4] at q1
  rw [if_pos (by omega)] at q2
  by_cases hl : z14 a + z14 b - 1 > 100
  ·rw [Ev.yz2 (by simp; omega), if_pos hl, Ev.yz0]; rfl
  ·have s1 := yzp a; have s2 := yzp b
   have n1 := z3m a.list; have n2 := z3m b.list
   rw [Ev.kz1 (by simp; omega), if_neg hl, Ev.kz0 (zae sa), Ev.kz0 (zae sb), Ev.kz3 (zuw (by simp only; omega))]
   exact (l0 _ _ _ _ _ _ _ _ _ _ _ _).to (by rw [h4])
 ·rw [Ev.kz1 (by simpa using h4), Ev.yz0]
  have := zaz f1
  rw [if_pos (by omega)]; rfl
def z5y (v : zz0) : Int × Int := if zz9 v ≠ 0 then (0, zz9 v) else if v.kind = 3 then (v.str.length, 0) else if v.kind = 4 then (v.list.length, 0) else (0, 20)
theorem zg0 {v : zz0} (hw : v.wf) (hs : v.size ≤ 2097152) : Ev (fun n => z3c n v) (z5y v) := by
 rw [zfk, zz0.zz3, Ev.kz0 (z5o hw hs)]
 unfold z5y
 by_cases h : zz9 v = 0
 ·rw [Ev.kz1 (by simpa using h), if_neg (by simpa using h)]
  by_cases h3 : v.kind = 3
  ·rw [Ev.yz2 (by simpa using h3), if_pos h3, Ev.yz0]
  rw [Ev.kz1 (by simpa using h3), if_neg h3]
  by_cases h4 : v.kind = 4
  ·rw [Ev.yz2 (by simpa using h4), if_pos h4, Ev.yz0]
  ·rw [Ev.kz1 (by simpa using h4), if_neg h4, Ev.yz0]
 ·rw [Ev.yz2 (by simpa using h), if_pos h, Ev.yz0]
def vat (v : zz0) (i : Int) : Int × zz0 :=
 if (z5y v).2 ≠ 0 then ((z5y v).2, v0)
 else if i < 0 ∨ i ≥ (z5y v).1 then (2, v0)
 else if v.kind = 4 then (match v.list[i.toNat]? with | some x => (0, x) | none => (0, v0))
 else (0, ⟨3, ⟨0, 0⟩, false, (v.str.drop i.toNat).take 1, []⟩)
theorem zsj {v : zz0} (h : (z5y v).2 = 0) : zz9 v = 0 ∧ ((v.kind = 3 ∧ (z5y v).1 = v.str.length) ∨ (v.kind = 4 ∧ (z5y v).1 = v.list.length)) := by
 unfold z5y at h ⊢
 by_cases h0 : zz9 v = 0
 ·refine ⟨h0, ?_⟩
  rw [if_neg (by simpa using h0)] at h ⊢
  by_cases h3 : v.kind = 3
  ·rw [if_pos h3]; exact .inl ⟨h3, rfl⟩
  rw [if_neg h3] at h ⊢
  by_cases h4 : v.kind = 4
  ·rw [if_pos h4]; exact .inr ⟨h4, rfl⟩
  ·rw [if_neg h4] at h; cases h
 ·rw [if_pos h0] at h; exact (h0 h).elim
theorem sub_one {s : List UInt8} {i : Int} (h0 : 0 ≤ i) (h1 : i < s.length) : sub s i (i + 1) = some ((s.drop i.toNat).take 1) := by
 unfold sub
 rw [if_pos ⟨h0, by omega, by omega⟩, show (i + 1).toNat = i.toNat + 1 by omega, List.take_drop]
theorem y0d {v : zz0} {i : Int} (hw : v.wf) (hs : v.size ≤ 2097152) : Ev (fun n => z5p n v i) (vat v i) := by
 have bad : ∀ a2, Ev (fun n => z2m n i true a2 v) (2, v0) := fun a2 => by rw [z6i, Ev.yz2 (by rfl), Ev.yz0]; rfl
 rw [zh6, zz0.zz3, Ev.kz0 (zg0 hw hs)]
 unfold vat
 by_cases h : (z5y v).2 = 0
 case neg => rw [Ev.yz2 (by simpa using h), if_pos h, Ev.yz0]; rfl
 rw [Ev.kz1 (by simpa using h), if_neg (by simpa using h)]
 by_cases c1 : i < 0
 ·rw [Ev.yz2 (by simpa using c1), if_pos (.inl c1)]; exact bad _
 rw [Ev.kz1 (by simpa using c1)]
 by_cases c2 : i ≥ (z5y v).1
 ·rw [show decide (i ≥ (z5y v).1) = true by simpa using c2, if_pos (.inr c2)]; exact bad _
 rw [show decide (i ≥ (z5y v).1) = false by simpa using c2, if_neg (by omega), z6i, Ev.kz1 (by rfl)]
 have s1 := yzp v
 have n1 := z3m v.list
 obtain ⟨_, ⟨h3, e⟩ | ⟨h4, e⟩⟩ := zsj h
 ·rw [Ev.kz1 (by simp; omega), if_neg (by omega), wI (by omega), Ev.kz3 (sub_one (by omega) (by omega)), Ev.yz0]
 ·have hk : i.toNat < v.list.length := by omega
  obtain ⟨j, rfl⟩ : ∃ j : Nat, i = j := ⟨i.toNat, by omega⟩
  have hk : j < v.list.length := by simpa using hk
  have hx := z98 (List.getElem_mem hk)
  rw [Ev.yz2 (by simpa using h4), if_pos h4, Ev.kz3 (z0u hk), zz0.zz3, Ev.kz0 (znw (by omega)), Ev.yz0, zz0.zz3]
  simp [hk]
end Go.Proofs.YtfhpamcehnfhoaaGreatDoor


namespace Go.Proofs.YtfhpamcehnfhoaaGreatDoor
open Go Go.Ab
set_option linter.unusedVariables false
set_option linter.unusedSimpArgs false
theorem y30 {s : List UInt8} (hs : s.length ≤ 2097152) : Ev (fun n => z3q n s) (zfc s) := by
 have l3t : ∀ q, Ev (fun n => yzu n true s q) false := fun q => by rw [zbx, Ev.yz2 (by rfl), Ev.yz0]
 have step : ∀ k (hk : k < s.length) (r : Bool), ((if k = 0 then isLet s[k] else zde s[k]) = false → r = false) → ((if k = 0 then isLet s[k] else zde s[k]) = true → Ev (fun n => z01 n s (k + 1)) r) → Ev (fun n => z01 n s k) r := fun k hk r hf ht => by
  have l3 : ∀ b, (if k = 0 then isLet s[k] else zde s[k]) = !b → (b = false → (zhq s k).2 = 1) → Ev (fun n => yzu n b s (k + (zhq s k).2)) r := fun b hb h1 => by
   cases b
   ·rw [zbx, Ev.kz1 (by rfl), h1 rfl]; exact ht hb
   ·exact (l3t _).to (hf hb).symm
  rw [zcq, Ev.yz2 (by simpa using hk)]
  by_cases hlow : s[k].toNat < 128
  ·have hd := yo7 hk hlow
   rw [hd] at l3
   rw [hd]
   have l2 : ∀ b, b = isLet s[k] → Ev (fun n => z27 n (s[k].toNat : Int) (k : Int) b s (k + 1)) r := fun b hb => by
    subst hb
    rw [zcf]
    cases hl : isLet s[k]
    ·rw [Ev.yz2 (by rfl)]
     by_cases h0 : k = 0
     ·rw [Ev.yz2 (by simpa using h0)]
      exact l3 true (by rw [if_pos h0, hl]; rfl) (by simp)
     ·rw [Ev.kz1 (by simpa using h0)]
      by_cases h45 : s[k].toNat = 45
      ·have : s[k] = 45 := UInt8.toNat_inj.1 (by simpa using h45)
       rw [Ev.kz1 (by simp; omega)]
       exact l3 false (by rw [if_neg h0, zde, this]; rfl) (fun _ => rfl)
      ·have hne : (s[k] == 45) = false := by
        simp only [beq_eq_false_iff_ne]; intro h; rw [h] at h45; exact h45 rfl
       rw [Ev.yz2 (by simp; omega)]
       by_cases c1 : s[k].toNat < 48
       ·rw [Ev.yz2 (by simp; omega)]
        refine l3 true ?_ (by simp)
        rw [if_neg h0, zde, hl, hne, y7m]; simp; omega
       ·rw [Ev.kz1 (by simp; omega)]
        refine l3 _ ?_ (fun _ => rfl)
        rw [if_neg h0, zde, hl, hne, y7m]
        have e1 : decide (48 ≤ s[k].toNat) = true := by rw [decide_eq_true_eq]; omega
        have e3 : decide ((s[k].toNat : Int) > 57) = !decide (s[k].toNat ≤ 57) := by
         by_cases c2 : s[k].toNat ≤ 57
         ·rw [show decide (s[k].toNat ≤ 57) = true by rw [decide_eq_true_eq]; exact c2]
          simp only [Bool.not_true, decide_eq_false_iff_not]; omega
         ·rw [show decide (s[k].toNat ≤ 57) = false by rw [decide_eq_false_iff_not]; exact c2]
          simp only [Bool.not_false, decide_eq_true_eq]; omega
        rw [e1, e3]; simp
    ·rw [Ev.kz1 (by rfl)]
     refine l3 false ?_ (fun _ => rfl)
     split
     ·exact hl
     ·rw [zde, hl]; rfl
   simp only
   by_cases c1 : 97 ≤ s[k].toNat
   ·rw [Ev.yz2 (by simp; omega)]
    exact l2 _ (by simp [isLet, c1]; omega)
   ·rw [Ev.kz1 (by simp; omega)]
    exact l2 _ (by simp [isLet]; omega)
  ·obtain ⟨h1, h2⟩ := yly hk (by omega)
   have nl : isLet s[k] = false := by simp [isLet]; omega
   have nm : zde s[k] = false := by
    rw [zde, nl, y7m]
    have : (s[k] == 45) = false := by simp only [beq_eq_false_iff_ne]; intro h; rw [h] at hlow; exact hlow (by decide)
    rw [this]; simp; omega
   have bad : (if k = 0 then isLet s[k] else zde s[k]) = false := by split <;> assumption
   rw [Ev.yz2 (by simp; omega), show decide (((zhq s k).1 : Int) ≤ 122) = false by simp; omega, zcf, Ev.yz2 (by rfl)]
   by_cases h0 : k = 0
   ·rw [Ev.yz2 (by simpa using h0)]; exact (l3t _).to (hf bad).symm
   ·rw [Ev.kz1 (by simpa using h0), Ev.yz2 (by simp; omega), Ev.kz1 (by simp; omega), show decide (((zhq s k).1 : Int) > 57) = true by simp; omega]
    exact (l3t _).to (hf bad).symm
 have rest : ∀ k, k ≤ s.length → 1 ≤ k → Ev (fun n => z01 n s k) ((s.drop k).all zde) :=
  down (Q := fun k => 1 ≤ k → Ev (fun n => z01 n s k) ((s.drop k).all zde)) (fun _ => by
   rw [zcq, Ev.kz1 (by simp), Ev.yz0]; simp) fun k hk ih h1 => by
   rw [← List.getElem_cons_drop (h := hk), List.all_cons]
   refine step k hk _ (fun h => ?_) fun h => ?_
   ·rw [if_neg (by omega)] at h; rw [h]; rfl
   ·rw [if_neg (by omega)] at h; rw [h]; exact ih (by omega)
 rw [zmc]
 cases s with
 | nil => rw [Ev.yz2 (by rfl), zco, Ev.yz2 (by rfl), Ev.yz0]; rfl
 | cons c t =>
   rw [Ev.kz1 (by simp; omega), zco]
   by_cases h40 : (c :: t).length ≤ 40
   · rw [Ev.kz1 (by simp at h40 ⊢; omega)]
     refine step 0 (by simp) _ (fun h => ?_) fun h => ?_
     · rw [if_pos rfl] at h; simp only [List.getElem_cons_zero] at h; simp [zfc, h]
     · rw [if_pos rfl] at h; simp only [List.getElem_cons_zero] at h
       refine (rest 1 (by simp) (Nat.le_refl _)).to ?_
       simp [zfc, h]; intro _; simpa using h40
   · rw [Ev.yz2 (by simp at h40 ⊢; omega), Ev.yz0]
     simp [zfc]; intro _ _; simpa using h40
theorem yc8 {c : UInt8} : Ev (fun n => z0o n (c.toNat : Int)) (isLet c) := by
 rw [zi1]
 simp only [Ev.pif, Ev.yz0, isLet, decide_eq_true_eq]
 split
 ·have : 97 ≤ c.toNat := by omega
  simp [this]; omega
 ·have : ¬ 97 ≤ c.toNat := by omega
  simp [this]
theorem yds {c : UInt8} : Ev (fun n => z1f n (c.toNat : Int)) (y7m c) := by
 rw [zjh]
 simp only [Ev.pif, Ev.yz0, y7m, decide_eq_true_eq]
 split
 ·have : 48 ≤ c.toNat := by omega
  simp [this]; omega
 ·have : ¬ 48 ≤ c.toNat := by omega
  simp [this]
theorem yqb {c : UInt8} : (((c.toNat : Nat) : Int) != 45) = !(c == 45) := by
 cases h : c == 45 with
 | true => have : c = 45 := by simpa using h
           subst this; rfl
 | false =>
   have : c.toNat ≠ 45 := fun hh => by
     have : c = 45 := UInt8.toNat_inj.1 (by simpa using hh)
     subst this; cases h
   simp; omega
theorem y2o {s : List UInt8} (hs : s.length ≤ 2097152) : Ev (fun n => z0x n s) (zfc s) := by
 have bad : ∀ k : Int, Ev (fun n => yze n s k true) false := fun k => by rw [zbp, Ev.yz2 (by rfl), Ev.yz0]
 have step : ∀ k (hk : k < s.length) (r : Bool), ((if k = 0 then isLet s[k] else zde s[k]) = false → r = false) → ((if k = 0 then isLet s[k] else zde s[k]) = true → Ev (fun n => yzf n ((k + 1 : Nat) : Int) s) r) → Ev (fun n => yzf n (k : Int) s) r := fun k hk r hf ht => by
  have l1 : ∀ b, (if k = 0 then isLet s[k] else zde s[k]) = !b → Ev (fun n => yze n s (k : Int) b) r := fun b hb => by
   cases b
   ·rw [zbp, Ev.kz1 (by rfl), wrk (by omega)]; exact ht hb
   ·exact (bad _).to (hf hb).symm
  rw [zcs, Ev.yz2 (by simpa using hk), Ev.kz3 (z0u hk), Ev.kz0 yc8]
  cases hl : isLet s[k]
  ·rw [Ev.yz2 (by rfl)]
   by_cases h0 : k = 0
   ·rw [Ev.yz2 (by simpa using h0)]; exact l1 true (by rw [if_pos h0, hl]; rfl)
   ·rw [Ev.kz1 (by simpa using h0), Ev.kz3 (z0u hk), yqb]
    cases h45 : s[k] == 45
    ·rw [Ev.yz2 (by rfl), Ev.kz3 (z0u hk), Ev.kz0 yds]
     exact l1 _ (by rw [if_neg h0, zde, hl, h45]; simp)
    ·rw [Ev.kz1 (by rfl)]; exact l1 false (by rw [if_neg h0, zde, hl, h45]; rfl)
  ·rw [Ev.kz1 (by rfl)]
   exact l1 false (by split; exact hl; rw [zde, hl]; rfl)
 have fin : ∀ r : Bool, r = (decide (1 ≤ s.length) && decide (s.length ≤ 40)) → Ev (fun n => yzf n (s.length : Int) s) r := fun r hr => by
  rw [zcs, Ev.kz1 (by simp), hr]
  by_cases h1 : 1 ≤ s.length
  ·rw [Ev.yz2 (by simp; omega), Ev.yz0]; simp [h1]; omega
  ·rw [Ev.kz1 (by simp; omega), Ev.yz0]; simp [h1]
 have rest : ∀ k, k ≤ s.length → 1 ≤ k → Ev (fun n => yzf n (k : Int) s) ((s.drop k).all zde && decide (s.length ≤ 40)) :=
  down (Q := fun k => 1 ≤ k → Ev (fun n => yzf n (k : Int) s) ((s.drop k).all zde && decide (s.length ≤ 40))) (fun h1 => by
   refine fin _ ?_; simp [h1]) fun k hk ih h1 => by
   rw [← List.getElem_cons_drop (h := hk), List.all_cons]
   refine step k hk _ (fun h => ?_) fun h => ?_
   ·rw [if_neg (by omega)] at h; rw [h]; rfl
   ·rw [if_neg (by omega)] at h; rw [h]; exact ih (by omega)
 rw [zmv]
 cases s with
 | nil => exact fin _ rfl
 | cons c t =>
   refine step 0 (by simp) _ (fun h => ?_) fun h => ?_
   · rw [if_pos rfl] at h; simp only [List.getElem_cons_zero] at h; simp [zfc, h]
   · rw [if_pos rfl] at h; simp only [List.getElem_cons_zero] at h
     refine (rest 1 (by simp) (Nat.le_refl _)).to ?_
     simp [zfc, h]
def zlt (s : List UInt8) : Bool := zfc s && (!(s == [116, 114, 117, 101]) && !(s == [102, 97, 108, 115, 101]))
theorem ygy {s : List UInt8} (hs : s.length ≤ 2097152) : Ev (fun n => z5b n s) (zlt s) := by
 rw [zmt, Ev.kz0 (y30 hs)]
 unfold zlt
 cases zfc s <;> cases h : (s == [116, 114, 117, 101]) <;> simp [Ev.pif, Ev.yz0]
theorem yfa {s : List UInt8} (hs : s.length ≤ 2097152) : Ev (fun n => z1i n s) (zlt s) := by
 rw [zks, Ev.kz0 (y2o hs)]
 unfold zlt
 cases zfc s <;> cases h : (s == [116, 114, 117, 101]) <;> simp [Ev.pif, Ev.yz0]
end Go.Proofs.YtfhpamcehnfhoaaGreatDoor


namespace Go.Proofs.YtfhpamcehnfhoaaGreatDoor
open Go Go.Ab
set_option linter.unusedVariables false
set_option linter.unusedSimpArgs false
theorem zek {P : zz1 → Prop} (h : ∀ e : zz1, (∀ x, x ∈ e.args → P x) → P e) (e : zz1) : P e := h e fun x hx => zek h x
termination_by e
decreasing_by exact zz1.zum hx
mutual
def kzy : zz1 → Nat
 | ⟨_, _, _, l⟩ => 1 + yzc l
def yzc : List zz1 → Nat
 | [] => 0
 | x :: l => kzy x + yzc l
end
mutual
def z58 : zz1 → Nat
 | ⟨_, _, _, l⟩ => max 1 (z6t l)
def z6t : List zz1 → Nat
 | [] => 0
 | x :: l => max (1 + z58 x) (z6t l)
end
theorem z1r (e : zz1) : kzy e = 1 + yzc e.args := by cases e; rw [kzy]
theorem za5 (e : zz1) : z58 e = max 1 (z6t e.args) := by cases e; rw [z58]
theorem ylj {l : List zz1} {x : zz1} (h : x ∈ l) : x.size ≤ (l.map zz1.size).sum := by
 induction l with
 | nil => cases h
 | cons y l ih =>
   rcases List.mem_cons.1 h with rfl | h
   · simp
   · have := ih h; simp; omega
theorem z8x (e : zz1) : (e.args.map zz1.size).sum + e.name.length + e.value.size + 4 ≤ e.size := by rw [zz1.size_eq]; omega
theorem zjw {e x : zz1} (h : x ∈ e.args) : x.size ≤ e.size := by have := ylj h; have := z8x e; omega
theorem zfz (l : List zz1) : l.length ≤ (l.map zz1.size).sum := by
 induction l with
 | nil => simp
 | cons x l ih => have := z8x x; simp; omega
theorem zrx : ∀ e : zz1, kzy e ≤ e.size := zek fun e ih => by
 have : ∀ l : List zz1, (∀ x, x ∈ l → x ∈ e.args) → yzc l ≤ (l.map zz1.size).sum := fun l => by
  induction l with
  | nil => intro _; simp [yzc]
  | cons x l ihl =>
    intro hl
    have := ih x (hl x List.mem_cons_self)
    have := ihl fun y hy => hl y (List.mem_cons_of_mem _ hy)
    simp [yzc]; omega
 have := this e.args fun _ h => h
 have := z8x e
 rw [z1r]; omega
theorem yd3 : ∀ e : zz1, z58 e ≤ kzy e := zek fun e ih => by
 have : ∀ l : List zz1, (∀ x, x ∈ l → x ∈ e.args) → z6t l ≤ 1 + yzc l := fun l => by
  induction l with
  | nil => intro _; simp [yzc, z6t]
  | cons x l ihl =>
    intro hl
    have := ih x (hl x List.mem_cons_self)
    have := ihl fun y hy => hl y (List.mem_cons_of_mem _ hy)
    simp [yzc, z6t]; omega
 have := this e.args fun _ h => h
 rw [z1r, za5]; omega
theorem y0m (l : List zz1) : yzc l ≤ (l.map zz1.size).sum := by
 induction l with
 | nil => simp [yzc]
 | cons x l ih => have := zrx x; simp [yzc]; omega
theorem y9h : ∀ e : zz1, e.size ≤ 2097152 → Ev (fun n => z07 n e) ((kzy e : Int), (z58 e : Int)) := zek fun e ih hs => by
 have hsl := z8x e
 have hlen := zfz e.args
 have loop : ∀ k, k ≤ e.args.length → ∀ d p : Nat, p + yzc (e.args.drop k) ≤ 2097153 → d ≤ 2097153 → Ev (fun n => yzh n (k : Int) (d : Int) (p : Int) e.args (e.args.length : Int)) (((p + yzc (e.args.drop k) : Nat) : Int), ((max d (z6t (e.args.drop k)) : Nat) : Int)) :=
  down (fun d p hp hd => by
   rw [z9x, Ev.kz1 (by simp), Ev.yz0]
   simp [yzc, z6t]) fun k hk ihk d p hp hd => by
   have hx := List.getElem_mem hk
   have hsx := zjw hx
   rw [← List.getElem_cons_drop (h := hk)] at hp ⊢
   simp only [yzc, z6t] at hp ⊢
   have hpl := zrx e.args[k]
   have hdl := yd3 e.args[k]
   rw [z9x, Ev.yz2 (by simpa using hk), Ev.kz3 (z0u hk), zz1.zz3, Ev.kz0 (ih _ hx (by omega)), wI (x := _ + 1) (by omega), wI (x := (z58 _ : Int) + 1) (by omega), wI (x := (p : Int) + _) (by omega)]
   have e1 : (k : Int) + 1 = ((k + 1 : Nat) : Int) := by omega
   have e2 : (z58 e.args[k] : Int) + 1 = ((1 + z58 e.args[k] : Nat) : Int) := by omega
   have e3 : (p : Int) + (kzy e.args[k] : Int) = ((p + kzy e.args[k] : Nat) : Int) := by omega
   rw [e1, e2, e3, y08]
   refine (ihk (max d (1 + z58 e.args[k])) (p + kzy e.args[k]) (by omega) (by omega)).to ?_
   congr 2 <;> omega
 rw [zhv]
 have hv := y0m e.args
 have := loop 0 (Nat.zero_le _) 1 1 (by simp; omega) (by omega)
 refine this.to ?_
 rw [z1r, za5, List.drop_zero]
theorem zxy : ∀ e : zz1, e.size ≤ 2097152 → Ev (fun n => z2a n e) (kzy e : Int) := zek fun e ih hs => by
 have hsl := z8x e
 have hlen := zfz e.args
 rw [zkh, zz1.zz3, z1r]
 have loop : ∀ k, k ≤ e.args.length → ∀ p : Nat, p + yzc (e.args.drop k) ≤ 2097153 → Ev (fun n => z1j n (k : Int) (p : Int) e) ((p + yzc (e.args.drop k) : Nat) : Int) :=
  down (fun p hp => by
   rw [zas, Ev.kz1 (by simp), Ev.yz0]
   simp [yzc]) fun k hk ihk p hp => by
   have hx := List.getElem_mem hk
   have hsx := zjw hx
   rw [← List.getElem_cons_drop (h := hk)] at hp ⊢
   simp only [yzc] at hp ⊢
   have hpl := zrx e.args[k]
   rw [zas, Ev.yz2 (by simpa using hk), Ev.kz3 (z0u hk), zz1.zz3, Ev.kz0 (ih _ hx (by omega)), wI (x := _ + 1) (by omega), wI (x := (p : Int) + _) (by omega)]
   have e1 : (k : Int) + 1 = ((k + 1 : Nat) : Int) := by omega
   have e3 : (p : Int) + (kzy e.args[k] : Int) = ((p + kzy e.args[k] : Nat) : Int) := by omega
   rw [e1, e3, zz1.zz3]
   refine (ihk (p + kzy e.args[k]) (by omega)).to ?_
   congr 1; omega
 have hv := y0m e.args
 exact loop 0 (Nat.zero_le _) 1 (by simp; omega)
theorem yj8 : ∀ e : zz1, e.size ≤ 2097152 → Ev (fun n => z3s n e) (z58 e : Int) := zek fun e ih hs => by
 have hsl := z8x e
 have hlen := zfz e.args
 rw [zml, zz1.zz3, za5]
 have loop : ∀ k, k ≤ e.args.length → ∀ p : Nat, p ≤ 2097153 → Ev (fun n => z2k n (k : Int) (p : Int) e) ((max p (z6t (e.args.drop k)) : Nat) : Int) :=
  down (fun p hp => by
   rw [zca, Ev.kz1 (by simp), Ev.yz0]
   simp [z6t]) fun k hk ihk p hp => by
   have hx := List.getElem_mem hk
   have hsx := zjw hx
   rw [← List.getElem_cons_drop (h := hk)]
   simp only [z6t]
   have hpl := zrx e.args[k]
   have hdl := yd3 e.args[k]
   rw [zca, Ev.yz2 (by simpa using hk), Ev.kz3 (z0u hk), zz1.zz3, Ev.kz0 (ih _ hx (by omega)), wI (x := _ + 1) (by omega), wI (x := 1 + _) (by omega)]
   have e1 : (k : Int) + 1 = ((k + 1 : Nat) : Int) := by omega
   have e3 : 1 + (z58 e.args[k] : Int) = ((1 + z58 e.args[k] : Nat) : Int) := by omega
   rw [e1, e3, zz1.zz3, y08]
   refine (ihk (max p (1 + z58 e.args[k])) (by omega)).to ?_
   congr 1; omega
 exact loop 0 (Nat.zero_le _) 1 (by omega)
def z38 (op : Int) : Int :=
 if op = 1 ∨ op = 2 then 0 else if (3 ≤ op ∧ op ≤ 10) ∨ op = 13 ∨ op = 14 ∨ op = 17 then 2 else if op = 11 ∨ op = 15 ∨ op = 16 then 1 else if op = 12 then 3 else if op = 18 then -1 else -2
theorem ops (op : Int) : op = 1 ∨ op = 2 ∨ op = 3 ∨ op = 4 ∨ op = 5 ∨ op = 6 ∨ op = 7 ∨ op = 8 ∨ op = 9 ∨ op = 10 ∨ op = 11 ∨ op = 12 ∨ op = 13 ∨ op = 14 ∨ op = 15 ∨ op = 16 ∨ op = 17 ∨ op = 18 ∨ (op < 1 ∨ 18 < op) := by omega
theorem yj7 {op : Int} : Ev (fun n => z36 n op) (z38 op) := by
 rcases ops op with rfl | rfl | rfl | rfl | rfl | rfl | rfl | rfl | rfl | rfl | rfl | rfl | rfl | rfl | rfl | rfl | rfl | rfl | h
 case inr.inr.inr.inr.inr.inr.inr.inr.inr.inr.inr.inr.inr.inr.inr.inr.inr.inr =>
  have e : z38 op = -2 := by unfold z38; rw [if_neg (by omega), if_neg (by omega), if_neg (by omega), if_neg (by omega), if_neg (by omega)]
  rw [e]
  have n (j : Int) (h1 : 1 ≤ j) (h2 : j ≤ 18) : (op == j) = false := by simp; omega
  simp [zgz, zbt, zc8, zce, zcp, zcn, zbs, Ev.pif, Ev.yz0, n]
 all_goals simp [zgz, zbt, zc8, zce, zcp, zcn, zbs, Ev.pif, Ev.yz0, z38]
theorem yi7 {op : Int} : Ev (fun n => z4v n op) (z38 op) := by
 rcases ops op with rfl | rfl | rfl | rfl | rfl | rfl | rfl | rfl | rfl | rfl | rfl | rfl | rfl | rfl | rfl | rfl | rfl | rfl | h
 case inr.inr.inr.inr.inr.inr.inr.inr.inr.inr.inr.inr.inr.inr.inr.inr.inr.inr =>
  have e : z38 op = -2 := by unfold z38; rw [if_neg (by omega), if_neg (by omega), if_neg (by omega), if_neg (by omega), if_neg (by omega)]
  rw [e]
  have n (j : Int) (h1 : 1 ≤ j) (h2 : j ≤ 18) : (op == j) = false := by simp; omega
  rw [zgq, Ev.kz1 (n 1 (by omega) (by omega)), n 2 (by omega) (by omega), zc9, Ev.kz1 (by rfl)]
  have l1 : Ev (fun m => kzn m op false) (-2) := by simp [zcb, zcj, Ev.pif, Ev.yz0, n]
  by_cases h3 : op ≥ 3
  ·rw [Ev.yz2 (by simpa using h3), Ev.kz1 (by simp; omega), Ev.kz1 (n 13 (by omega) (by omega)), Ev.kz1 (n 14 (by omega) (by omega)), n 17 (by omega) (by omega)]; exact l1
  ·rw [Ev.kz1 (by simpa using h3), Ev.kz1 (n 13 (by omega) (by omega)), Ev.kz1 (n 14 (by omega) (by omega)), n 17 (by omega) (by omega)]; exact l1
 all_goals simp [zgq, zc9, zcb, zcj, Ev.pif, Ev.yz0, z38]
noncomputable def zsx (op : Int) (v : zz0) (nm : List UInt8) : Bool :=
 if op = 1 then zz9 v == 0 && (v.kind != 4 && nm.isEmpty) else if op = 2 then zlt nm && eqB v v0 else nm.isEmpty && eqB v v0
def zjf (op : Int) (k : Nat) : Bool := z38 op != -2 && (decide (z38 op < 0) || (k : Int) == z38 op)
mutual
noncomputable def z4b : zz1 → Bool
 | ⟨op, v, nm, l⟩ => zjf op l.length && (zsx op v nm && z7x l)
noncomputable def z7x : List zz1 → Bool
 | [] => true
 | x :: l => z4b x && z7x l
end
theorem zb4 (e : zz1) : z4b e = (zjf e.op e.args.length && (zsx e.op e.value e.name && z7x e.args)) := by cases e; rw [z4b]
theorem zu5 (l : List zz1) : z7x l = l.all z4b := by
 induction l with
 | nil => rfl
 | cons x l ih => simp [z7x, ih]
noncomputable def z1p (e : zz1) : Int := if 100 < kzy e ∨ 12 < z58 e then 4 else if z4b e then 0 else 8
theorem ylw {e : zz1} (h : e.wf) : e.value.wf := by rw [zz1.z6o] at h; exact h.2.1
theorem yp5 {e : zz1} (h : e.wf) : ∀ x ∈ e.args, x.wf := by rw [zz1.z6o] at h; exact h.2.2.2
theorem zxf (s : List UInt8) : (!(s == [])) = !s.isEmpty := by cases s <;> rfl
theorem yma : ∀ e : zz1, e.wf → e.size ≤ 2097152 → Ev (fun n => z5l n e) (z4b e) := zek fun e ih hw hs => by
 have hsl := z8x e
 have hlen := zfz e.args
 have idx : ∀ k, k ≤ e.args.length → ∃ i : Int, Ev (fun n => yz5 n (k : Int) e.args (e.args.length : Int)) i ∧ decide (i ≥ 0) = !z7x (e.args.drop k) :=
  down ⟨-1, by rw [yzq, Ev.kz1 (by simp), Ev.yz0], by simp [z7x]⟩ fun k hk ihk => by
   have hx := List.getElem_mem hk
   have hsx := zjw hx
   have hf1 : Ev (fun n => z4m n e.args[k]) (!z4b e.args[k]) := by
    rw [zkg, zz1.zz3, Ev.kz0 (ih _ hx (yp5 hw _ hx) (by omega)), Ev.yz0]
   obtain ⟨i, h1, h2⟩ := ihk
   rw [← List.getElem_cons_drop (h := hk), z7x]
   cases hf : z4b e.args[k]
   ·refine ⟨k, ?_, by simp⟩
    rw [yzq, Ev.yz2 (by simpa using hk), Ev.kz3 (z0u hk), zz1.zz3, Ev.kz0 hf1, Ev.yz2 (by rw [hf]; rfl), Ev.yz0]
   ·refine ⟨i, ?_, by rw [h2]; rfl⟩
    rw [yzq, Ev.yz2 (by simpa using hk), Ev.kz3 (z0u hk), zz1.zz3, Ev.kz0 hf1, Ev.kz1 (by rw [hf]; rfl), wrk (by omega)]
    exact h1
 have l4 : Ev (fun n => z1v n e) (z7x e.args) := by
  obtain ⟨i, h1, h2⟩ := idx 0 (Nat.zero_le _)
  have hi : Ev (fun n => yz8 n e.args) i := by rw [z44]; exact h1
  have hc : Ev (fun n => zz7 n e.args) (!z7x e.args) := by
   rw [z39, Ev.kz0 hi, Ev.yz0, h2]; rfl
  rw [zhx, Ev.kz0 hc, Ev.yz0, Bool.not_not]
 have l1 : ∀ b, Ev (fun n => z1t n b e) (!b && z7x e.args) := fun b => by
  rw [zih]; cases b
  ·rw [Ev.kz1 (by rfl), zz1.zz3]; exact l4
  ·rw [Ev.yz2 (by rfl), Ev.yz0]; rfl
 have l2 : ∀ b, Ev (fun n => z2x n b e) (!b && z7x e.args) := fun b => by
  rw [zic]; cases b
  ·rw [Ev.kz1 (by rfl), zz1.zz3]; exact l4
  ·rw [Ev.yz2 (by rfl), Ev.yz0]; rfl
 have l3 : ∀ b, Ev (fun n => z2y n b e) (!b && z7x e.args) := fun b => by
  rw [zhz]; cases b
  ·rw [Ev.kz1 (by rfl), zz1.zz3]; exact l4
  ·rw [Ev.yz2 (by rfl), Ev.yz0]; rfl
 have l0 : ∀ b, Ev (fun n => z1s n b e) (!b && (zsx e.op e.value e.name && z7x e.args)) := fun b => by
  rw [zie]; cases b
  case true => rw [Ev.yz2 (by rfl), Ev.yz0]; rfl
  rw [Ev.kz1 (by rfl)]
  have hsame : Ev (fun n => z0e n e.value (zz0.mk 0 (yz1.mk 0 0) false [] [])) (eqB e.value v0) := zg3 e.value v0 (by omega)
  by_cases h1 : e.op = 1
  ·rw [Ev.yz2 (by simpa using h1), zz0.zz3, Ev.kz0 (z5o (ylw hw) (by omega)), zz1.zz3, zxf]
   simp only [zsx, if_pos h1]
   by_cases hc : zz9 e.value = 0
   ·rw [Ev.kz1 (by simpa using hc)]
    by_cases hk : e.value.kind = 4
    ·rw [Ev.yz2 (by simpa using hk)]
     refine (l1 true).to ?_; simp [hc, hk]
    ·rw [Ev.kz1 (by simpa using hk)]
     have hk' : (e.value.kind != 4) = true := by simpa using hk
     refine (l1 _).to ?_; simp [hc, hk']
   ·rw [Ev.yz2 (by simpa using hc)]
    refine (l1 true).to ?_; simp [hc]
  rw [Ev.kz1 (by simpa using h1)]
  by_cases h2 : e.op = 2
  ·rw [Ev.yz2 (by simpa using h2), Ev.kz0 (ygy (by omega)), zz0.zz3, zz1.zz3]
   simp only [zsx, if_neg h1, if_pos h2]
   cases hn : zlt e.name
   ·rw [Ev.yz2 (by rfl)]
    exact (l2 true).to (by simp)
   ·rw [Ev.kz1 (by rfl), Ev.kz0 hsame]
    exact (l2 _).to (by simp)
  ·rw [Ev.kz1 (by simpa using h2), zxf, zz0.zz3, zz1.zz3]
   simp only [zsx, if_neg h1, if_neg h2]
   cases hn : e.name.isEmpty
   ·rw [Ev.yz2 (by rfl)]
    exact (l3 true).to (by simp)
   ·rw [Ev.kz1 (by rfl), Ev.kz0 hsame]
    exact (l3 _).to (by simp)
 rw [zp4, Ev.kz0 yj7, zb4, zz1.zz3]
 unfold zjf
 by_cases c1 : z38 e.op = -2
 ·rw [Ev.yz2 (by simpa using c1)]
  exact (l0 true).to (by simp [c1])
 rw [Ev.kz1 (by simpa using c1)]
 by_cases c2 : z38 e.op ≥ 0
 ·rw [Ev.yz2 (by simpa using c2)]
  refine (l0 _).to ?_
  rw [show decide (z38 e.op < 0) = false by simpa using c2, show (z38 e.op != -2) = true by simpa using c1]
  simp only [bne, Bool.not_not, Bool.true_and, Bool.false_or]
 ·rw [Ev.kz1 (by simpa using c2)]
  refine (l0 _).to ?_
  rw [show decide (z38 e.op < 0) = true by simp; omega, show (z38 e.op != -2) = true by simpa using c1]
  simp
theorem yhe : ∀ e : zz1, e.size ≤ 2097152 → Ev (fun n => z0w n e) (z4b e) := zek fun e ih hs => by
 have hsl := z8x e
 have hlen := zfz e.args
 have loop : ∀ k, k ≤ e.args.length → Ev (fun n => zzo n (k : Int) e) (z7x (e.args.drop k)) :=
  down (by rw [zci, Ev.kz1 (by simp), Ev.yz0]; simp [z7x]) fun k hk ihk => by
   have hx := List.getElem_mem hk
   have hsx := zjw hx
   rw [← List.getElem_cons_drop (h := hk), z7x]
   rw [zci, Ev.yz2 (by simpa using hk), Ev.kz3 (z0u hk), zz1.zz3, Ev.kz0 (ih _ hx (by omega))]
   cases hf : z4b e.args[k]
   ·rw [Ev.yz2 (by rfl), Ev.yz0]; rfl
   ·rw [Ev.kz1 (by rfl), wrk (by omega), zz1.zz3, Bool.true_and]; exact ihk
 have l2 : ∀ b, Ev (fun n => zzd n b e) (!b && z7x e.args) := fun b => by
  rw [zgl]; cases b
  ·rw [Ev.kz1 (by rfl), zz1.zz3]; exact loop 0 (Nat.zero_le _)
  ·rw [Ev.yz2 (by rfl), Ev.yz0]; rfl
 have hgn : decide ((e.name.length : Int) > 0) = !e.name.isEmpty := by cases e.name <;> simp
 have l1 : ∀ b, Ev (fun n => yza n b e) (!b && ((if e.op = 2 then zlt e.name else e.name.isEmpty) && z7x e.args)) := fun b => by
  rw [zgj]; cases b
  case true => rw [Ev.yz2 (by rfl), Ev.yz0]; rfl
  rw [Ev.kz1 (by rfl), zz1.zz3, hgn]
  by_cases h2 : e.op = 2
  ·rw [Ev.yz2 (by simpa using h2), if_pos h2, Ev.kz0 (yfa (by omega))]
   cases hn : zlt e.name
   ·rw [Ev.yz2 (by rfl)]; exact (l2 true).to (by simp)
   ·rw [Ev.kz1 (by rfl), Ev.kz1 (by simpa using h2)]; exact (l2 false).to (by simp)
  ·rw [Ev.kz1 (by simpa using h2), Ev.yz2 (by simpa using h2), if_neg h2]; exact (l2 _).to (by simp)
 have l0 : ∀ b, Ev (fun n => zzi n b e) (!b && (zsx e.op e.value e.name && z7x e.args)) := fun b => by
  rw [zgb]; cases b
  case true => rw [Ev.yz2 (by rfl), Ev.yz0]; rfl
  rw [Ev.kz1 (by rfl), zz0.zz3, zz1.zz3]
  have hsame : Ev (fun n => kzp n e.value (zz0.mk 0 (yz1.mk 0 0) false [] [])) (eqB e.value v0) := zko e.value v0 (by omega)
  by_cases h1 : e.op = 1
  ·rw [Ev.yz2 (by simpa using h1), Ev.kz0 (zxn (by omega))]
   simp only [zsx, if_pos h1]
   by_cases hc : zz9 e.value = 0
   ·rw [Ev.kz1 (by simpa using hc)]
    by_cases hk : e.value.kind = 4
    ·rw [Ev.yz2 (by simpa using hk)]
     refine (l1 true).to ?_; simp [hc, hk]
    ·rw [Ev.kz1 (by simpa using hk), Ev.kz1 (by simpa using h1)]
     have hk' : (e.value.kind != 4) = true := by simpa using hk
     refine (l1 _).to ?_; simp [hc, hk', h1]
   ·rw [Ev.yz2 (by simpa using hc)]
    refine (l1 true).to ?_; simp [hc]
  ·rw [Ev.kz1 (by simpa using h1), Ev.yz2 (by simpa using h1), Ev.kz0 hsame]
   refine (l1 _).to ?_
   simp only [zsx, if_neg h1]
   split
   ·cases eqB e.value v0 <;> cases zlt e.name <;> simp
   ·cases eqB e.value v0 <;> cases e.name.isEmpty <;> simp
 rw [zlz, Ev.kz0 yi7, zb4, zz1.zz3]
 unfold zjf
 by_cases c1 : z38 e.op = -2
 ·rw [Ev.yz2 (by simpa using c1)]
  exact (l0 true).to (by simp [c1])
 rw [Ev.kz1 (by simpa using c1)]
 by_cases c2 : z38 e.op ≥ 0
 ·rw [Ev.yz2 (by simpa using c2)]
  refine (l0 _).to ?_
  rw [show decide (z38 e.op < 0) = false by simpa using c2, show (z38 e.op != -2) = true by simpa using c1]
  simp only [bne, Bool.not_not, Bool.true_and, Bool.false_or]
 ·rw [Ev.kz1 (by simpa using c2)]
  refine (l0 _).to ?_
  rw [show decide (z38 e.op < 0) = true by simp; omega, show (z38 e.op != -2) = true by simpa using c1]
  simp
theorem zec {e : zz1} (hw : e.wf) (hs : e.size ≤ 2097152) : Ev (fun n => kzw n e) (z1p e) := by
 have l0 : ∀ b, Ev (fun n => z2j n b e) (if b then 4 else if z4b e then 0 else 8) := fun b => by
  rw [zgm]
  cases b
  ·rw [Ev.kz1 (by rfl), zz1.zz3, Ev.kz0 (yma e hw hs)]
   cases z4b e
   ·rw [Ev.yz2 (by rfl), Ev.yz0]; rfl
   ·rw [Ev.kz1 (by rfl), Ev.yz0]; rfl
  ·rw [Ev.yz2 (by rfl), Ev.yz0]; rfl
 rw [zmo, zz1.zz3, Ev.kz0 (y9h e hs)]
 unfold z1p
 simp only [Ev.pif]
 by_cases h1 : 100 < kzy e
 ·rw [if_pos (by simp; omega), if_pos (.inl h1)]; exact l0 true
 ·rw [if_neg (by simp; omega)]
  by_cases h2 : 12 < z58 e
  ·rw [if_pos (.inr h2), show decide ((z58 e : Int) > 12) = true by simp; omega]; exact l0 true
  ·rw [if_neg (by omega), show decide ((z58 e : Int) > 12) = false by simp; omega]; exact l0 false
theorem zes {e : zz1} (hs : e.size ≤ 2097152) : Ev (fun n => z19 n e) (z1p e) := by
 have l0 : ∀ b, Ev (fun n => kzj n b e) (if b then 4 else if z4b e then 0 else 8) := fun b => by
  rw [zf7]
  cases b
  ·rw [Ev.kz1 (by rfl), zz1.zz3, Ev.kz0 (yhe e hs)]
   cases z4b e
   ·rw [Ev.yz2 (by rfl), Ev.yz0]; rfl
   ·rw [Ev.kz1 (by rfl), Ev.yz0]; rfl
  ·rw [Ev.yz2 (by rfl), Ev.yz0]; rfl
 rw [zjz, zz1.zz3, Ev.kz0 (zxy e hs)]
 unfold z1p
 by_cases h1 : 100 < kzy e
 ·rw [Ev.yz2 (by simp; omega), if_pos (.inl h1)]; exact l0 true
 ·rw [Ev.kz1 (by simp; omega), Ev.kz0 (yj8 e hs)]
  by_cases h2 : 12 < z58 e
  ·rw [if_pos (.inr h2), show decide ((z58 e : Int) > 12) = true by simp; omega]; exact l0 true
  ·rw [if_neg (by omega), show decide ((z58 e : Int) > 12) = false by simp; omega]; exact l0 false
theorem z7q {e : zz1} (h : z1p e = 0) : z4b e = true ∧ kzy e ≤ 100 ∧ z58 e ≤ 12 := by
 unfold z1p at h
 split at h
 ·cases h
 ·split at h
  ·exact ⟨‹_›, by omega, by omega⟩
  ·cases h
theorem yex : ∀ e : zz1, e.size ≤ 2097152 → ∀ d : Int, ∃ b, Ev (fun n => z3n n e d) b := zek fun e ih hs d => by
 have hsl := z8x e
 have hlen := zfz e.args
 have loop : ∀ k, k ≤ e.args.length → ∀ d : Int, ∃ b, Ev (fun n => z1g n (k : Int) d e) b :=
  down (fun d => ⟨false, by rw [zar, Ev.kz1 (by simp), Ev.yz0]⟩) fun k hk ihk d => by
   have hx := List.getElem_mem hk
   have hsx := zjw hx
   obtain ⟨b, hb⟩ := ih _ hx (by omega) (IntKind.i64.wrap (d - 1))
   obtain ⟨c, hc⟩ := ihk d
   refine ⟨if b then true else c, ?_⟩
   rw [zar, Ev.yz2 (by simpa using hk), Ev.kz3 (z0u hk), zz1.zz3, Ev.kz0 hb, zz1.zz3, wrk (by omega)]
   cases b
   ·rw [Ev.kz1 (by rfl)]; exact hc
   ·rw [Ev.yz2 (by rfl), Ev.yz0]; rfl
 have l0 : ∀ d b, ∃ c, Ev (fun n => zzz n d b e) c := fun d b => by
  cases b
  ·obtain ⟨c, hc⟩ := loop 0 (Nat.zero_le _) d
   exact ⟨c, by rw [zal, Ev.kz1 (by rfl), zz1.zz3]; exact hc⟩
  ·exact ⟨true, by rw [zal, Ev.yz2 (by rfl), Ev.yz0]⟩
 obtain ⟨g, hg⟩ := zxx (v := e.value) (by omega)
 simp only [zjb, zz1.zz3, zz0.zz3, Ev.pif, Ev.kz0 hg]
 split
 ·exact l0 _ _
 split
 ·exact l0 _ _
 split
 ·exact l0 _ _
 ·exact l0 _ _
theorem zqr {e : zz1} (hs : e.size ≤ 2097152) : ∃ b, Ev (fun n => z3i n e) b := by
 obtain ⟨b, hb⟩ := yex e hs 16
 cases b
 ·exact ⟨_, by rw [zfj, zz1.zz3, Ev.kz0 hb, Ev.kz1 (by rfl), Ev.kz0 (zxy e hs)]; exact Ev.yz0.2 rfl⟩
 ·exact ⟨true, by rw [zfj, zz1.zz3, Ev.kz0 hb, Ev.yz2 (by rfl), Ev.yz0]⟩
end Go.Proofs.YtfhpamcehnfhoaaGreatDoor


namespace Go.Proofs.YtfhpamcehnfhoaaGreatDoor
open Go Go.Ab
set_option linter.unusedVariables false
set_option linter.unusedSimpArgs false
theorem yjb : ∀ v : zz0, z3x v = true → v.size ≤ 68 * z14 v := zj1 fun v ih h => by
 have hl : ∀ l : List zz0, (∀ x ∈ l, x ∈ v.list) → (l.map zz0.size).sum ≤ 68 * yzm l := fun l => by
  induction l with
  | nil => intro _; simp
  | cons x l ihl =>
    intro hm
    have h1 := ih x (hm x List.mem_cons_self) (z5z h x (hm x List.mem_cons_self))
    have h2 := ihl fun y hy => hm y (List.mem_cons_of_mem _ hy)
    simp [yzm]; omega
 have hl := hl v.list fun _ h => h
 rw [zz0.size_eq, yz1.size_eq, z02]
 rw [z5x] at h
 split at h
 ·rename_i hk
  simp only [Bool.and_eq_true, List.isEmpty_iff] at h
  rw [if_neg (by omega), h.2.2.1, h.2.2.2]; simp
 split at h
 ·simp only [Bool.and_eq_true, List.isEmpty_iff] at h
  rw [if_neg (by omega), h.2.1, h.2.2]; simp
 split at h
 ·simp only [Bool.and_eq_true, List.isEmpty_iff, decide_eq_true_eq] at h
  rw [if_neg (by omega), h.2.2.1]
  have := h.2.2.2.1
  simp; omega
 split at h
 ·rename_i hk
  simp only [Bool.and_eq_true, List.isEmpty_iff] at h
  rw [if_pos hk, h.2.2.1]
  simp; omega
 ·cases h
theorem yik {r : yz1} (h : nul r = true) : r.wf := by
 simp only [nul, Bool.and_eq_true, beq_iff_eq] at h
 rw [yz1.z6o, h.1, h.2]; decide
theorem yqg {r : yz1} (h : rok r = true) : r.wf := by
 rw [zam] at h
 rw [yz1.z6o, show IntKind.i64.min = -9223372036854775808 from by decide, show IntKind.i64.max = 9223372036854775807 from by decide]
 omega
theorem yoj : ∀ v : zz0, z3x v = true → v.wf := zj1 fun v ih h => by
 have hl : ∀ x ∈ v.list, x.wf := fun x hx => ih x hx (z5z h x hx)
 have hk := zaz h
 have hn : v.num.wf := by
  rw [z5x] at h
  split at h
  ·simp only [Bool.and_eq_true] at h; exact yqg h.1
  split at h
  ·simp only [Bool.and_eq_true] at h; exact yik h.1
  split at h
  ·simp only [Bool.and_eq_true] at h; exact yik h.1
  split at h
  ·simp only [Bool.and_eq_true] at h; exact yik h.1
  ·cases h
 rw [zz0.z6o]
 refine ⟨?_, hn, trivial, trivial, hl⟩
 simp only [IntKind.min, IntKind.max, IntKind.signed, IntKind.bits]
 rcases hk with h | h | h | h <;> rw [h] <;> decide
theorem vok {v : zz0} (h : zz9 v = 0) : v.wf ∧ v.size ≤ 6800 := by
 obtain ⟨h1, h2, _⟩ := z0h h
 have := yjb v h1
 exact ⟨yoj v h1, by omega⟩
theorem zrv {v : zz0} (h1 : z3x v = true) (h2 : z14 v ≤ 100) (h3 : z7n v ≤ 6) : zz9 v = 0 := by
 unfold zz9; rw [if_neg (by omega), if_pos h1]
def zhs (r : Int × zz0) : Res (Int × Unit) zz0 := if r.1 = 0 then .ok r.2 else .pan (r.1, ())
theorem zb3 {r : Int × zz0} (h : r.1 = 0) : zhs r = .ok r.2 := by unfold zhs; rw [if_pos h]
theorem z61 {r : Int × zz0} (h : r.1 ≠ 0) : zhs r = .pan (r.1, ()) := by unfold zhs; rw [if_neg h]
theorem zom : Ev (fun n => zzx n 0) (.ok ()) := by rw [zik, Ev.kz1 (by rfl), Ev.yz0]
theorem zdr {e : Int} (h : e ≠ 0) : Ev (fun n => zzx n e) (.pan (e, ())) := by rw [zik, Ev.yz2 (by simpa using h), Ev.yz0]
theorem zj7 {k : Int} {l : List zz0} (hl : l.length ≤ 2097152) : Ev (fun n => kzl n k l) (if l.all (fun v => v.kind == k) then .ok () else .pan (20, ())) := by
 have loop : ∀ j, j ≤ l.length → Ev (fun n => z2w n (j : Int) k l (l.length : Int)) (if (l.drop j).all (fun v => v.kind == k) then .ok () else .pan (20, ())) :=
  down (by rw [ze1, Ev.kz1 (by simp), Ev.yz0]; simp) fun j hj ih => by
   rw [← List.getElem_cons_drop (h := hj), List.all_cons]
   rw [ze1, Ev.yz2 (by simpa using hj), Ev.kz3 (z0u hj)]
   by_cases h : l[j].kind = k
   ·rw [Ev.kz1 (by simpa using h), zid, wrk (by omega)]
    simp only [h, beq_self_eq_true, Bool.true_and]; exact ih
   ·rw [Ev.yz2 (by simpa using h), Ev.kz0 (zdr (by decide)), Ev.z4z, Ev.yz0]
    have : (l[j].kind == k) = false := by simpa using h
    rw [this]; rfl
 rw [zow]; exact loop 0 (Nat.zero_le _)
def yda (r : yz1) : zz0 := ⟨1, r, false, [], []⟩
def z6j (b : Bool) : zz0 := ⟨2, ⟨0, 0⟩, b, [], []⟩
def zii (l : List zz0) : zz0 := ⟨4, ⟨0, 0⟩, false, [], l⟩
def zm6 (r : Int × yz1) : Int × zz0 := if r.1 = 0 then (0, yda r.2) else (r.1, v0)
theorem zq4 {r : Int × yz1} : Ev (fun n => z0t n r.2 r.1) (zhs (zm6 r)) := by
 unfold zm6
 rw [zjv]
 by_cases h : r.1 = 0
 ·rw [h, Ev.kz0 zom, Ev.z7e, Ev.yz0, if_pos rfl, zb3 rfl]; rfl
 ·rw [Ev.kz0 (zdr h), Ev.z4z, Ev.yz0, if_neg h, z61 h]
theorem zei {b : Bool} : Ev (fun n => z0y n b) (z6j b) := by rw [zn6, Ev.yz0]; rfl
theorem y7q {n : Int} (h : -1000000000 ≤ n ∧ n ≤ 1000000000) : zt5 n 1 = (0, ⟨n, 1⟩) := by
 unfold zt5
 rw [if_neg (by decide)]
 simp only [Int.natAbs_one, Nat.gcd_one_right, Nat.div_one]
 rw [if_pos (by omega)]
 by_cases h0 : n < 0
 ·simp [h0]; omega
 ·simp [h0]; omega
noncomputable def z8e (op : Int) (l : List zz0) : Int × zz0 :=
 if op = 3 then zq3 (l.getD 0 v0) (l.getD 1 v0)
 else if op = 4 then (if l.all (fun v => v.kind == 1) then zm6 (z95 yj9 (l.getD 0 v0).num (l.getD 1 v0).num) else (20, v0))
 else if op = 5 then (if l.all (fun v => v.kind == 1) then zm6 (z95 yhy (l.getD 0 v0).num (l.getD 1 v0).num) else (20, v0))
 else if op = 6 then (if l.all (fun v => v.kind == 1) then zm6 (z95 fdiv (l.getD 0 v0).num (l.getD 1 v0).num) else (20, v0))
 else if op = 8 then (0, z6j (eqB (l.getD 0 v0) (l.getD 1 v0)))
 else if op = 7 ∨ op = 13 ∨ op = 14 then
  (if (z5j (l.getD 0 v0) (l.getD 1 v0)).2 ≠ 0 then ((z5j (l.getD 0 v0) (l.getD 1 v0)).2, v0)
  else if op = 7 then (0, z6j (decide ((z5j (l.getD 0 v0) (l.getD 1 v0)).1 < 0)))
  else if op = 13 then (0, if (z5j (l.getD 0 v0) (l.getD 1 v0)).1 > 0 then l.getD 1 v0 else l.getD 0 v0)
  else (0, if (z5j (l.getD 0 v0) (l.getD 1 v0)).1 < 0 then l.getD 1 v0 else l.getD 0 v0))
 else if op = 9 then (if l.all (fun v => v.kind == 2) then (0, z6j ((l.getD 0 v0).truth && (l.getD 1 v0).truth)) else (20, v0))
 else if op = 10 then (if l.all (fun v => v.kind == 2) then (0, z6j ((l.getD 0 v0).truth || (l.getD 1 v0).truth)) else (20, v0))
 else if op = 11 then (if l.all (fun v => v.kind == 2) then (0, z6j (!(l.getD 0 v0).truth)) else (20, v0))
 else if op = 15 then (if l.all (fun v => v.kind == 1) then (0, yda ⟨(zmq (l.getD 0 v0).num).1, 1⟩) else (20, v0))
 else if op = 16 then (if (z5y (l.getD 0 v0)).2 ≠ 0 then ((z5y (l.getD 0 v0)).2, v0) else (0, yda ⟨(z5y (l.getD 0 v0)).1, 1⟩))
 else if op = 17 then
  (if (z5y (l.getD 0 v0)).2 ≠ 0 then ((z5y (l.getD 0 v0)).2, v0)
  else if (l.getD 1 v0).kind ≠ 1 then (20, v0)
  else if (l.getD 1 v0).num.den ≠ 1 then (2, v0)
  else vat (l.getD 0 v0) (l.getD 1 v0).num.num)
 else (if zz9 (zii l) ≠ 0 then (zz9 (zii l), v0) else (0, zii l))
theorem yf2 {r : yz1} : -1000000000 ≤ (zmq r).1 ∧ (zmq r).1 ≤ 1000000000 := by
 unfold zmq
 split
 ·rename_i h
  obtain ⟨h1, _, h3⟩ := zpw h
  exact y7d h1 h3
 ·decide
theorem yoz {v : zz0} (hs : v.size ≤ 6800) : 0 ≤ (z5y v).1 ∧ (z5y v).1 ≤ 6800 := by
 have h1 := yzp v; have h2 := z3m v.list
 unfold z5y
 split
 ·exact ⟨by simp, by simp⟩
 split
 ·exact ⟨by simp, by simp only; omega⟩
 split
 ·exact ⟨by simp, by simp only; omega⟩
 ·exact ⟨by simp, by simp⟩
theorem y3i : ∀ {l : List zz0}, (∀ x ∈ l, zz9 x = 0) → (l.map zz0.size).sum ≤ 6800 * l.length
 | [], _ => by simp
 | x :: l, h => by
   have h1 := (vok (h x List.mem_cons_self)).2
   have h2 := y3i (l := l) fun y hy => h y (List.mem_cons_of_mem _ hy)
   simp; omega
theorem ymo {l : List zz0} (h : ∀ x ∈ l, zz9 x = 0) (hl : l.length ≤ 100) : (zii l).wf ∧ (zii l).size ≤ 2097152 := by
 have h2 := y3i h
 constructor
 ·rw [zz0.z6o]
  refine ⟨(by decide : IntKind.u8.min ≤ (4 : Int) ∧ (4 : Int) ≤ IntKind.u8.max), ?_, trivial, trivial, fun x hx => (vok (h x hx)).1⟩
  exact (by rw [yz1.z6o]; decide : (⟨0, 0⟩ : yz1).wf)
 ·rw [zz0.size_eq, yz1.size_eq]; simp only [zii, List.length_nil]; omega
theorem ops2 {op : Int} (h : z38 op = 2) : (3 ≤ op ∧ op ≤ 10) ∨ op = 13 ∨ op = 14 ∨ op = 17 := by
 unfold z38 at h
 split at h
 ·cases h
 ·split at h
  ·assumption
  ·split at h
   ·cases h
   ·split at h
    ·cases h
    ·split at h <;> cases h
theorem ops1 {op : Int} (h : z38 op = 1) : op = 11 ∨ op = 15 ∨ op = 16 := by
 unfold z38 at h
 split at h
 ·cases h
 ·split at h
  ·cases h
  ·split at h
   ·assumption
   ·split at h
    ·cases h
    ·split at h <;> cases h
theorem ych {op : Int} {a b : zz0} (hop : z38 op = 2) (ha : zz9 a = 0) (hb : zz9 b = 0) : Ev (fun n => z2p n op [a, b]) (zhs (z8e op [a, b])) := by
 obtain ⟨wa, sa⟩ := vok ha
 obtain ⟨wb, sb⟩ := vok hb
 have i0 : ix [a, b] 0 = some a := rfl
 have i1 : ix [a, b] 1 = some b := rfl
 have n (i j : Int) (h : i ≠ j) : (i == j) = false := by simpa using h
 have kok : ∀ k : Int, [a, b].all (fun v => v.kind == k) = true → Ev (fun n => kzl n k [a, b]) (.ok ()) := fun k h => by have := zj7 (k := k) (l := [a, b]) (by simp); rwa [if_pos h] at this
 have kpan : ∀ k : Int, [a, b].all (fun v => v.kind == k) = false → Ev (fun n => kzl n k [a, b]) (.pan (20, ())) := fun k h => by have := zj7 (k := k) (l := [a, b]) (by simp); rwa [if_neg (by rw [h]; simp)] at this
 unfold z8e
 simp only [List.getD_cons_zero, List.getD_cons_succ]
 rw [zdq]
 by_cases h3 : op = 3
 ·rw [Ev.yz2 (by simpa using h3), if_pos h3, Ev.kz3 i0, Ev.kz3 i1, zz0.zz3, zz0.zz3, Ev.kz0 (zwi wa wb (by omega) (by omega))]
  by_cases hz : (zq3 a b).1 = 0
  ·rw [hz, Ev.kz0 zom, Ev.z7e, Ev.yz0, zz0.zz3, zb3 hz]
  ·rw [Ev.kz0 (zdr hz), Ev.z4z, Ev.yz0, z61 hz]
 rw [Ev.kz1 (by simpa using h3), if_neg h3]
 have tail : ∀ {op : Int → Prop} {y : Int × zz0}, True := fun {_ _} => trivial
 have num : ∀ {go : Nat → Option (Int × yz1)} {f : yz1 → yz1 → Int × Int}, Ev go (z95 f a.num b.num) →
   Ev (fun n => (go n).bind fun y10 => (z0t n y10.2 y10.1).bind fun y11 => z8s y11 (fun r12 => some (Res.ok r12.re)) (fun e13 => some (Res.pan (e13.1, ())))) (zhs (zm6 (z95 f a.num b.num))) := fun {go f} h => by
  rw [Ev.kz0 h, Ev.kz0 zq4]
  by_cases hz : (zm6 (z95 f a.num b.num)).1 = 0
  ·rw [zb3 hz, Ev.z7e, Ev.yz0, zz0.zz3]
  ·rw [z61 hz, Ev.z4z, Ev.yz0]
 have pan20 : zhs (20, v0) = .pan (20, ()) := rfl
 by_cases h4 : op = 4
 ·rw [Ev.yz2 (by simpa using h4), if_pos h4]
  cases hk : [a, b].all (fun v => v.kind == 1)
  ·rw [Ev.kz0 (kpan 1 hk), Ev.z4z, Ev.yz0]; rfl
  ·rw [Ev.kz0 (kok 1 hk), Ev.z7e, if_pos rfl, Ev.kz3 i0, Ev.kz3 i1]
   exact num (yl8 (zfn wa) (zfn wb))
 rw [Ev.kz1 (by simpa using h4), if_neg h4]
 by_cases h5 : op = 5
 ·rw [Ev.yz2 (by simpa using h5), if_pos h5]
  cases hk : [a, b].all (fun v => v.kind == 1)
  ·rw [Ev.kz0 (kpan 1 hk), Ev.z4z, Ev.yz0]; rfl
  ·rw [Ev.kz0 (kok 1 hk), Ev.z7e, if_pos rfl, Ev.kz3 i0, Ev.kz3 i1]
   exact num (ymd (zfn wa) (zfn wb))
 rw [Ev.kz1 (by simpa using h5), if_neg h5]
 by_cases h6 : op = 6
 ·rw [Ev.yz2 (by simpa using h6), if_pos h6]
  cases hk : [a, b].all (fun v => v.kind == 1)
  ·rw [Ev.kz0 (kpan 1 hk), Ev.z4z, Ev.yz0]; rfl
  ·rw [Ev.kz0 (kok 1 hk), Ev.z7e, if_pos rfl, Ev.kz3 i0, Ev.kz3 i1]
   exact num (ylg (zfn wa) (zfn wb))
 rw [Ev.kz1 (by simpa using h6), if_neg h6]
 by_cases h8 : op = 8
 ·rw [Ev.yz2 (by simpa using h8), if_pos h8, Ev.kz3 i0, Ev.kz3 i1, zz0.zz3, zz0.zz3, Ev.kz0 (zg3 a b (by omega)), Ev.kz0 zei, Ev.yz0, zz0.zz3]; rfl
 rw [Ev.kz1 (by simpa using h8), if_neg h8]
 have l1 : ∀ c z, Ev (fun n => z2b n [a, b] c z) (.ok (if c then a else b)) := fun c z => by
  rw [zgi]; cases c
  ·rw [Ev.kz1 (by rfl), Ev.kz3 i1, Ev.yz0, zz0.zz3]; rfl
  ·rw [Ev.yz2 (by rfl), Ev.kz3 i0, Ev.yz0, zz0.zz3]; rfl
 have ord : (op = 7 ∨ op = 13 ∨ op = 14) → ∀ z, Ev (fun n => z17 n [a, b] op op true z) (zhs (if (z5j a b).2 ≠ 0 then ((z5j a b).2, v0)
  else if op = 7 then (0, z6j (decide ((z5j a b).1 < 0)))
  else if op = 13 then (0, if (z5j a b).1 > 0 then b else a)
  else (0, if (z5j a b).1 < 0 then b else a))) := fun h z => by
  rw [z7r, Ev.yz2 (by rfl), Ev.kz3 i0, Ev.kz3 i1, zz0.zz3, zz0.zz3, Ev.kz0 (zm3 wa wb (by omega) (by omega))]
  generalize z5j a b = c
  by_cases hz : c.2 = 0
  ·rw [hz, Ev.kz0 zom, Ev.z7e, if_neg (by simp)]
   by_cases h7 : op = 7
   ·rw [Ev.yz2 (by simpa using h7), if_pos h7, Ev.kz0 zei, Ev.yz0, zz0.zz3]; rfl
   ·rw [Ev.kz1 (by simpa using h7), if_neg h7, zz0.zz3]
    by_cases h13 : op = 13
    ·rw [show (op == 13) = true by simpa using h13, if_pos h13]
     by_cases hc : c.1 ≤ 0
     ·rw [Ev.yz2 (by simp [hc])]
      exact (l1 _ _).to (by rw [if_neg (c := c.1 > 0) (by omega)]; rfl)
     ·rw [Ev.kz1 (by simp [hc]), show (c.1 == 0) = false by simp; omega]
      exact (l1 _ _).to (by rw [if_pos (c := c.1 > 0) (by omega)]; rfl)
    ·rw [show (op == 13) = false by simpa using h13, if_neg h13]
     by_cases hc : c.1 ≤ 0
     ·rw [Ev.kz1 (by simp [hc])]
      by_cases hc0 : c.1 = 0
      ·rw [show (c.1 == 0) = true by simpa using hc0]
       exact (l1 _ _).to (by rw [if_neg (c := c.1 < 0) (by omega)]; rfl)
      ·rw [show (c.1 == 0) = false by simpa using hc0]
       exact (l1 _ _).to (by rw [if_pos (c := c.1 < 0) (by omega)]; rfl)
     ·rw [Ev.yz2 (by simp [hc])]
      exact (l1 _ _).to (by rw [if_neg (c := c.1 < 0) (by omega)]; rfl)
  ·rw [Ev.kz0 (zdr hz), Ev.z4z, Ev.yz0, if_pos hz, z61 (by exact hz)]
 by_cases h7 : op = 7
 ·rw [Ev.yz2 (by simpa using h7), if_pos (.inl h7)]; exact ord (.inl h7) _
 rw [Ev.kz1 (by simpa using h7)]
 by_cases h13 : op = 13
 ·rw [Ev.yz2 (by simpa using h13), if_pos (.inr (.inl h13))]; exact ord (.inr (.inl h13)) _
 rw [Ev.kz1 (by simpa using h13)]
 by_cases h14 : op = 14
 ·rw [show (op == 14) = true by simpa using h14, if_pos (.inr (.inr h14))]; exact ord (.inr (.inr h14)) _
 rw [show (op == 14) = false by simpa using h14, if_neg (by omega), z7r, Ev.kz1 (by rfl)]
 by_cases h9 : op = 9
 ·rw [Ev.yz2 (by simpa using h9), if_pos h9]
  cases hk : [a, b].all (fun v => v.kind == 2)
  ·rw [Ev.kz0 (kpan 2 hk), Ev.z4z, Ev.yz0]; rfl
  ·rw [Ev.kz0 (kok 2 hk), Ev.z7e, if_pos rfl, Ev.kz3 i0]
   cases ht : a.truth
   ·rw [Ev.kz1 (by rfl), Ev.kz0 zei, Ev.yz0, zz0.zz3]; rfl
   ·rw [Ev.yz2 (by rfl), Ev.kz3 i1, Ev.kz0 zei, Ev.yz0, zz0.zz3]; rfl
 rw [Ev.kz1 (by simpa using h9), if_neg h9]
 by_cases h10 : op = 10
 ·rw [Ev.yz2 (by simpa using h10), if_pos h10]
  cases hk : [a, b].all (fun v => v.kind == 2)
  ·rw [Ev.kz0 (kpan 2 hk), Ev.z4z, Ev.yz0]; rfl
  ·rw [Ev.kz0 (kok 2 hk), Ev.z7e, if_pos rfl, Ev.kz3 i0]
   cases ht : a.truth
   ·rw [Ev.kz1 (by rfl), Ev.kz3 i1, Ev.kz0 zei, Ev.yz0, zz0.zz3]; rfl
   ·rw [Ev.yz2 (by rfl), Ev.kz0 zei, Ev.yz0, zz0.zz3]; rfl
 rw [Ev.kz1 (by simpa using h10), if_neg h10]
 have h17 : op = 17 := by have := ops2 hop; omega
 rw [Ev.kz1 (by simp; omega), Ev.kz1 (by simp; omega), Ev.kz1 (by simp; omega), Ev.yz2 (by simpa using h17), if_neg (by omega), if_neg (by omega), if_neg (by omega), if_pos h17]
 rw [Ev.kz3 i0, zz0.zz3, Ev.kz0 (zg0 wa (by omega))]
 by_cases hz : (z5y a).2 = 0
 case neg => rw [Ev.kz0 (zdr hz), Ev.z4z, Ev.yz0, if_pos hz, z61 (by exact hz)]
 rw [hz, Ev.kz0 zom, Ev.z7e, if_neg (by simp), Ev.kz3 i1, zz0.zz3]
 have k1 : Ev (fun n => kzl n 1 [b]) (if [b].all (fun v => v.kind == 1) then .ok () else .pan (20, ())) := zj7 (by simp)
 by_cases hk : b.kind = 1
 case neg =>
  rw [if_neg (by simpa using hk)] at k1
  rw [Ev.kz0 k1, Ev.z4z, Ev.yz0, if_pos hk]; rfl
 rw [if_pos (by simpa using hk)] at k1
 rw [Ev.kz0 k1, Ev.z7e, Ev.kz3 i1, if_neg (by simpa using hk)]
 by_cases hd : b.num.den = 1
 case neg => rw [Ev.yz2 (by simpa using hd), Ev.kz0 (zdr (by decide)), Ev.z4z, Ev.yz0, if_pos hd]; rfl
 rw [Ev.kz1 (by simpa using hd), if_neg (by simpa using hd), zgh, Ev.kz3 i0, Ev.kz3 i1, zz0.zz3, Ev.kz0 (y0d wa (by omega))]
 by_cases hv : (vat a b.num.num).1 = 0
 ·rw [hv, Ev.kz0 zom, Ev.z7e, Ev.yz0, zz0.zz3, zb3 hv]
 ·rw [Ev.kz0 (zdr hv), Ev.z4z, Ev.yz0, z61 hv]
theorem yf4 {op : Int} {a : zz0} (hop : z38 op = 1) (ha : zz9 a = 0) : Ev (fun n => z2p n op [a]) (zhs (z8e op [a])) := by
 obtain ⟨wa, sa⟩ := vok ha
 have i0 : ix [a] 0 = some a := rfl
 have kok : ∀ k : Int, [a].all (fun v => v.kind == k) = true → Ev (fun n => kzl n k [a]) (.ok ()) := fun k h => by have := zj7 (k := k) (l := [a]) (by simp); rwa [if_pos h] at this
 have kpan : ∀ k : Int, [a].all (fun v => v.kind == k) = false → Ev (fun n => kzl n k [a]) (.pan (20, ())) := fun k h => by have := zj7 (k := k) (l := [a]) (by simp); rwa [if_neg (by rw [h]; simp)] at this
 have ho := ops1 hop
 unfold z8e
 simp only [List.getD_cons_zero]
 rw [zdq, Ev.kz1 (by simp; omega), Ev.kz1 (by simp; omega), Ev.kz1 (by simp; omega), Ev.kz1 (by simp; omega), Ev.kz1 (by simp; omega), Ev.kz1 (by simp; omega), Ev.kz1 (by simp; omega), show (op == 14) = false by simp; omega, z7r, Ev.kz1 (by rfl), Ev.kz1 (by simp; omega), Ev.kz1 (by simp; omega)]
 rw [if_neg (by omega), if_neg (by omega), if_neg (by omega), if_neg (by omega), if_neg (by omega), if_neg (by omega), if_neg (by omega), if_neg (by omega)]
 by_cases h11 : op = 11
 ·rw [Ev.yz2 (by simpa using h11), if_pos h11]
  cases hk : [a].all (fun v => v.kind == 2)
  ·rw [Ev.kz0 (kpan 2 hk), Ev.z4z, Ev.yz0]; rfl
  ·rw [Ev.kz0 (kok 2 hk), Ev.z7e, if_pos rfl, Ev.kz3 i0, Ev.kz0 zei, Ev.yz0, zz0.zz3]; rfl
 rw [Ev.kz1 (by simpa using h11), if_neg h11]
 by_cases h15 : op = 15
 ·rw [Ev.yz2 (by simpa using h15), if_pos h15]
  cases hk : [a].all (fun v => v.kind == 1)
  ·rw [Ev.kz0 (kpan 1 hk), Ev.z4z, Ev.yz0]; rfl
  ·have hb := yf2 (r := a.num)
   have hm : Ev (fun n => z2q n (zmq a.num).1 1) (0, ⟨(zmq a.num).1, 1⟩) := by
    have := ztx (num := (zmq a.num).1) (den := 1) (by unfold I64; omega) (by unfold I64; omega)
    rwa [y7q hb] at this
   rw [Ev.kz0 (kok 1 hk), Ev.z7e, if_pos rfl, Ev.kz3 i0, Ev.kz0 (yfw (zfn wa)), Ev.kz0 hm, Ev.kz0 (zq4 (r := (0, ⟨(zmq a.num).1, 1⟩)))]
   rw [zb3 (by rfl), Ev.z7e, Ev.yz0, zz0.zz3]; rfl
 have h16 : op = 16 := by omega
 rw [Ev.kz1 (by simpa using h15), if_neg h15, Ev.yz2 (by simpa using h16), if_pos h16, Ev.kz3 i0, zz0.zz3, Ev.kz0 (zg0 wa (by omega))]
 have hb := yoz sa
 by_cases hz : (z5y a).2 = 0
 ·have hm : Ev (fun n => z2q n (z5y a).1 1) (0, ⟨(z5y a).1, 1⟩) := by
   have := ztx (num := (z5y a).1) (den := 1) (by unfold I64; omega) (by unfold I64; omega)
   rwa [y7q (by omega)] at this
  rw [hz, Ev.kz0 zom, Ev.z7e, Ev.kz0 hm, Ev.kz0 (zq4 (r := (0, ⟨(z5y a).1, 1⟩)))]
  rw [zb3 (by rfl), Ev.z7e, Ev.yz0, zz0.zz3, if_neg (by simp)]; rfl
 ·rw [Ev.kz0 (zdr hz), Ev.z4z, Ev.yz0, if_pos hz, z61 (by exact hz)]
theorem ydn {l : List zz0} (hl : l.length ≤ 100) (h : ∀ x ∈ l, zz9 x = 0) : Ev (fun n => z2p n 18 l) (zhs (z8e 18 l)) := by
 obtain ⟨w, s⟩ := ymo h hl
 have hc : Ev (fun n => yzx n (zz0.mk 4 (yz1.mk 0 0) false [] l)) (zz9 (zii l)) := z5o w s
 rw [zdq]
 iterate 7 rw [Ev.kz1 (by rfl)]
 rw [show ((18 : Int) == 14) = false from rfl, z7r]
 iterate 7 rw [Ev.kz1 (by rfl)]
 rw [Ev.kz0 hc]
 have e : z8e 18 l = if zz9 (zii l) ≠ 0 then (zz9 (zii l), v0) else (0, zii l) := by unfold z8e; simp
 rw [e]
 by_cases hz : zz9 (zii l) = 0
 ·rw [hz, Ev.kz0 zom, Ev.z7e, Ev.yz0]; rfl
 ·rw [Ev.kz0 (zdr hz), Ev.z4z, Ev.yz0, if_pos hz, z61 (by exact hz)]
end Go.Proofs.YtfhpamcehnfhoaaGreatDoor


namespace Go.Proofs.YtfhpamcehnfhoaaGreatDoor
open Go Go.Ab
set_option linter.unusedVariables false
set_option linter.unusedSimpArgs false
theorem zcg (b : Bool) : zz9 (z6j b) = 0 := by cases b <;> decide
theorem zua {r : yz1} (h : rok r = true) : zz9 (yda r) = 0 := by
 refine zrv ?_ ?_ ?_
 ·rw [z5x]; simp [yda, h]
 ·rw [z02]; simp [yda]
 ·rw [z5e]; simp [yda]
theorem yk6 {n : Int} (h : -1000000000 ≤ n ∧ n ≤ 1000000000) : rok ⟨n, 1⟩ = true := by
 rw [zam]; simp; omega
theorem y0e {s : List UInt8} (h1 : s.length ≤ 60) (h2 : s.all znu = true) : zz9 ⟨3, ⟨0, 0⟩, false, s, []⟩ = 0 := by
 refine zrv ?_ ?_ ?_
 ·rw [z5x]; simp only [nul]; simp [h1]; simpa using h2
 ·rw [z02]; simp
 ·rw [z5e]; simp
theorem yil {v : zz0} (h : z3x v = true) (hk : v.kind = 3) : v.str.length ≤ 60 ∧ v.str.all znu = true := by
 rw [z5x, if_neg (by omega), if_neg (by omega), if_pos hk] at h
 simp only [Bool.and_eq_true, decide_eq_true_eq] at h
 exact h.2.2.2
theorem yk4 {f : yz1 → yz1 → Int × Int} {a b : yz1} (h : (zm6 (z95 f a b)).1 = 0) : zz9 (zm6 (z95 f a b)).2 = 0 := by
 unfold zm6 at h ⊢
 split at h
 ·rename_i hz
  rw [if_pos hz]
  refine zua ?_
  unfold z95 at hz ⊢
  split at hz
  ·rename_i hr; rw [if_pos hr]; exact yp8 hz
  ·cases hz
 ·rename_i hz; exact (hz h).elim
theorem zqd {l : List zz0} {x : zz0} (h : x ∈ l) : z14 x ≤ yzm l ∧ 1 + z7n x ≤ z4c l := by
 induction l with
 | nil => cases h
 | cons y l ih =>
   rcases List.mem_cons.1 h with rfl | h
   · simp [yzm, z4c]; omega
   · have := ih h; simp [yzm, z4c]; omega
theorem zvq {v x : zz0} (h : zz9 v = 0) (hk : v.kind = 4) (hx : x ∈ v.list) : zz9 x = 0 := by
 obtain ⟨h1, h2, h3⟩ := z0h h
 obtain ⟨h4, h5⟩ := zqd hx
 rw [z02, if_pos hk] at h2
 rw [z5e, if_pos hk] at h3
 exact zrv (z5z h1 x hx) (by omega) (by omega)
theorem ypr {a b : zz0} (h : (zq3 a b).1 = 0) : zz9 (zq3 a b).2 = 0 := by
 unfold zq3 at h ⊢
 split at h
 ·rename_i hz; exact (hz h).elim
 rename_i hz
 rw [if_neg hz]
 have hz : z7d a b = 0 := by simpa using hz
 obtain ⟨c1, c2⟩ := zdi hz
 obtain ⟨f1, p1, d1⟩ := z0h c1
 obtain ⟨f2, p2, d2⟩ := z0h c2
 split at h
 ·cases h
 rename_i hk
 rw [if_neg hk]
 split at h
 ·rename_i h1
  rw [if_pos h1]
  split at h
  ·rename_i hr; exact (hr h).elim
  ·rename_i hr
   rw [if_neg hr]
   have hr : (z95 zne a.num b.num).1 = 0 := by simpa using hr
   have := yk4 (f := zne) (a := a.num) (b := b.num) (by unfold zm6; rw [if_pos hr])
   unfold zm6 at this
   rw [if_pos hr] at this
   exact this
 rename_i h1
 rw [if_neg h1]
 split at h
 ·rename_i h3
  rw [if_pos h3]
  split at h
  ·cases h
  ·rename_i hl
   rw [if_neg hl]
   refine y0e (by simp; omega) ?_
   rw [List.all_append, (yil f1 h3).2, (yil f2 (by omega)).2]; rfl
 rename_i h3
 rw [if_neg h3]
 split at h
 ·cases h
 rename_i hl
 rw [if_neg hl]
 have k4 : a.kind = 4 := by have := zaz f1; omega
 have k4b : b.kind = 4 := by omega
 have app : ∀ l m : List zz0, yzm (l ++ m) = yzm l + yzm m ∧ z4c (l ++ m) = max (z4c l) (z4c m) := fun l m => by
  induction l with
  | nil => simp [yzm, z4c]
  | cons x l ih => simp [yzm, z4c, ih]; omega
 obtain ⟨e1, e2⟩ := app a.list b.list
 rw [z02, if_pos k4] at p1; rw [z02, if_pos k4b] at p2
 rw [z5e, if_pos k4] at d1; rw [z5e, if_pos k4b] at d2
 rw [z02, z02 b, if_pos k4, if_pos k4b] at hl
 refine zrv ?_ ?_ ?_
 ·rw [z5x]
  have : zf0 (a.list ++ b.list) = true := by
   rw [zpm, List.all_append, Bool.and_eq_true, List.all_eq_true, List.all_eq_true]
   exact ⟨z5z f1, z5z f2⟩
  simp [nul, this]
 ·rw [z02, if_pos rfl, e1]; omega
 ·rw [z5e, if_pos rfl, e2]; omega
theorem yqd {v : zz0} {i : Int} (h : (vat v i).1 = 0) : zz9 (vat v i).2 = 0 := by
 unfold vat at h ⊢
 split at h
 ·rename_i hz; exact (hz h).elim
 rename_i hz
 rw [if_neg hz]
 obtain ⟨c, hk⟩ := zsj (by simpa using hz)
 split at h
 ·cases h
 rename_i hi
 rw [if_neg hi]
 split at h
 ·rename_i k4
  rw [if_pos k4]
  have e : (z5y v).1 = v.list.length := by rcases hk with ⟨h3, _⟩ | ⟨_, e⟩; omega; exact e
  have hlt : i.toNat < v.list.length := by omega
  rw [List.getElem?_eq_getElem hlt]
  exact zvq c k4 (List.getElem_mem hlt)
 ·rename_i k4
  rw [if_neg k4]
  have k3 : v.kind = 3 := by rcases hk with ⟨h3, _⟩ | ⟨h4, _⟩; exact h3; exact (k4 h4).elim
  obtain ⟨f1, _, _⟩ := z0h c
  obtain ⟨s1, s2⟩ := yil f1 k3
  refine y0e ?_ ?_
  ·rw [List.length_take]; omega
  ·rw [List.all_eq_true] at s2 ⊢
   intro x hx
   exact s2 x (List.mem_of_mem_drop (List.mem_of_mem_take hx))
theorem ym5 {op : Int} {l : List zz0} (hl : ∀ x ∈ l, zz9 x = 0) (hop : z38 op = l.length ∧ (l.length = 1 ∨ l.length = 2) ∨ op = 18) (h : (z8e op l).1 = 0) : zz9 (z8e op l).2 = 0 := by
 have g0 : 1 ≤ l.length → zz9 (l.getD 0 v0) = 0 := fun hh => by
  rw [List.getD_eq_getElem?_getD, List.getElem?_eq_getElem (by omega)]; exact hl _ (List.getElem_mem _)
 have g1 : 2 ≤ l.length → zz9 (l.getD 1 v0) = 0 := fun hh => by
  rw [List.getD_eq_getElem?_getD, List.getElem?_eq_getElem (by omega)]; exact hl _ (List.getElem_mem _)
 have hc2 : (3 ≤ op ∧ op ≤ 10) ∨ op = 13 ∨ op = 14 ∨ op = 17 → l.length = 2 := fun hh => by
  rcases hop with ⟨h1, h2⟩ | h1
  ·rcases h2 with h2 | h2
   ·rw [h2] at h1; have := ops1 h1; omega
   ·exact h2
  ·omega
 have hc1 : op = 11 ∨ op = 15 ∨ op = 16 → l.length = 1 := fun hh => by
  rcases hop with ⟨h1, h2⟩ | h1
  ·rcases h2 with h2 | h2
   ·exact h2
   ·rw [h2] at h1; have := ops2 h1; omega
  ·omega
 unfold z8e at h ⊢
 by_cases h3 : op = 3
 ·rw [if_pos h3] at h ⊢; exact ypr h
 rw [if_neg h3] at h ⊢
 have num : ∀ {f : yz1 → yz1 → Int × Int} {c : Bool} {a b : yz1}, (if c = true then zm6 (z95 f a b) else (20, v0)).1 = 0 → zz9 (if c = true then zm6 (z95 f a b) else (20, v0)).2 = 0 := fun {f c a b} h => by
  cases c
  ·cases h
  ·rw [if_pos rfl] at h ⊢; exact yk4 h
 by_cases h4 : op = 4
 ·rw [if_pos h4] at h ⊢; exact num h
 rw [if_neg h4] at h ⊢
 by_cases h5 : op = 5
 ·rw [if_pos h5] at h ⊢; exact num h
 rw [if_neg h5] at h ⊢
 by_cases h6 : op = 6
 ·rw [if_pos h6] at h ⊢; exact num h
 rw [if_neg h6] at h ⊢
 by_cases h8 : op = 8
 ·rw [if_pos h8]; exact zcg _
 rw [if_neg h8] at h ⊢
 by_cases h7 : op = 7 ∨ op = 13 ∨ op = 14
 ·rw [if_pos h7] at h ⊢
  have hlen := hc2 (by omega)
  split at h
  ·rename_i hz; exact (hz h).elim
  rename_i hz
  rw [if_neg hz]
  split
  ·exact zcg _
  split
  ·simp only; split
   ·exact g1 (by omega)
   ·exact g0 (by omega)
  ·simp only; split
   ·exact g1 (by omega)
   ·exact g0 (by omega)
 rw [if_neg h7] at h ⊢
 have tr : ∀ {c b : Bool}, (if c = true then ((0 : Int), z6j b) else (20, v0)).1 = 0 → zz9 (if c = true then ((0 : Int), z6j b) else (20, v0)).2 = 0 := fun {c b} h => by
  cases c
  ·cases h
  ·exact zcg _
 by_cases h9 : op = 9
 ·rw [if_pos h9] at h ⊢; exact tr h
 rw [if_neg h9] at h ⊢
 by_cases h10 : op = 10
 ·rw [if_pos h10] at h ⊢; exact tr h
 rw [if_neg h10] at h ⊢
 by_cases h11 : op = 11
 ·rw [if_pos h11] at h ⊢; exact tr h
 rw [if_neg h11] at h ⊢
 by_cases h15 : op = 15
 ·rw [if_pos h15] at h ⊢
  split at h
  ·rename_i hk; rw [if_pos hk]; exact zua (yk6 yf2)
  ·cases h
 rw [if_neg h15] at h ⊢
 by_cases h16 : op = 16
 ·rw [if_pos h16] at h ⊢
  have := yoz (vok (g0 (by have := hc1 (by omega); omega))).2
  split at h
  ·rename_i hz; exact (hz h).elim
  ·rename_i hz; rw [if_neg hz]; exact zua (yk6 (by omega))
 rw [if_neg h16] at h ⊢
 by_cases h17 : op = 17
 ·rw [if_pos h17] at h ⊢
  split at h
  ·rename_i hz; exact (hz h).elim
  rename_i hz
  rw [if_neg hz]
  split at h
  ·cases h
  rename_i hk
  rw [if_neg hk]
  split at h
  ·cases h
  rename_i hd
  rw [if_neg hd]
  exact yqd h
 rw [if_neg h17] at h ⊢
 split at h
 ·rename_i hz; exact (hz h).elim
 ·rename_i hz; rw [if_neg hz]; simpa using hz
end Go.Proofs.YtfhpamcehnfhoaaGreatDoor


namespace Go.Proofs.YtfhpamcehnfhoaaGreatDoor
open Go Go.Ab
set_option linter.unusedVariables false
set_option linter.unusedSimpArgs false
def look (env : List yz3) (nm : List UInt8) : Option zz0 := (env.find? fun b => b.name == nm).map (·.value)
mutual
noncomputable def eev (env : List yz3) : zz1 → Int × zz0
 | ⟨op, v, nm, l⟩ =>
   if op = 1 then (0, v)
   else if op = 2 then (match look env nm with | some x => (0, x) | none => (6, v0))
   else if op = 12 then z90 env l
   else if (z7v env l).1 = 0 then z8e op (z7v env l).2 else ((z7v env l).1, v0)
noncomputable def z90 (env : List yz3) : List zz1 → Int × zz0
 | [] => (0, v0)
 | c :: l => if (eev env c).1 ≠ 0 then ((eev env c).1, v0) else if (eev env c).2.kind ≠ 2 then (20, v0) else if (eev env c).2.truth then z3w env l 0 else z3w env l 1
noncomputable def z3w (env : List yz3) : List zz1 → Nat → Int × zz0
 | [], _ => (0, v0)
 | x :: _, 0 => eev env x
 | _ :: l, k + 1 => z3w env l k
noncomputable def z7v (env : List yz3) : List zz1 → Int × List zz0
 | [] => (0, [])
 | x :: l => if (eev env x).1 ≠ 0 then ((eev env x).1, []) else ((z7v env l).1, (eev env x).2 :: (z7v env l).2)
end
theorem znj (b : yz3) (l : List yz3) (nm : List UInt8) : look (b :: l) nm = if b.name = nm then some b.value else look l nm := by
 unfold look
 by_cases h : b.name = nm
 ·rw [List.find?_cons_of_pos (by simpa using h), if_pos h]; rfl
 ·rw [List.find?_cons_of_neg (by simpa using h), if_neg h]
theorem zfu (env : List yz3) (e : zz1) : eev env e =
  if e.op = 1 then ((0 : Int), e.value)
  else if e.op = 2 then (match look env e.name with | some x => (0, x) | none => (6, v0))
  else if e.op = 12 then z90 env e.args
  else if (z7v env e.args).1 = 0 then z8e e.op (z7v env e.args).2 else ((z7v env e.args).1, v0) := by cases e; rw [eev]
theorem y7a (env : List yz3) : ∀ (l : List zz1) (k : Nat) (h : k < l.length), z3w env l k = eev env l[k]
 | x :: l, 0, h => by rw [z3w]; rfl
 | x :: l, k + 1, h => by rw [z3w, y7a env l k (by simpa using h)]; rfl
theorem z60 {e : zz1} (h : z4b e = true) : ∀ x ∈ e.args, z4b x = true := by
 rw [zb4] at h
 simp only [Bool.and_eq_true, zu5, List.all_eq_true] at h
 exact h.2.2
theorem zh8 {e : zz1} (h : z4b e = true) : zjf e.op e.args.length = true := by
 rw [zb4] at h
 simp only [Bool.and_eq_true] at h
 exact h.1
theorem zso {e : zz1} (h : z4b e = true) : zsx e.op e.value e.name = true := by
 rw [zb4] at h
 simp only [Bool.and_eq_true] at h
 exact h.2.1
theorem zer (l : List zz1) : l.length ≤ yzc l := by
 induction l with
 | nil => simp
 | cons x l ih => have := z1r x; simp [yzc]; omega
theorem zxp {l : List zz1} {x : zz1} (h : x ∈ l) : kzy x ≤ yzc l := by
 induction l with
 | nil => cases h
 | cons y l ih =>
   rcases List.mem_cons.1 h with rfl | h
   · simp [yzc]
   · have := ih h; simp [yzc]; omega
theorem zqj {op : Int} {k : Nat} (h : zjf op k = true) : ((op = 1 ∨ op = 2) ∧ k = 0) ∨ (z38 op = 2 ∧ k = 2) ∨ (z38 op = 1 ∧ k = 1) ∨ (op = 12 ∧ k = 3) ∨ op = 18 := by
 unfold zjf at h
 simp only [Bool.and_eq_true, bne_iff_ne, ne_eq, Bool.or_eq_true, decide_eq_true_eq, beq_iff_eq] at h
 unfold z38 at h ⊢
 by_cases h1 : op = 1 ∨ op = 2
 ·rw [if_pos h1] at h; exact .inl ⟨h1, by omega⟩
 rw [if_neg h1] at h ⊢
 by_cases h2 : (3 ≤ op ∧ op ≤ 10) ∨ op = 13 ∨ op = 14 ∨ op = 17
 ·rw [if_pos h2] at h ⊢; exact .inr (.inl ⟨rfl, by omega⟩)
 rw [if_neg h2] at h ⊢
 by_cases h3 : op = 11 ∨ op = 15 ∨ op = 16
 ·rw [if_pos h3] at h ⊢; exact .inr (.inr (.inl ⟨rfl, by omega⟩))
 rw [if_neg h3] at h ⊢
 by_cases h4 : op = 12
 ·rw [if_pos h4] at h; exact .inr (.inr (.inr (.inl ⟨h4, by omega⟩)))
 rw [if_neg h4] at h
 by_cases h5 : op = 18
 ·exact .inr (.inr (.inr (.inr h5)))
 ·rw [if_neg h5] at h; omega
def y09 (env : List yz3) : Prop := (∀ b ∈ env, zz9 b.value = 0) ∧ env.length ≤ 2097152
theorem yph {env : List yz3} (h : y09 env) {nm : List UInt8} {v : zz0} (hv : look env nm = some v) : zz9 v = 0 := by
 unfold look at hv
 rw [Option.map_eq_some_iff] at hv
 obtain ⟨b, hb, rfl⟩ := hv
 exact h.1 b (List.mem_of_find?_eq_some hb)
theorem yg4 (env : List yz3) : ∀ l : List zz1, (z7v env l).1 = 0 → (z7v env l).2.length = l.length
 | [], _ => by rw [z7v]; rfl
 | x :: l, h => by
   rw [z7v] at h ⊢
   split at h
   · rename_i hz; exact (hz h).elim
   · rename_i hz; rw [if_neg hz]; simp [yg4 env l h]
theorem zwq {env : List yz3} (henv : y09 env) : ∀ e : zz1, z4b e = true → (eev env e).1 = 0 → zz9 (eev env e).2 = 0 := zek fun e ih hf hz => by
 have hfa := z60 hf
 have hL : ∀ l : List zz1, (∀ x ∈ l, x ∈ e.args) → (z7v env l).1 = 0 → ∀ v ∈ (z7v env l).2, zz9 v = 0 := fun l => by
  induction l with
  | nil => intro _ _ v hv; rw [z7v] at hv; cases hv
  | cons x l ihl =>
    intro hm h v hv
    rw [z7v] at h hv
    split at h
    · rename_i hz; exact (hz h).elim
    · rename_i hx
      rw [if_neg hx] at hv
      have hx : (eev env x).1 = 0 := by simpa using hx
      rcases List.mem_cons.1 hv with rfl | hv
      · exact ih x (hm x List.mem_cons_self) (hfa x (hm x List.mem_cons_self)) hx
      · exact ihl (fun y hy => hm y (List.mem_cons_of_mem _ hy)) h v hv
 rw [zfu] at hz ⊢
 by_cases h1 : e.op = 1
 ·rw [if_pos h1]
  have := zso hf
  unfold zsx at this
  rw [if_pos h1] at this
  simp only [Bool.and_eq_true, beq_iff_eq] at this
  exact this.1
 rw [if_neg h1] at hz ⊢
 by_cases h2 : e.op = 2
 ·rw [if_pos h2] at hz ⊢
  cases hl : look env e.name with
  | none => rw [hl] at hz; cases hz
  | some x => exact yph henv hl
 rw [if_neg h2] at hz ⊢
 have har := zqj (zh8 hf)
 by_cases h12 : e.op = 12
 ·rw [if_pos h12] at hz ⊢
  have hlen : e.args.length = 3 := by
   rcases har with ⟨h, _⟩ | ⟨h, _⟩ | ⟨h, _⟩ | ⟨_, h⟩ | h
   ·omega
   ·rw [h12] at h; cases h
   ·rw [h12] at h; cases h
   ·exact h
   ·omega
  match hargs : e.args, hlen with
  | [c, a, b], _ =>
    rw [hargs, z90] at hz
    rw [z90]
    split at hz
    · rename_i h; exact (h hz).elim
    rename_i hc
    rw [if_neg hc]
    split at hz
    · cases hz
    rename_i hk
    rw [if_neg hk]
    split at hz
    · rename_i ht
      rw [if_pos ht]
      rw [z3w] at hz ⊢
      have ha : a ∈ e.args := by rw [hargs]; simp
      exact ih a ha (hfa a ha) hz
    · rename_i ht
      rw [if_neg ht]
      rw [z3w, z3w] at hz ⊢
      have hb : b ∈ e.args := by rw [hargs]; simp
      exact ih b hb (hfa b hb) hz
 rw [if_neg h12] at hz ⊢
 split at hz
 ·rename_i hl
  rw [if_pos hl]
  have hlen := yg4 env e.args hl
  refine ym5 (hL e.args (fun _ h => h) hl) ?_ hz
  rcases har with ⟨h, _⟩ | ⟨h, h'⟩ | ⟨h, h'⟩ | ⟨h, _⟩ | h
  ·omega
  ·exact .inl ⟨by rw [h, hlen, h']; rfl, .inr (by omega)⟩
  ·exact .inl ⟨by rw [h, hlen, h']; rfl, .inl (by omega)⟩
  ·omega
  ·exact .inr h
 ·rename_i hl; exact (hl hz).elim
theorem yov {env : List yz3} (hb : env.length ≤ 2097152) {a3 a4 a5 a6 : Int} {a7 : Bool} {a8 : List UInt8} {a9 : List zz0} {nm : List UInt8} {a11 : List zz1} :
  ∃ i : Int, Ev (fun n => kz6 n env a3 a4 a5 a6 a7 a8 a9 nm a11) (i, a3, a4, a5, a6, a7, a8, a9, nm, a11) ∧ ((i < 0 ∧ look env nm = none) ∨ ∃ j : Nat, ∃ hj : j < env.length, i = j ∧ look env nm = some env[j].value) := by
 have loop : ∀ k, k ≤ env.length → ∃ i : Int, Ev (fun n => kz5 n (k : Int) env (env.length : Int) a3 a4 a5 a6 a7 a8 a9 nm a11) (i, a3, a4, a5, a6, a7, a8, a9, nm, a11) ∧ ((i < 0 ∧ look (env.drop k) nm = none) ∨ ∃ j : Nat, ∃ hj : j < env.length, i = j ∧ look (env.drop k) nm = some env[j].value) :=
  down ⟨-1, by rw [yzr, Ev.kz1 (by simp), Ev.yz0], .inl ⟨by decide, by simp [look]⟩⟩ fun k hk ih => by
   obtain ⟨i, h1, h2⟩ := ih
   have h1' : Ev (fun n => z4n n env[k] a3 a4 a5 a6 a7 a8 a9 nm a11) ((env[k].name == nm), a3, a4, a5, a6, a7, a8, a9, nm, a11) := by rw [zji, Ev.yz0]
   by_cases he : env[k].name = nm
   ·refine ⟨k, ?_, .inr ⟨k, hk, rfl, ?_⟩⟩
    ·rw [yzr, Ev.yz2 (by simpa using hk), Ev.kz3 (z0u hk), yz3.zz3, Ev.kz0 h1', Ev.yz2 (by simpa using he), Ev.yz0]
    ·rw [← List.getElem_cons_drop (h := hk), znj, if_pos he]
   ·refine ⟨i, ?_, ?_⟩
    ·rw [yzr, Ev.yz2 (by simpa using hk), Ev.kz3 (z0u hk), yz3.zz3, Ev.kz0 h1', Ev.kz1 (by simpa using he), wrk (by omega)]; exact h1
    ·have : look (env.drop k) nm = look (env.drop (k + 1)) nm := by rw [← List.getElem_cons_drop (h := hk), znj, if_neg he]
     rw [this]; exact h2
 obtain ⟨i, h1, h2⟩ := loop 0 (Nat.zero_le _)
 exact ⟨i, by rw [z41]; exact h1, h2⟩
theorem y7g {env : List yz3} (henv : y09 env) : ∀ e : zz1, z4b e = true → kzy e ≤ 100 → Ev (fun n => kzi n e env) (zhs (eev env e)) := zek fun e ih hf hp => by
 have hfa := z60 hf
 have hok := fun x (hx : x ∈ e.args) => zwq henv x (hfa x hx)
 rw [z1r] at hp
 have hpl := zer e.args
 have ihx : ∀ x ∈ e.args, Ev (fun n => kzi n x env) (zhs (eev env x)) := fun x hx => ih x hx (hfa x hx) (by have := zxp hx; omega)
 have har := zqj (zh8 hf)
 rw [zpf, zfu]
 by_cases h1 : e.op = 1
 ·rw [Ev.yz2 (by simpa using h1), if_pos h1, Ev.yz0, zz0.zz3]; rfl
 rw [Ev.kz1 (by simpa using h1), if_neg h1]
 by_cases h2 : e.op = 2
 ·rw [Ev.yz2 (by simpa using h2), if_pos h2]
  obtain ⟨i, hi1, hi2⟩ := yov henv.2 (nm := e.name) (a3 := e.op) (a4 := e.value.kind) (a5 := e.value.num.num) (a6 := e.value.num.den) (a7 := e.value.truth) (a8 := e.value.str) (a9 := e.value.list) (a11 := e.args)
  rw [Ev.kz0 hi1]
  rcases hi2 with ⟨hneg, hl⟩ | ⟨j, hj, rfl, hl⟩
  ·rw [Ev.yz2 (by simpa using hneg), Ev.kz0 (zdr (by decide)), Ev.z4z, Ev.yz0, hl]; rfl
  ·rw [Ev.kz1 (by simp), zi9, Ev.kz3 (z0u hj), Ev.yz0, zz0.zz3, hl]; rfl
 rw [Ev.kz1 (by simpa using h2), if_neg h2]
 by_cases h12 : e.op = 12
 ·rw [Ev.yz2 (by simpa using h12), if_pos h12]
  have hlen : e.args.length = 3 := by
   rcases har with ⟨h, _⟩ | ⟨h, _⟩ | ⟨h, _⟩ | ⟨_, h⟩ | h
   ·omega
   ·rw [h12] at h; cases h
   ·rw [h12] at h; cases h
   ·exact h
   ·omega
  match hargs : e.args, hlen with
  | [c, a, b], _ =>
    have hc := ihx c (by rw [hargs]; simp)
    have ha := ihx a (by rw [hargs]; simp)
    have hb := ihx b (by rw [hargs]; simp)
    rw [Ev.kz3 (show ix [c, a, b] 0 = some c from rfl), zz1.zz3, Ev.kz0 hc, z90]
    by_cases hz : (eev env c).1 = 0
    case neg => rw [z61 hz, Ev.z4z, Ev.yz0, if_pos hz, z61 (by exact hz)]
    rw [zb3 hz, Ev.z7e, zz0.zz3, if_neg (by simpa using hz)]
    have hk := zj7 (k := 2) (l := [(eev env c).2]) (by simp)
    by_cases hk2 : (eev env c).2.kind = 2
    case neg =>
      rw [if_neg (by simpa using hk2)] at hk
      rw [Ev.kz0 hk, Ev.z4z, Ev.yz0, if_pos hk2]; rfl
    rw [if_pos (by simpa using hk2)] at hk
    rw [Ev.kz0 hk, Ev.z7e, if_neg (by simpa using hk2)]
    have fin : ∀ x : zz1, Ev (fun n => kzi n x env) (zhs (eev env x)) → Ev (fun n => (kzi n x env).bind fun y10 => z8s y10 (fun r11 => some (Res.ok r11.re)) (fun e12 => some (Res.pan (e12.1, ())))) (zhs (eev env x)) := fun x hx => by
      rw [Ev.kz0 hx]
      by_cases hz : (eev env x).1 = 0
      · rw [zb3 hz, Ev.z7e, Ev.yz0, zz0.zz3]
      · rw [z61 hz, Ev.z4z, Ev.yz0]
    cases ht : (eev env c).2.truth
    · rw [Ev.kz1 (by rfl), Ev.kz3 (show ix [c, a, b] 2 = some b from rfl), zz1.zz3, if_neg (by simp), z3w, z3w]
      exact fin b hb
    · rw [Ev.yz2 (by rfl), Ev.kz3 (show ix [c, a, b] 1 = some a from rfl), zz1.zz3, if_pos rfl, z3w]
      exact fin a ha
 rw [Ev.kz1 (by simpa using h12), if_neg h12]
 have loop : ∀ k, k ≤ e.args.length → ∀ acc : List zz0, acc.length = k → (∀ v ∈ acc, zz9 v = 0) → ∀ a5 a6 a7 a8 a9 a11, Ev (fun n => zzv n (k : Int) env e.args (e.args.length : Int) acc a5 a6 a7 a8 a9 e a11) (zhs (if (z7v env (e.args.drop k)).1 = 0 then z8e e.op (acc ++ (z7v env (e.args.drop k)).2) else ((z7v env (e.args.drop k)).1, v0))) :=
  down (fun acc hacc hval a5 a6 a7 a8 a9 a11 => by
   have happ : Ev (fun n => z2p n e.op acc) (zhs (z8e e.op acc)) := by
    rcases har with ⟨h, _⟩ | ⟨h, h'⟩ | ⟨h, h'⟩ | ⟨h, _⟩ | h
    ·omega
    ·match acc, (show acc.length = 2 by omega) with
     | [x, y], _ => exact ych h (hval x (by simp)) (hval y (by simp))
    ·match acc, (show acc.length = 1 by omega) with
     | [x], _ => exact yf4 h (hval x (by simp))
    ·omega
    ·rw [h]; exact ydn (by omega) hval
   rw [ze2, Ev.kz1 (by simp), Ev.kz0 happ, List.drop_length, z7v]
   simp only [if_true, List.append_nil]
   by_cases hz : (z8e e.op acc).1 = 0
   ·rw [zb3 hz, Ev.z7e, Ev.yz0, zz0.zz3]
   ·rw [z61 hz, Ev.z4z, Ev.yz0]) fun k hk ihk acc hacc hval a5 a6 a7 a8 a9 a11 => by
   have hx := List.getElem_mem hk
   rw [← List.getElem_cons_drop (h := hk), z7v]
   rw [ze2, Ev.yz2 (by simpa using hk), Ev.kz3 (z0u hk), zz1.zz3, Ev.kz0 (ihx _ hx)]
   by_cases hz : (eev env e.args[k]).1 = 0
   ·rw [zb3 hz, Ev.z7e, zz0.zz3, Ev.kz3 (zgu (by simp; omega)), wrk (by omega), zz1.zz3, if_neg (c := (eev env e.args[k]).1 ≠ 0) (by simpa using hz)]
    have := ihk (acc ++ [(eev env e.args[k]).2]) (by simp [hacc]) (fun v hv => by
     rcases List.mem_append.1 hv with hv | hv
     ·exact hval v hv
     ·rw [List.mem_singleton.1 hv]; exact hok _ hx hz) a5 a6 a7 a8 a9 a11
    refine this.to ?_
    simp only [List.append_assoc, List.singleton_append]
   ·rw [z61 hz, Ev.z4z, Ev.yz0, if_pos (c := (eev env e.args[k]).1 ≠ 0) hz]
    simp only
    rw [if_neg hz, z61 (by exact hz)]
 have := loop 0 (Nat.zero_le _) [] rfl (by simp) 0 0 0 false [] []
 rw [zz1.zz3]
 simpa using this
def bok (b : yz3) : Bool := zfc b.name && (zz9 b.value == 0)
def z3j (env : List yz3) : Int := if 40 < env.length then 4 else if env.all bok then 0 else 8
noncomputable def zjp (e : zz1) (env : List yz3) : Int × zz0 := if z1p e ≠ 0 then (z1p e, v0) else if z3j env ≠ 0 then (z3j env, v0) else eev env e
theorem zw6 {l : List yz3} {x : yz3} (h : x ∈ l) : x.size ≤ (l.map yz3.size).sum := by
 induction l with
 | nil => cases h
 | cons y l ih =>
   rcases List.mem_cons.1 h with rfl | h
   · simp
   · have := ih h; simp; omega
theorem zs7 (l : List yz3) : l.length ≤ (l.map yz3.size).sum := by
 induction l with
 | nil => simp
 | cons x l ih => have := yz3.size_eq x; simp; omega
theorem yat {env : List yz3} (h : z3j env = 0) : y09 env := by
 unfold z3j at h
 split at h
 ·cases h
 ·split at h
  ·rename_i h1 h2
   rw [List.all_eq_true] at h2
   refine ⟨fun b hb => ?_, by omega⟩
   have := h2 b hb
   simp only [bok, Bool.and_eq_true, beq_iff_eq] at this
   exact this.2
  ·cases h
theorem yio {e : zz1} {env : List yz3} (henv : y09 env) (hf : z4b e = true) (hp : kzy e ≤ 100) : Ev (fun n => z0g n e env) ((eev env e).2, (eev env e).1) ∨ ((eev env e).1 ≠ 0 ∧ Ev (fun n => z0g n e env) (v0, (eev env e).1)) := by
 by_cases hz : (eev env e).1 = 0
 ·left
  have hs := (vok (zwq henv e hf hz)).2
  rw [zgt, zz1.zz3, Ev.kz0 (y7g henv e hf hp), zb3 hz, Ev.z7e, zz0.zz3, Ev.kz0 (znw (by omega)), zz0.zz3]
  simp only [z6l, Option.bind_some]
  rw [Ev.yz0, hz]
 ·right
  refine ⟨hz, ?_⟩
  rw [zgt, zz1.zz3, Ev.kz0 (y7g henv e hf hp), z61 hz, Ev.z4z]
  simp only [z4e, pIf, Bool.not_false, Option.bind_some]
  rw [Ev.yz0]; rfl
theorem yhq {op : Int} {l : List zz0} (h : (z8e op l).1 ≠ 0) : (z8e op l).2 = v0 := by
 have hadd : ∀ a b, (zq3 a b).1 ≠ 0 → (zq3 a b).2 = v0 := fun a b h => by
  unfold zq3 at h ⊢
  repeat' split
  all_goals first
   | rfl
   | (exfalso; simp_all; done)
 have hat : ∀ v i, (vat v i).1 ≠ 0 → (vat v i).2 = v0 := fun v i h => by
  unfold vat at h ⊢
  repeat' split
  all_goals first
   | rfl
   | (exfalso; simp_all; done)
 have hnum : ∀ r, (zm6 r).1 ≠ 0 → (zm6 r).2 = v0 := fun r h => by
  unfold zm6 at h ⊢
  split
  ·rename_i hz; rw [if_pos hz] at h; exact (h rfl).elim
  ·rfl
 have num : ∀ {f : yz1 → yz1 → Int × Int} {c : Bool} {a b : yz1}, (if c = true then zm6 (z95 f a b) else (20, v0)).1 ≠ 0 → (if c = true then zm6 (z95 f a b) else (20, v0)).2 = v0 := fun {f c a b} h => by
  cases c
  ·rfl
  ·rw [if_pos rfl] at h ⊢; exact hnum _ h
 have tr : ∀ {c : Bool} {v : zz0}, (if c = true then ((0 : Int), v) else (20, v0)).1 ≠ 0 → (if c = true then ((0 : Int), v) else (20, v0)).2 = v0 := fun {c v} h => by
  cases c
  ·rfl
  ·exact (h rfl).elim
 unfold z8e at h ⊢
 by_cases h3 : op = 3
 ·rw [if_pos h3] at h ⊢; exact hadd _ _ h
 rw [if_neg h3] at h ⊢
 by_cases h4 : op = 4
 ·rw [if_pos h4] at h ⊢; exact num h
 rw [if_neg h4] at h ⊢
 by_cases h5 : op = 5
 ·rw [if_pos h5] at h ⊢; exact num h
 rw [if_neg h5] at h ⊢
 by_cases h6 : op = 6
 ·rw [if_pos h6] at h ⊢; exact num h
 rw [if_neg h6] at h ⊢
 by_cases h8 : op = 8
 ·rw [if_pos h8] at h; exact (h rfl).elim
 rw [if_neg h8] at h ⊢
 by_cases h7 : op = 7 ∨ op = 13 ∨ op = 14
 ·rw [if_pos h7] at h ⊢
  split at h
  ·rename_i hz; rw [if_pos hz]
  ·split at h
   ·exact (h rfl).elim
   ·split at h <;> exact (h rfl).elim
 rw [if_neg h7] at h ⊢
 by_cases h9 : op = 9
 ·rw [if_pos h9] at h ⊢; exact tr h
 rw [if_neg h9] at h ⊢
 by_cases h10 : op = 10
 ·rw [if_pos h10] at h ⊢; exact tr h
 rw [if_neg h10] at h ⊢
 by_cases h11 : op = 11
 ·rw [if_pos h11] at h ⊢; exact tr h
 rw [if_neg h11] at h ⊢
 by_cases h15 : op = 15
 ·rw [if_pos h15] at h ⊢; exact tr h
 rw [if_neg h15] at h ⊢
 by_cases h16 : op = 16
 ·rw [if_pos h16] at h ⊢
  split at h
  ·rename_i hz; rw [if_pos hz]
  ·exact (h rfl).elim
 rw [if_neg h16] at h ⊢
 by_cases h17 : op = 17
 ·rw [if_pos h17] at h ⊢
  split at h
  ·rename_i hz; rw [if_pos hz]
  rename_i hz
  rw [if_neg hz]
  split at h
  ·rename_i hk; rw [if_pos hk]
  rename_i hk
  rw [if_neg hk]
  split at h
  ·rename_i hd; rw [if_pos hd]
  rename_i hd
  rw [if_neg hd]
  exact hat _ _ h
 rw [if_neg h17] at h ⊢
 split at h
 ·rename_i hz; rw [if_pos hz]
 ·exact (h rfl).elim
theorem y03 {env : List yz3} : ∀ e : zz1, (eev env e).1 ≠ 0 → (eev env e).2 = v0 := zek fun e ih h => by
 rw [zfu] at h ⊢
 split at h
 ·exact (h rfl).elim
 rename_i h1
 rw [if_neg h1]
 split at h
 ·rename_i h2
  rw [if_pos h2]
  cases hl : look env e.name with
  | none => rfl
  | some x => rw [hl] at h; exact (h rfl).elim
 rename_i h2
 rw [if_neg h2]
 split at h
 ·rename_i h12
  rw [if_pos h12]
  cases hargs : e.args with
  | nil => rw [z90]
  | cons c l =>
    rw [hargs, z90] at h
    rw [z90]
    have hat : ∀ k, (z3w env l k).1 ≠ 0 → (z3w env l k).2 = v0 := fun k hk => by
      by_cases hlt : k < l.length
      · rw [y7a env l k hlt] at hk ⊢
        exact ih _ (by rw [hargs]; exact List.mem_cons_of_mem _ (List.getElem_mem hlt)) hk
      · have : ∀ (l : List zz1) (k : Nat), ¬ k < l.length → z3w env l k = (0, v0) := fun l => by
          induction l with
          | nil => intro k _; rw [z3w]
          | cons x l ihl =>
            intro k hk
            cases k with
            | zero => simp at hk
            | succ k => rw [z3w]; exact ihl k (by simpa using hk)
        rw [this l k hlt]
    split at h
    · rename_i hc; rw [if_pos hc]
    rename_i hc
    rw [if_neg hc]
    split at h
    · rename_i hk; rw [if_pos hk]
    rename_i hk
    rw [if_neg hk]
    split at h
    · rename_i ht; rw [if_pos ht]; exact hat _ h
    · rename_i ht; rw [if_neg ht]; exact hat _ h
 rename_i h12
 rw [if_neg h12]
 split at h
 ·rename_i hl; rw [if_pos hl]; exact yhq h
 ·rename_i hl; rw [if_neg hl]
theorem zxd {e : zz1} {env : List yz3} (henv : y09 env) (hf : z4b e = true) (hp : kzy e ≤ 100) : Ev (fun n => z0g n e env) ((eev env e).2, (eev env e).1) := by
 rcases yio henv hf hp with h | ⟨h1, h2⟩
 ·exact h
 ·rw [y03 e h1]; exact h2
theorem zaf {e : zz1} {env : List yz3} (hw : e.wf) (hs : e.size ≤ 2097152) (hbw : ∀ b ∈ env, b.value.wf) (hbs : (env.map yz3.size).sum ≤ 2097152) : Ev (fun n => zzq n e env) (zjp e env) := by
 have hbl := zs7 env
 rw [zpi, zz1.zz3, Ev.kz0 (zec hw hs)]
 unfold zjp
 by_cases hc : z1p e = 0
 case neg => rw [Ev.yz2 (by simpa using hc), Ev.yz0, if_pos hc]; rfl
 rw [Ev.kz1 (by simpa using hc), if_neg (by simpa using hc)]
 obtain ⟨hf, hp, _⟩ := z7q hc
 by_cases h40 : 40 < env.length
 ·have : z3j env = 4 := by unfold z3j; rw [if_pos h40]
  rw [Ev.yz2 (by simp; omega), Ev.yz0, this]; rfl
 rw [Ev.kz1 (by simp; omega)]
 have hbe : z3j env = if env.all bok then 0 else 8 := by unfold z3j; rw [if_neg h40]
 have bad : ∀ k z, Ev (fun n => yzv n env env (env.length : Int) k true z e) (8, v0) := fun k z => by rw [zdz, Ev.yz2 (by rfl), Ev.yz0]; rfl
 have loop : ∀ k, k ≤ env.length → (∀ j (hj : j < env.length), j < k → bok env[j] = true) → ∀ z, Ev (fun n => zzw n (k : Int) env env (env.length : Int) z e) (if z3j env ≠ 0 then (z3j env, v0) else eev env e) :=
  down (fun hall z => by
   have h0 : z3j env = 0 := by
    rw [hbe, if_pos]
    rw [List.all_eq_true]
    intro b hb
    obtain ⟨j, hj, rfl⟩ := List.mem_iff_getElem.1 hb
    exact hall j hj hj
   rw [zdw, Ev.kz1 (by simp), zz1.zz3, Ev.kz0 (zxd (yat h0) hf hp), Ev.yz0, zz0.zz3, h0]
   rfl) fun k hk ih hall z => by
   have hm := List.getElem_mem hk
   have hsz := zw6 hm
   have hsb := yz3.size_eq env[k]
   have hno : bok env[k] = false → z3j env = 8 := fun hb => by
    rw [hbe, if_neg]
    rw [List.all_eq_true]
    intro h
    rw [h _ hm] at hb; cases hb
   rw [zdw, Ev.yz2 (by simpa using hk), Ev.kz3 (z0u hk), Ev.kz0 (y30 (by omega)), zz0.zz3, zz1.zz3]
   cases hn : zfc env[k].name
   ·rw [Ev.yz2 (by rfl)]
    refine (bad _ _).to ?_
    rw [hno (by simp [bok, hn])]; rfl
   ·rw [Ev.kz1 (by rfl), zz0.zz3, Ev.kz0 (z5o (hbw _ hm) (by omega))]
    by_cases hv : zz9 env[k].value = 0
    ·rw [show (zz9 env[k].value != 0) = false by simpa using hv, zdz, Ev.kz1 (by rfl), wrk (by omega), zz0.zz3, zz1.zz3]
     refine ih (fun j hj hjk => ?_) _
     by_cases hjk' : j < k
     ·exact hall j hj hjk'
     ·have : j = k := by omega
      subst this; simp [bok, hn, hv]
    ·rw [show (zz9 env[k].value != 0) = true by simpa using hv]
     refine (bad _ _).to ?_
     rw [hno (by simp [bok, hn, hv])]; rfl
 have := loop 0 (Nat.zero_le _) (fun j hj h => absurd h (Nat.not_lt_zero _)) (zz0.mk 0 (yz1.mk 0 0) false [] [])
 exact this
theorem zxv {env : List yz3} (hbs : (env.map yz3.size).sum ≤ 2097152) : Ev (fun n => z2u n env) (z3j env) := by
 have hbl := zs7 env
 rw [zju]
 by_cases h40 : 40 < env.length
 ·have : z3j env = 4 := by unfold z3j; rw [if_pos h40]
  rw [Ev.yz2 (by simp; omega), Ev.yz0, this]
 rw [Ev.kz1 (by simp; omega)]
 have hbe : z3j env = if env.all bok then 0 else 8 := by unfold z3j; rw [if_neg h40]
 rw [hbe]
 have bad : ∀ k, Ev (fun n => zzs n env k true) 8 := fun k => by rw [zat, Ev.yz2 (by rfl), Ev.yz0]
 have loop : ∀ k, k ≤ env.length → Ev (fun n => kzs n (k : Int) env) (if (env.drop k).all bok then 0 else 8) :=
  down (by rw [zap, Ev.kz1 (by simp), Ev.yz0]; simp) fun k hk ih => by
   have hm := List.getElem_mem hk
   have hsz := zw6 hm
   have hsb := yz3.size_eq env[k]
   rw [← List.getElem_cons_drop (h := hk), List.all_cons]
   rw [zap, Ev.yz2 (by simpa using hk), Ev.kz3 (z0u hk), Ev.kz0 (y2o (by omega))]
   cases hn : zfc env[k].name
   ·rw [Ev.yz2 (by rfl)]
    refine (bad _).to ?_
    rw [show bok env[k] = false by simp [bok, hn]]; rfl
   ·rw [Ev.kz1 (by rfl), Ev.kz3 (z0u hk), zz0.zz3, Ev.kz0 (zxn (by omega))]
    by_cases hv : zz9 env[k].value = 0
    ·rw [show (zz9 env[k].value != 0) = false by simpa using hv, zat, Ev.kz1 (by rfl), wrk (by omega), show bok env[k] = true by simp [bok, hn, hv], Bool.true_and]
     exact ih
    ·rw [show (zz9 env[k].value != 0) = true by simpa using hv]
     refine (bad _).to ?_
     rw [show bok env[k] = false by simp [bok, hn, hv]]; rfl
 exact loop 0 (Nat.zero_le _)
theorem zg8 {env : List yz3} (hbs : (env.map yz3.size).sum ≤ 2097152) : ∃ b, Ev (fun n => zzh n env) b := by
 have hbl := zs7 env
 have fin : ∀ k : Int, ∃ b, Ev (fun n => kz9 n env k false) b := fun k => ⟨_, by rw [z7i, Ev.kz1 (by rfl)]; exact Ev.yz0.2 rfl⟩
 have loop : ∀ k, k ≤ env.length → ∃ b, Ev (fun n => kzb n (k : Int) env) b :=
  down (by
   obtain ⟨b, hb⟩ := fin (env.length : Int)
   exact ⟨b, by rw [z7k, Ev.kz1 (by simp)]; exact hb⟩) fun k hk ih => by
   have hm := List.getElem_mem hk
   have hsz := zw6 hm
   have hsb := yz3.size_eq env[k]
   obtain ⟨c, hc⟩ := ih
   have l2 : ∀ b, ∃ d, Ev (fun n => yzb n env (k : Int) b) d := fun b => by
    cases b
    ·exact ⟨c, by rw [z7j, Ev.kz1 (by rfl), wrk (by omega)]; exact hc⟩
    ·exact ⟨true, by rw [z7j, Ev.yz2 (by rfl), Ev.yz0]⟩
   have l1 : ∀ b, ∃ d, Ev (fun n => kz9 n env (k : Int) b) d := fun b => by
    cases b
    ·exact fin _
    ·obtain ⟨g, hg⟩ := zxx (v := env[k].value) (by omega)
     simp only [z7i, Ev.pif, if_true, Ev.kz3 (z0u hk), zz0.zz3, Ev.kz0 hg]
     split
     ·exact l2 _
     ·exact l2 _
   simp only [z7k, Ev.pif]
   split
   ·exact l1 _
   ·exact l1 _
 obtain ⟨b, hb⟩ := loop 0 (Nat.zero_le _)
 exact ⟨b, by rw [zd1]; exact hb⟩
end Go.Proofs.YtfhpamcehnfhoaaGreatDoor


namespace Go.Proofs.YtfhpamcehnfhoaaGreatDoor
open Go Go.Ab
set_option linter.unusedVariables false
set_option linter.unusedSimpArgs false
mutual
def z1q : zz1 → List (List UInt8) → List (List UInt8)
 | ⟨op, _, nm, l⟩, acc => yzs l (if op = 2 ∧ nm ∉ acc then acc ++ [nm] else acc)
def yzs : List zz1 → List (List UInt8) → List (List UInt8)
 | [], acc => acc
 | x :: l, acc => yzs l (z1q x acc)
end
theorem z6x (e : zz1) (acc : List (List UInt8)) : z1q e acc = yzs e.args (if e.op = 2 ∧ e.name ∉ acc then acc ++ [e.name] else acc) := by cases e; rw [z1q]
mutual
def z64 : zz1 → List (List UInt8) → List (List UInt8)
 | ⟨op, _, nm, l⟩, acc => z9l l (if op = 2 then ins acc nm else acc)
def z9l : List zz1 → List (List UInt8) → List (List UInt8)
 | [], acc => acc
 | x :: l, acc => z9l l (z64 x acc)
end
theorem zuv (e : zz1) (acc : List (List UInt8)) : z64 e acc = z9l e.args (if e.op = 2 then ins acc e.name else acc) := by cases e; rw [z64]
theorem zh5 : ∀ (e : zz1) (a b : List (List UInt8)), a.Nodup → z9u b → (∀ x, x ∈ a ↔ x ∈ b) → (z1q e a).Nodup ∧ z9u (z64 e b) ∧ (∀ x, x ∈ z1q e a ↔ x ∈ z64 e b) ∧ (z1q e a).length ≤ a.length + kzy e ∧ (z64 e b).length ≤ b.length + kzy e := zek fun e ih a b ha hb hab => by
 have hL : ∀ (l : List zz1), (∀ x ∈ l, x ∈ e.args) → ∀ a b : List (List UInt8), a.Nodup → z9u b → (∀ x, x ∈ a ↔ x ∈ b) → (yzs l a).Nodup ∧ z9u (z9l l b) ∧ (∀ x, x ∈ yzs l a ↔ x ∈ z9l l b) ∧ (yzs l a).length ≤ a.length + yzc l ∧ (z9l l b).length ≤ b.length + yzc l := fun l => by
  induction l with
  | nil => intro _ a b ha hb hab; simp only [yzs, z9l, yzc]; exact ⟨ha, hb, hab, Nat.le_refl _, Nat.le_refl _⟩
  | cons x l ihl =>
    intro hm a b ha hb hab
    obtain ⟨h1, h2, h3, h4, h5⟩ := ih x (hm x List.mem_cons_self) a b ha hb hab
    obtain ⟨k1, k2, k3, k4, k5⟩ := ihl (fun y hy => hm y (List.mem_cons_of_mem _ hy)) _ _ h1 h2 h3
    simp only [yzs, z9l, yzc]
    exact ⟨k1, k2, k3, by omega, by omega⟩
 rw [z6x, zuv, z1r]
 by_cases h2 : e.op = 2
 ·rw [if_pos h2]
  by_cases hn : e.name ∈ a
  ·rw [if_neg (by simp [hn])]
   obtain ⟨k1, k2, k3, k4, k5⟩ := hL e.args (fun _ h => h) a (ins b e.name) ha (zkc hb) (fun x => by
    rw [zsa, ← hab]
    exact ⟨.inl, fun h => h.elim id fun h => by rw [h]; exact hn⟩)
   have := zs4 e.name b
   exact ⟨k1, k2, k3, by omega, by omega⟩
  ·rw [if_pos ⟨h2, hn⟩]
   obtain ⟨k1, k2, k3, k4, k5⟩ := hL e.args (fun _ h => h) (a ++ [e.name]) (ins b e.name) (by
    rw [List.nodup_append]
    refine ⟨ha, by simp, fun x hx y hy => ?_⟩
    rw [List.mem_singleton.1 hy]; intro h; subst h; exact hn hx) (zkc hb) (fun x => by
    rw [zsa, ← hab, List.mem_append, List.mem_singleton])
   have := zs4 e.name b
   rw [List.length_append, List.length_singleton] at k4
   exact ⟨k1, k2, k3, by omega, by omega⟩
 ·rw [if_neg h2, if_neg (fun h => h2 h.1)]
  obtain ⟨k1, k2, k3, k4, k5⟩ := hL e.args (fun _ h => h) a b ha hb hab
  exact ⟨k1, k2, k3, by omega, by omega⟩
theorem zqm (e : zz1) : z5v (z1q e []) = z64 e [] := by
 obtain ⟨h1, h2, h3, _⟩ := zh5 e [] [] (by simp) (by simp [z9u]) (by simp)
 exact zmn (zvi h1) h2 fun x => by rw [(zkz _).mem_iff, h3]
theorem zl0 : ∀ (e : zz1) (a : List (List UInt8)), (z1q e a).length ≤ a.length + kzy e := zek fun e ih a => by
 have hL : ∀ (l : List zz1), (∀ x ∈ l, x ∈ e.args) → ∀ a : List (List UInt8), (yzs l a).length ≤ a.length + yzc l := fun l => by
  induction l with
  | nil => intro _ a; simp [yzs, yzc]
  | cons x l ihl =>
    intro hm a
    have h1 := ih x (hm x List.mem_cons_self) a
    have h2 := ihl (fun y hy => hm y (List.mem_cons_of_mem _ hy)) (z1q x a)
    simp only [yzs, yzc]; omega
 rw [z6x, z1r]
 have := hL e.args (fun _ h => h) (if e.op = 2 ∧ e.name ∉ a then a ++ [e.name] else a)
 have h2 : (if e.op = 2 ∧ e.name ∉ a then a ++ [e.name] else a).length ≤ a.length + 1 := by split <;> simp
 omega
theorem yll : ∀ (e : zz1) (a : List (List UInt8)), (z64 e a).length ≤ a.length + kzy e := zek fun e ih a => by
 have hL : ∀ (l : List zz1), (∀ x ∈ l, x ∈ e.args) → ∀ a : List (List UInt8), (z9l l a).length ≤ a.length + yzc l := fun l => by
  induction l with
  | nil => intro _ a; simp [z9l, yzc]
  | cons x l ihl =>
    intro hm a
    have h1 := ih x (hm x List.mem_cons_self) a
    have h2 := ihl (fun y hy => hm y (List.mem_cons_of_mem _ hy)) (z64 x a)
    simp only [z9l, yzc]; omega
 rw [zuv, z1r]
 have hi := zs4 e.name a
 have := hL e.args (fun _ h => h) (if e.op = 2 then ins a e.name else a)
 split at this
 ·rename_i h; rw [if_pos h]; omega
 ·rename_i h; rw [if_neg h]; omega
theorem zw8 {l : List (List UInt8)} (hl : l.length ≤ 2097152) {s : List UInt8} : ∃ i : Int, Ev (fun n => kz8 n s l) (i, l) ∧ decide (i ≥ 0) = decide (s ∈ l) := by
 have loop : ∀ k, k ≤ l.length → ∃ i : Int, Ev (fun n => kz4 n (k : Int) s (l.length : Int) l) (i, l) ∧ decide (i ≥ 0) = decide (s ∈ l.drop k) :=
  down ⟨-1, by rw [yzn, Ev.kz1 (by simp), Ev.yz0], by simp⟩ fun k hk ih => by
   obtain ⟨i, h1, h2⟩ := ih
   by_cases he : s = l[k]
   ·refine ⟨k, ?_, ?_⟩
    ·rw [yzn, Ev.yz2 (by simpa using hk), Ev.kz3 (z0u hk), Ev.yz2 (by simpa using he), Ev.yz0]
    ·have : s ∈ l.drop k := by rw [← List.getElem_cons_drop (h := hk), he]; exact List.mem_cons_self
     simp [this]
   ·refine ⟨i, ?_, ?_⟩
    ·rw [yzn, Ev.yz2 (by simpa using hk), Ev.kz3 (z0u hk), Ev.kz1 (by simpa using he), wrk (by omega)]; exact h1
    ·rw [h2]
     have : (s ∈ l.drop k) ↔ (s ∈ l.drop (k + 1)) := by
      rw [← List.getElem_cons_drop (h := hk), List.mem_cons]
      exact ⟨fun h => h.elim (fun h => (he h).elim) id, .inr⟩
     exact decide_eq_decide.2 this.symm
 obtain ⟨i, h1, h2⟩ := loop 0 (Nat.zero_le _)
 exact ⟨i, by rw [z6s]; exact h1, by simpa using h2⟩
theorem zpe : ∀ (e : zz1) (acc : List (List UInt8)), acc.length + kzy e ≤ 2097152 → Ev (fun n => z11 n e acc) (z1q e acc) := zek fun e ih acc hb => by
 rw [z1r] at hb
 have loop : ∀ k, k ≤ e.args.length → ∀ acc : List (List UInt8), acc.length + yzc (e.args.drop k) ≤ 2097152 → Ev (fun n => zzt n (k : Int) e.args (e.args.length : Int) acc) (yzs (e.args.drop k) acc) :=
  down (fun acc hb => by rw [z9m, Ev.kz1 (by simp), Ev.yz0]; simp [yzs]) fun k hk ihk acc hb => by
   have hx := List.getElem_mem hk
   have hlen := zer e.args
   rw [← List.getElem_cons_drop (h := hk)] at hb ⊢
   simp only [yzs, yzc] at hb ⊢
   have := zl0 e.args[k] acc
   have hk2 : k ≤ 2097153 := by
    have := zer e.args; omega
   rw [z9m, Ev.yz2 (by simpa using hk), Ev.kz3 (z0u hk), zz1.zz3, Ev.kz0 (ih _ hx _ (by omega)), wrk (by omega)]
   exact ihk _ (by omega)
 have l1 : ∀ acc : List (List UInt8), acc.length + yzc e.args ≤ 2097152 → Ev (fun n => kzt n acc e) (yzs e.args acc) := fun acc hb => by
  rw [zfx]; simpa using loop 0 (Nat.zero_le _) acc (by simpa using hb)
 rw [zn1, z6x]
 by_cases h2 : e.op = 2
 ·obtain ⟨i, h3, h4⟩ := zw8 (l := acc) (by omega) (s := e.name)
  have hc : Ev (fun n => yz6 n e.name acc) (decide (e.name ∈ acc), acc) := by
   rw [z5i, Ev.kz0 h3, Ev.yz0, h4]
  rw [Ev.yz2 (by simpa using h2), Ev.kz0 hc, zz1.zz3, z9h]
  by_cases hn : e.name ∈ acc
  ·rw [Ev.kz1 (by simpa using hn), if_neg (by simp [hn]), zz1.zz3]
   exact l1 acc (by omega)
  ·rw [Ev.yz2 (by simpa using hn), if_pos ⟨h2, hn⟩, Ev.kz3 (zgu (by simp; omega)), zz1.zz3]
   exact l1 _ (by simp; omega)
 ·rw [Ev.kz1 (by simpa using h2), if_neg (fun h => h2 h.1), zz1.zz3, z9h, Ev.kz1 (by rfl), zz1.zz3]
  exact l1 _ (by omega)
noncomputable def zp0 (e : zz1) : List (List UInt8) × Int := if z1p e ≠ 0 then ([], z1p e) else (z64 e [], 0)
theorem ztr {e : zz1} (hw : e.wf) (hs : e.size ≤ 2097152) : Ev (fun n => z32 n e) (zp0 e) := by
 rw [zme, zz1.zz3, Ev.kz0 (zec hw hs)]
 unfold zp0
 by_cases hc : z1p e = 0
 case neg => rw [Ev.yz2 (by simpa using hc), Ev.yz0, if_pos hc]
 obtain ⟨_, hp, _⟩ := z7q hc
 have hl := zl0 e []
 have hsort : Ev (fun n => z06 n (z1q e [])) (z64 e []) := by
  refine .same (fun n => ?_) (.pure rfl)
  unfold z06
  rw [if_pos (by simp at hl; omega), zqm]
 rw [Ev.kz1 (by simpa using hc), if_neg (by simpa using hc), Ev.kz0 (zpe e [] (by simp; omega)), Ev.kz0 hsort, Ev.yz0]
end Go.Proofs.YtfhpamcehnfhoaaGreatDoor


namespace Go.Proofs.YtfhpamcehnfhoaaGreatDoor
open Go Go.Ab
set_option linter.unusedVariables false
set_option linter.unusedSimpArgs false
theorem zqq : Ev (fun n => yz7 n) true := ⟨0, fun _ _ => rfl⟩
theorem alv : Ev (fun n => (yz7 n).bind fun y => some y) true := by rw [Ev.kz0 zqq, Ev.yz0]
theorem znf {e : zz1} (hs : e.size ≤ 2097152) : (Ev (fun n => kz7 n e) true ∧ z1p e = 0) ∨ Ev (fun n => kz7 n e) false := by
 obtain ⟨g, hg⟩ := zqr (e := e) hs
 cases g
 ·by_cases hc : z1p e = 0
  ·left; refine ⟨?_, hc⟩
   rw [zzr, zz1.zz3, Ev.kz0 hg, Ev.yz2 (by rfl), Ev.kz0 (zes hs), Ev.yz0, hc]; rfl
  ·right
   rw [zzr, zz1.zz3, Ev.kz0 hg, Ev.yz2 (by rfl), Ev.kz0 (zes hs), Ev.yz0]; simpa using hc
 ·right; rw [zzr, zz1.zz3, Ev.kz0 hg, Ev.kz1 (by rfl), Ev.yz0]
theorem zru : v0.size ≤ 2097152 := by rw [zz0.size_eq, yz1.size_eq]; simp [v0]
theorem zna {env : List yz3} {e : zz1} (hc : z1p e = 0) (hb : z3j env = 0) : (eev env e).2.size ≤ 2097152 := by
 by_cases hz : (eev env e).1 = 0
 ·have := (vok (zwq (yat hb) e (z7q hc).1 hz)).2; omega
 ·rw [y03 e hz]; exact zru
theorem zb8 {env : List yz3} {e : zz1} (hc : z1p e = 0) (hb : z3j env = 0) : zjp e env = eev env e := by
 unfold zjp; rw [if_neg (by simpa using hc), if_neg (by simpa using hb)]
end Go.Proofs.YtfhpamcehnfhoaaGreatDoor


namespace Go.Proofs.YtfhpamcehnfhoaaGreatDoor
open Go Go.Ab
set_option linter.unusedVariables false
set_option linter.unusedSimpArgs false
theorem zty {env : List yz3} : z3j env = 0 ↔ env.length ≤ 40 ∧ ∀ b ∈ env, bok b = true := by
 unfold z3j
 by_cases h : 40 < env.length
 ·rw [if_pos h]; constructor
  ·intro h'; cases h'
  ·intro h'; omega
 ·rw [if_neg h]
  by_cases h2 : env.all bok = true
  ·rw [if_pos h2]; exact ⟨fun _ => ⟨by omega, List.all_eq_true.1 h2⟩, fun _ => rfl⟩
  ·rw [if_neg h2]; exact ⟨fun h' => (by cases h'), fun h' => absurd (List.all_eq_true.2 h'.2) h2⟩
theorem y8a {b : yz3} {l2 : List yz3} {nm : List UInt8} : ∀ l1 : List yz3, (nm ≠ b.name ∨ ∃ x ∈ l1, x.name = b.name) → look (l1 ++ b :: l2) nm = look (l1 ++ l2) nm
 | [], h => by
   rcases h with h | ⟨x, hx, _⟩
   · rw [List.nil_append, znj, if_neg (fun e => h e.symm), List.nil_append]
   · cases hx
 | x :: l1, h => by
   rw [List.cons_append, List.cons_append, znj, znj]
   by_cases hx : x.name = nm
   · rw [if_pos hx, if_pos hx]
   · rw [if_neg hx, if_neg hx]
     refine y8a l1 ?_
     rcases h with h | ⟨y, hy, he⟩
     · exact .inl h
     · rcases List.mem_cons.1 hy with rfl | hy
       · exact .inl fun e => hx (by rw [he, e])
       · exact .inr ⟨y, hy, he⟩
theorem z7f : ∀ (l : List zz1), (∀ x ∈ l, ∀ (acc : List (List UInt8)) y, y ∈ acc → y ∈ z1q x acc) → ∀ (acc : List (List UInt8)) y, y ∈ acc → y ∈ yzs l acc
 | [], _, acc, y, hy => by rw [yzs]; exact hy
 | x :: l, h, acc, y, hy => by
   rw [yzs]
   exact z7f l (fun z hz => h z (List.mem_cons_of_mem _ hz)) _ y (h x List.mem_cons_self acc y hy)
theorem zhn : ∀ (e : zz1) (acc : List (List UInt8)) (y : List UInt8), y ∈ acc → y ∈ z1q e acc := zek fun e ih acc y hy => by
 rw [z6x]
 refine z7f e.args ih _ y ?_
 split
 ·exact List.mem_append_left _ hy
 ·exact hy
theorem zhe {x : zz1} : ∀ (l : List zz1) (acc : List (List UInt8)), x ∈ l → ∃ acc', ∀ y, y ∈ z1q x acc' → y ∈ yzs l acc
 | [], acc, h => by cases h
 | z :: l, acc, h => by
   rw [yzs]
   rcases List.mem_cons.1 h with rfl | h
   · exact ⟨acc, fun y hy => z7f l (fun w _ => zhn w) _ y hy⟩
   · exact zhe l _ h
theorem zbk {env env' : List yz3} : ∀ (l : List zz1) (k : Nat), (∀ x ∈ l, eev env x = eev env' x) → z3w env l k = z3w env' l k
 | [], k, h => by rw [z3w, z3w]
 | x :: l, 0, h => by rw [z3w, z3w]; exact h x List.mem_cons_self
 | x :: l, k + 1, h => by rw [z3w, z3w]; exact zbk l k fun y hy => h y (List.mem_cons_of_mem _ hy)
theorem zrr {env env' : List yz3} (l : List zz1) (h : ∀ x ∈ l, eev env x = eev env' x) : z90 env l = z90 env' l := by
 cases l with
 | nil => rw [z90, z90]
 | cons c l =>
   have hl : ∀ x ∈ l, eev env x = eev env' x := fun x hx => h x (List.mem_cons_of_mem _ hx)
   rw [z90, z90, h c List.mem_cons_self, zbk l 0 hl, zbk l 1 hl]
theorem zkp {env env' : List yz3} : ∀ (l : List zz1), (∀ x ∈ l, eev env x = eev env' x) → z7v env l = z7v env' l
 | [], h => by rw [z7v, z7v]
 | x :: l, h => by rw [z7v, z7v, h x List.mem_cons_self, zkp l fun y hy => h y (List.mem_cons_of_mem _ hy)]
theorem zx4 {env env' : List yz3} : ∀ (e : zz1) (acc : List (List UInt8)), (∀ nm, nm ∈ z1q e acc → look env nm = look env' nm) → eev env e = eev env' e := zek fun e ih acc h => by
 have harg : ∀ x ∈ e.args, eev env x = eev env' x := fun x hx => by
  obtain ⟨acc', ha⟩ := zhe e.args (if e.op = 2 ∧ e.name ∉ acc then acc ++ [e.name] else acc) hx
  exact ih x hx acc' fun nm hn => h nm (by rw [z6x]; exact ha nm hn)
 rw [zfu, zfu, zrr e.args harg, zkp e.args harg]
 by_cases h2 : e.op = 2
 ·rw [h e.name (by
   rw [z6x]
   refine z7f e.args (fun w _ => zhn w) _ _ ?_
   by_cases hn : e.name ∈ acc
   ·rw [if_neg (by simp [hn])]; exact hn
   ·rw [if_pos ⟨h2, hn⟩]; simp)]
 ·rw [if_neg h2, if_neg h2]
theorem y8j (e : zz1) (env : List yz3) (i : Int) (hw : e.wf) (hbw : ∀ b ∈ env, b.wf) (hi : IntKind.i64.min ≤ i ∧ i ≤ IntKind.i64.max) (hs : e.size + (env.map yz3.size).sum + 0 ≤ 1048576) : ∃ n, z0p n e env i = some true := by
 have hbw' : ∀ b ∈ env, b.value.wf := fun b hb => by have := hbw b hb; rw [yz3.z6o] at this; exact this.2
 refine Ev.get (r := true) ?_
 have hbl := zs7 env
 have lt : Ev (fun n => kzc n i env true e) true := by rw [z9n, Ev.yz2 (by rfl)]; exact alv
 have lf (hc : z1p e = 0) (he : z3j env = 0) (h0 : 0 ≤ i) (h1 : i < env.length) : Ev (fun n => kzc n i env false e) true := by
  obtain ⟨i, rfl⟩ : ∃ k : Nat, i = (k : Int) := ⟨i.toNat, by omega⟩
  have hk : i < env.length := by omega
  rw [z9n, Ev.kz1 (by rfl)]
  simp only [zz1.zz3]
  rw [Ev.kz0 (ztr hw (by omega))]
  have hn : zp0 e = (z64 e [], 0) := by unfold zp0; rw [if_neg (by simpa using hc)]
  rw [hn, Ev.kz1 (by rfl)]
  have hnl : (z64 e []).length ≤ 2097152 := by
   have := yll e []
   have := (z7q hc).2.1
   simp at *; omega
  have hmem : ∀ x, x ∈ z1q e [] ↔ x ∈ z64 e [] := (zh5 e [] [] (by simp) (by simp [z9u]) (by simp)).2.2.1
  have fin : ∀ b : Bool, (b = false → env[i].name ∉ z64 e [] ∨ ∃ x ∈ env.take i, x.name = env[i].name) → Ev (fun n => kzm n (i : Int) (i : Int) env b e) true := fun b hb => by
   have hsub : env = env.take i ++ env[i] :: env.drop (i + 1) := by rw [List.getElem_cons_drop, List.take_append_drop]
   have hless : z3j (env.take i ++ env.drop (i + 1)) = 0 := by
    rw [zty] at he ⊢
    refine ⟨by simp; omega, fun x hx => he.2 x ?_⟩
    rcases List.mem_append.1 hx with hx | hx
    ·exact List.mem_of_mem_take hx
    ·exact List.mem_of_mem_drop hx
   have hlw : ∀ x ∈ env.take i ++ env.drop (i + 1), x.value.wf := fun x hx => by
    rcases List.mem_append.1 hx with hx | hx
    ·exact hbw' x (List.mem_of_mem_take hx)
    ·exact hbw' x (List.mem_of_mem_drop hx)
   have hls : ((env.take i ++ env.drop (i + 1)).map yz3.size).sum ≤ (env.map yz3.size).sum := by
    have key : ∀ (l1 l2 : List yz3) (b : yz3), ((l1 ++ l2).map yz3.size).sum ≤ ((l1 ++ b :: l2).map yz3.size).sum := fun l1 l2 b => by simp
    exact Nat.le_trans (key _ _ env[i]) (Nat.le_of_eq (by rw [← hsub]))
   rw [z9o, Ev.kz1 (by simp)]
   rw [Ev.kz3 (ym7 (by omega)), wrk (by omega), Ev.kz3 (ypk (by omega) (Nat.le_refl _)), Ev.kz3 (zgu (by simp; omega)), Ev.kz3 (zgu (by simp; omega))]
   simp only [zz1.zz3, zz0.zz3, List.nil_append, List.take_length]
   rw [Ev.kz0 (zaf hw (by omega) hbw' (by omega)), Ev.kz0 (zaf hw (by omega) hlw (by omega)), zb8 hc he, zb8 hc hless]
   cases b
   case true => rw [Ev.yz2 (by rfl)]; exact alv
   have hee : eev (env.take i ++ env.drop (i + 1)) e = eev env e := by
    refine zx4 e [] fun nm hnm => ?_
    rw [hmem] at hnm
    conv => rhs; rw [hsub]
    refine (y8a _ ?_).symm
    rcases hb rfl with h | h
    ·exact .inl fun q => h (by rw [← q]; exact hnm)
    ·exact .inr h
   rw [hee, Ev.kz1 (by rfl), Ev.yz2 (by simp), Ev.kz0 (zko _ _ (zna hc he)), Ev.yz2 (by simp)]
   exact alv
  have l3 : ∀ k, k ≤ i → ∀ b : Bool, (b = false → env[i].name ∉ z64 e [] ∨ ∃ x ∈ env.take k, x.name = env[i].name) → Ev (fun n => kzm n (k : Int) (i : Int) env b e) true :=
   down fin fun k hki ih b hb => by
    have hkl : k < env.length := by omega
    have hm : env[k] ∈ env.take (k + 1) := by
     rw [List.mem_iff_getElem]; exact ⟨k, by simp; omega, by simp⟩
    have hup : ∀ x, x ∈ env.take k → x ∈ env.take (k + 1) := fun x hx => by rw [List.take_add_one]; exact List.mem_append_left _ hx
    rw [z9o, Ev.yz2 (by simp; omega), Ev.kz3 (z0u hkl), Ev.kz3 (z0u hk)]
    by_cases hx : env[k].name = env[i].name
    ·rw [Ev.yz2 (by simpa using hx), z9q, wrk (by omega)]
     simp only [zz1.zz3]
     exact ih false fun _ => .inr ⟨_, hm, hx⟩
    ·rw [Ev.kz1 (by simpa using hx), z9q, wrk (by omega)]
     simp only [zz1.zz3]
     refine ih b fun q => ?_
     rcases hb q with h | ⟨x, h, h'⟩
     ·exact .inl h
     ·exact .inr ⟨x, hup x h, h'⟩
  have l1 : ∀ k, k ≤ (z64 e []).length → ∀ b : Bool, (b = false → env[i].name ∉ (z64 e []).take k) → Ev (fun n => yzy n (k : Int) (i : Int) env (z64 e []) b e) true :=
   down (fun b hb => by
    rw [z9p, Ev.kz1 (by simp)]
    simp only [zz1.zz3]
    exact l3 0 (Nat.zero_le _) b fun q => .inl (by simpa using hb q)) fun k hkl ih b hb => by
    rw [z9p, Ev.yz2 (by simpa using hkl)]
    simp only [zz1.zz3]
    have step : ∀ b : Bool, (b = false → env[i].name ∉ (z64 e []).take (k + 1)) → Ev (fun n => kzx n (i : Int) env (z64 e []) b (k : Int) e) true := fun b hb => by
     rw [zhp, wrk (by omega)]
     simp only [zz1.zz3]
     exact ih b hb
    cases b
    case true => rw [Ev.yz2 (by rfl)]; exact step true fun h => by cases h
    rw [Ev.kz1 (by rfl), Ev.kz3 (z0u hkl), Ev.kz3 (z0u hk)]
    refine step _ fun h => ?_
    have h : (z64 e [])[k] ≠ env[i].name := by simpa using h
    rw [List.take_add_one, List.getElem?_eq_getElem hkl]
    simp only [Option.toList, List.mem_append, List.mem_singleton, not_or]
    exact ⟨hb rfl, fun q => h q.symm⟩
  exact l1 0 (Nat.zero_le _) false fun _ => by simp
 rw [zk3]
 simp only [zz1.zz3]
 rcases znf (e := e) (by omega) with ⟨h1, hc⟩ | h1
 case inr => rw [Ev.kz0 h1, Ev.yz2 (by rfl)]; exact lt
 rw [Ev.kz0 h1, Ev.kz1 (by rfl), Ev.kz0 (zxv (by omega))]
 by_cases he : z3j env = 0
 case neg => rw [Ev.yz2 (by simpa using he)]; exact lt
 rw [Ev.kz1 (by simpa using he)]
 obtain ⟨g, hg⟩ := zg8 (env := env) (by omega)
 rw [Ev.kz0 hg]
 cases g
 case true => rw [Ev.yz2 (by rfl)]; exact lt
 rw [Ev.kz1 (by rfl)]
 by_cases h0 : i < 0
 ·rw [Ev.yz2 (by simpa using h0)]; exact lt
 rw [Ev.kz1 (by simpa using h0)]
 by_cases h1 : i ≥ env.length
 ·rw [show decide (i ≥ (env.length : Int)) = true by simpa using h1]; exact lt
 ·rw [show decide (i ≥ (env.length : Int)) = false by simpa using h1]; exact lf hc he (by omega) (by omega)
end Go.Proofs.YtfhpamcehnfhoaaGreatDoor

