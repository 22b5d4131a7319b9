/-
  VALUES: ORDER, SUMS, LENGTHS, ELEMENTS.
-/
import Derived.Test.YtfhpamcehnfhoaaGreatDoorOwn2
import Derived.Test.YtfhpamcehnfhoaaGreatDoorLib6
import Derived.Lib.ItoaLen
namespace Go.Proofs.YtfhpamcehnfhoaaGreatDoor
open Go Go.Ab
set_option linter.unusedVariables false
set_option linter.unusedSimpArgs false
theorem zhd {v : yz0} (h : z8k v = true) (hk : v.kind = 1) : rok v.num = true := by
 rw [z7i, if_pos hk] at h; simp only [Bool.and_eq_true] at h; exact h.1
theorem zpg {v : yz0} (h : z8k v = true) : ∀ x ∈ v.list, z8k x = true := by
 rw [z7i] at h
 split at h
 ·simp only [Bool.and_eq_true, List.isEmpty_iff] at h; rw [h.2.2.2]; intro x hx; cases hx
 split at h
 ·simp only [Bool.and_eq_true, List.isEmpty_iff] at h; rw [h.2.2]; intro x hx; cases hx
 split at h
 ·simp only [Bool.and_eq_true, List.isEmpty_iff] at h; rw [h.2.2.1]; intro x hx; cases hx
 split at h
 ·simp only [Bool.and_eq_true, ylo, List.all_eq_true] at h; exact h.2.2.2
 ·cases h
theorem z9n {v : yz0} (h : z1l v = 0) : z8k v = true ∧ zb4 v ≤ 100 ∧ ze7 v ≤ 6 := by
 unfold z1l at h
 split at h
 ·cases h
 ·split at h
  ·exact ⟨‹_›, by omega, by omega⟩
  ·cases h
theorem zcl {v : yz0} (h : z8k v = true) : v.kind = 1 ∨ v.kind = 2 ∨ v.kind = 3 ∨ v.kind = 4 := by
 rw [z7i] at h
 by_cases h1 : v.kind = 1; · exact .inl h1
 by_cases h2 : v.kind = 2; · exact .inr (.inl h2)
 by_cases h3 : v.kind = 3; · exact .inr (.inr (.inl h3))
 by_cases h4 : v.kind = 4; · exact .inr (.inr (.inr h4))
 rw [if_neg h1, if_neg h2, if_neg h3, if_neg h4] at h; cases h
theorem yra {v : yz0} (h : z8k v = true) (hk : v.kind = 4) : v.num.num = 0 ∧ v.num.den = 0 ∧ v.truth = false ∧ v.str = [] := by
 rw [z7i, if_neg (by omega), if_neg (by omega), if_neg (by omega), if_pos hk] at h
 simp only [Bool.and_eq_true, nul, beq_iff_eq, Bool.not_eq_true', List.isEmpty_iff] at h
 exact ⟨h.1.1, h.1.2, h.2.1, h.2.2.1⟩
end Go.Proofs.YtfhpamcehnfhoaaGreatDoor


namespace Go.Proofs.YtfhpamcehnfhoaaGreatDoor
open Go Go.Ab
set_option linter.unusedVariables false
set_option linter.unusedSimpArgs false
theorem yla {s : List UInt8} (hs : s.length ≤ 8388608) : Ev (fun n => z8l n s) (z9w s) := by
 have l3t : ∀ q, Ev (fun n => z00 n true s q) false := fun q => by rw [zi2, Ev.kz1 (by rfl), Ev.zz1]
 have step : ∀ k (hk : k < s.length) (r : Bool), ((if k = 0 then isLet s[k] else z1j s[k]) = false → r = false) → ((if k = 0 then isLet s[k] else z1j s[k]) = true → Ev (fun n => z0f n s (k + 1)) r) → Ev (fun n => z0f n s k) r := fun k hk r hf ht => by
  have l3 : ∀ b, (if k = 0 then isLet s[k] else z1j s[k]) = !b → (b = false → (zat s k).2 = 1) → Ev (fun n => z00 n b s (k + (zat s k).2)) r := fun b hb h1 => by
   cases b
   ·rw [zi2, Ev.yz1 (by rfl), h1 rfl]; exact ht hb
   ·exact (l3t _).to (hf hb).symm
  rw [zhy, Ev.kz1 (by simpa using hk)]
  by_cases hlow : s[k].toNat < 128
  ·have hd := zyh hk hlow
   rw [hd] at l3
   rw [hd]
   have l2 : ∀ b, b = isLet s[k] → Ev (fun n => z35 n (s[k].toNat : Int) (k : Int) b s (k + 1)) r := fun b hb => by
    subst hb
    rw [zhz]
    cases hl : isLet s[k]
    ·rw [Ev.kz1 (by rfl)]
     by_cases h0 : k = 0
     ·rw [Ev.kz1 (by simpa using h0)]
      exact l3 true (by rw [if_pos h0, hl]; rfl) (by simp)
     ·rw [Ev.yz1 (by simpa using h0)]
      by_cases h45 : s[k].toNat = 45
      ·have : s[k] = 45 := UInt8.toNat_inj.1 (by simpa using h45)
       rw [Ev.yz1 (by simp; omega)]
       exact l3 false (by rw [if_neg h0, z1j, this]; rfl) (fun _ => rfl)
      ·have hne : (s[k] == 45) = false := by
        simp only [beq_eq_false_iff_ne]; intro h; rw [h] at h45; exact h45 rfl
       rw [Ev.kz1 (by simp; omega)]
       by_cases c1 : s[k].toNat < 48
       ·rw [Ev.kz1 (by simp; omega)]
        refine l3 true ?_ (by simp)
        rw [if_neg h0, z1j, hl, hne, z7u]; simp; omega
       ·rw [Ev.yz1 (by simp; omega)]
        refine l3 _ ?_ (fun _ => rfl)
        rw [if_neg h0, z1j, hl, hne, z7u]
        have e1 : decide (48 ≤ s[k].toNat) = true := by rw [decide_eq_true_eq]; omega
        have e3 : decide ((s[k].toNat : Int) > 57) = !decide (s[k].toNat ≤ 57) := by
         by_cases c2 : s[k].toNat ≤ 57
         ·rw [show decide (s[k].toNat ≤ 57) = true by rw [decide_eq_true_eq]; exact c2]
          simp only [Bool.not_true, decide_eq_false_iff_not]; omega
         ·rw [show decide (s[k].toNat ≤ 57) = false by rw [decide_eq_false_iff_not]; exact c2]
          simp only [Bool.not_false, decide_eq_true_eq]; omega
        rw [e1, e3]; simp
    ·rw [Ev.yz1 (by rfl)]
     refine l3 false ?_ (fun _ => rfl)
     split
     ·exact hl
     ·rw [z1j, hl]; rfl
   simp only
   by_cases c1 : 97 ≤ s[k].toNat
   ·rw [Ev.kz1 (by simp; omega)]
    exact l2 _ (by simp [isLet, c1]; omega)
   ·rw [Ev.yz1 (by simp; omega)]
    exact l2 _ (by simp [isLet]; omega)
  ·obtain ⟨h1, h2⟩ := yce hk (by omega)
   have nl : isLet s[k] = false := by simp [isLet]; omega
   have nm : z1j s[k] = false := by
    rw [z1j, nl, z7u]
    have : (s[k] == 45) = false := by simp only [beq_eq_false_iff_ne]; intro h; rw [h] at hlow; exact hlow (by decide)
    rw [this]; simp; omega
   have bad : (if k = 0 then isLet s[k] else z1j s[k]) = false := by split <;> assumption
   rw [Ev.kz1 (by simp; omega), show decide (((zat s k).1 : Int) ≤ 122) = false by simp; omega, zhz, Ev.kz1 (by rfl)]
   by_cases h0 : k = 0
   ·rw [Ev.kz1 (by simpa using h0)]; exact (l3t _).to (hf bad).symm
   ·rw [Ev.yz1 (by simpa using h0), Ev.kz1 (by simp; omega), Ev.yz1 (by simp; omega), show decide (((zat s k).1 : Int) > 57) = true by simp; omega]
    exact (l3t _).to (hf bad).symm
 have rest : ∀ k, k ≤ s.length → 1 ≤ k → Ev (fun n => z0f n s k) ((s.drop k).all z1j) :=
  down (Q := fun k => 1 ≤ k → Ev (fun n => z0f n s k) ((s.drop k).all z1j)) (fun _ => by
   rw [zhy, Ev.yz1 (by simp), Ev.zz1]; simp) fun k hk ih h1 => by
   rw [← List.getElem_cons_drop (h := hk), List.all_cons]
   refine step k hk _ (fun h => ?_) fun h => ?_
   ·rw [if_neg (by omega)] at h; rw [h]; rfl
   ·rw [if_neg (by omega)] at h; rw [h]; exact ih (by omega)
 rw [zv3]
 cases s with
 | nil => rw [Ev.kz1 (by rfl), zhq, Ev.kz1 (by rfl), Ev.zz1]; rfl
 | cons c t =>
   rw [Ev.yz1 (by simp; omega), zhq]
   by_cases h40 : (c :: t).length ≤ 40
   · rw [Ev.yz1 (by simp at h40 ⊢; omega)]
     refine step 0 (by simp) _ (fun h => ?_) fun h => ?_
     · rw [if_pos rfl] at h; simp only [List.getElem_cons_zero] at h; simp [z9w, h]
     · rw [if_pos rfl] at h; simp only [List.getElem_cons_zero] at h
       refine (rest 1 (by simp) (Nat.le_refl _)).to ?_
       simp [z9w, h]; intro _; simpa using h40
   · rw [Ev.kz1 (by simp at h40 ⊢; omega), Ev.zz1]
     simp [z9w]; intro _ _; simpa using h40
theorem yg5 {c : UInt8} : Ev (fun n => z63 n (c.toNat : Int)) (isLet c) := by
 rw [zqi]
 simp only [Ev.pif, Ev.zz1, isLet, decide_eq_true_eq]
 split
 ·have : 97 ≤ c.toNat := by omega
  simp [this]; omega
 ·have : ¬ 97 ≤ c.toNat := by omega
  simp [this]
theorem yh6 {c : UInt8} : Ev (fun n => z7m n (c.toNat : Int)) (z7u c) := by
 rw [zsb]
 simp only [Ev.pif, Ev.zz1, z7u, decide_eq_true_eq]
 split
 ·have : 48 ≤ c.toNat := by omega
  simp [this]; omega
 ·have : ¬ 48 ≤ c.toNat := by omega
  simp [this]
theorem yv8 {c : UInt8} : (((c.toNat : Nat) : Int) != 45) = !(c == 45) := by
 cases h : c == 45 with
 | true => have : c = 45 := by simpa using h
           subst this; rfl
 | false =>
   have : c.toNat ≠ 45 := fun hh => by
     have : c = 45 := UInt8.toNat_inj.1 (by simpa using hh)
     subst this; cases h
   simp; omega
theorem ym9 {s : List UInt8} (hs : s.length ≤ 8388608) : Ev (fun n => z8i n s) (z9w s) := by
 have bad : ∀ k : Int, Ev (fun n => z0e n s k true) false := fun k => by rw [zgu, Ev.kz1 (by rfl), Ev.zz1]
 have step : ∀ k (hk : k < s.length) (r : Bool), ((if k = 0 then isLet s[k] else z1j s[k]) = false → r = false) → ((if k = 0 then isLet s[k] else z1j s[k]) = true → Ev (fun n => z03 n ((k + 1 : Nat) : Int) s) r) → Ev (fun n => z03 n (k : Int) s) r := fun k hk r hf ht => by
  have l1 : ∀ b, (if k = 0 then isLet s[k] else z1j s[k]) = !b → Ev (fun n => z0e n s (k : Int) b) r := fun b hb => by
   cases b
   ·rw [zgu, Ev.yz1 (by rfl), wrk (by omega)]; exact ht hb
   ·exact (bad _).to (hf hb).symm
  rw [zia, Ev.kz1 (by simpa using hk), Ev.yz2 (yzb hk), Ev.zz0 yg5]
  cases hl : isLet s[k]
  ·rw [Ev.kz1 (by rfl)]
   by_cases h0 : k = 0
   ·rw [Ev.kz1 (by simpa using h0)]; exact l1 true (by rw [if_pos h0, hl]; rfl)
   ·rw [Ev.yz1 (by simpa using h0), Ev.yz2 (yzb hk), yv8]
    cases h45 : s[k] == 45
    ·rw [Ev.kz1 (by rfl), Ev.yz2 (yzb hk), Ev.zz0 yh6]
     exact l1 _ (by rw [if_neg h0, z1j, hl, h45]; simp)
    ·rw [Ev.yz1 (by rfl)]; exact l1 false (by rw [if_neg h0, z1j, hl, h45]; rfl)
  ·rw [Ev.yz1 (by rfl)]
   exact l1 false (by split; exact hl; rw [z1j, hl]; rfl)
 have fin : ∀ r : Bool, r = (decide (1 ≤ s.length) && decide (s.length ≤ 40)) → Ev (fun n => z03 n (s.length : Int) s) r := fun r hr => by
  rw [zia, Ev.yz1 (by simp), hr]
  by_cases h1 : 1 ≤ s.length
  ·rw [Ev.kz1 (by simp; omega), Ev.zz1]; simp [h1]; omega
  ·rw [Ev.yz1 (by simp; omega), Ev.zz1]; simp [h1]
 have rest : ∀ k, k ≤ s.length → 1 ≤ k → Ev (fun n => z03 n (k : Int) s) ((s.drop k).all z1j && decide (s.length ≤ 40)) :=
  down (Q := fun k => 1 ≤ k → Ev (fun n => z03 n (k : Int) s) ((s.drop k).all z1j && decide (s.length ≤ 40))) (fun h1 => by
   refine fin _ ?_; simp [h1]) fun k hk ih h1 => by
   rw [← List.getElem_cons_drop (h := hk), List.all_cons]
   refine step k hk _ (fun h => ?_) fun h => ?_
   ·rw [if_neg (by omega)] at h; rw [h]; rfl
   ·rw [if_neg (by omega)] at h; rw [h]; exact ih (by omega)
 rw [zvh]
 cases s with
 | nil => exact fin _ rfl
 | cons c t =>
   refine step 0 (by simp) _ (fun h => ?_) fun h => ?_
   · rw [if_pos rfl] at h; simp only [List.getElem_cons_zero] at h; simp [z9w, h]
   · rw [if_pos rfl] at h; simp only [List.getElem_cons_zero] at h
     refine (rest 1 (by simp) (Nat.le_refl _)).to ?_
     simp [z9w, h]
def zd0 (s : List UInt8) : Bool := z9w s && (!(s == [116, 114, 117, 101]) && !(s == [102, 97, 108, 115, 101]))
theorem yn1 {s : List UInt8} (hs : s.length ≤ 8388608) : Ev (fun n => z8g n s) (zd0 s) := by
 rw [zv8, Ev.zz0 (yla hs)]
 unfold zd0
 cases z9w s <;> cases h : (s == [116, 114, 117, 101]) <;> simp [Ev.pif, Ev.zz1]
theorem yiy {s : List UInt8} (hs : s.length ≤ 8388608) : Ev (fun n => z7b n s) (zd0 s) := by
 rw [zt8, Ev.zz0 (ym9 hs)]
 unfold zd0
 cases z9w s <;> cases h : (s == [116, 114, 117, 101]) <;> simp [Ev.pif, Ev.zz1]
end Go.Proofs.YtfhpamcehnfhoaaGreatDoor


namespace Go.Proofs.YtfhpamcehnfhoaaGreatDoor
open Go Go.Ab
set_option linter.unusedVariables false
set_option linter.unusedSimpArgs false
theorem zt6 {P : kz0 → Prop} (h : ∀ e : kz0, (∀ x, x ∈ e.args → P x) → P e) (e : kz0) : P e := h e fun x hx => zt6 h x
termination_by e
decreasing_by exact kz0.zxu hx
mutual
def z45 : kz0 → Nat
 | ⟨_, _, _, l⟩ => 1 + zzq l
def zzq : List kz0 → Nat
 | [] => 0
 | x :: l => z45 x + zzq l
end
mutual
def zd2 : kz0 → Nat
 | ⟨_, _, _, l⟩ => max 1 (zfp l)
def zfp : List kz0 → Nat
 | [] => 0
 | x :: l => max (1 + zd2 x) (zfp l)
end
theorem z9i (e : kz0) : z45 e = 1 + zzq e.args := by cases e; rw [z45]
theorem zxf (e : kz0) : zd2 e = max 1 (zfp e.args) := by cases e; rw [zd2]
theorem ypy {l : List kz0} {x : kz0} (h : x ∈ l) : x.size ≤ (l.map kz0.size).sum := by
 induction l with
 | nil => cases h
 | cons y l ih =>
   rcases List.mem_cons.1 h with rfl | h
   · simp
   · have := ih h; simp; omega
theorem z5y (e : kz0) : (e.args.map kz0.size).sum + e.name.length + e.value.size + 4 ≤ e.size := by rw [kz0.size_eq]; omega
theorem zcx {e x : kz0} (h : x ∈ e.args) : x.size ≤ e.size := by have := ypy h; have := z5y e; omega
theorem zao (l : List kz0) : l.length ≤ (l.map kz0.size).sum := by
 induction l with
 | nil => simp
 | cons x l ih => have := z5y x; simp; omega
theorem ztr : ∀ e : kz0, z45 e ≤ e.size := zt6 fun e ih => by
 have : ∀ l : List kz0, (∀ x, x ∈ l → x ∈ e.args) → zzq l ≤ (l.map kz0.size).sum := fun l => by
  induction l with
  | nil => intro _; simp [zzq]
  | cons x l ihl =>
    intro hl
    have := ih x (hl x List.mem_cons_self)
    have := ihl fun y hy => hl y (List.mem_cons_of_mem _ hy)
    simp [zzq]; omega
 have := this e.args fun _ h => h
 have := z5y e
 rw [z9i]; omega
theorem yk8 : ∀ e : kz0, zd2 e ≤ z45 e := zt6 fun e ih => by
 have : ∀ l : List kz0, (∀ x, x ∈ l → x ∈ e.args) → zfp l ≤ 1 + zzq l := fun l => by
  induction l with
  | nil => intro _; simp [zzq, zfp]
  | cons x l ihl =>
    intro hl
    have := ih x (hl x List.mem_cons_self)
    have := ihl fun y hy => hl y (List.mem_cons_of_mem _ hy)
    simp [zzq, zfp]; omega
 have := this e.args fun _ h => h
 rw [z9i, zxf]; omega
theorem y7h (l : List kz0) : zzq l ≤ (l.map kz0.size).sum := by
 induction l with
 | nil => simp [zzq]
 | cons x l ih => have := ztr x; simp [zzq]; omega
theorem yf8 : ∀ e : kz0, e.size ≤ 8388608 → Ev (fun n => z4r n e) ((z45 e : Int), (zd2 e : Int)) := zt6 fun e ih hs => by
 have hsl := z5y e
 have hlen := zao e.args
 have loop : ∀ k, k ≤ e.args.length → ∀ d p : Nat, p + zzq (e.args.drop k) ≤ 8388609 → d ≤ 8388609 → Ev (fun n => z1h n (k : Int) (d : Int) (p : Int) e.args (e.args.length : Int)) (((p + zzq (e.args.drop k) : Nat) : Int), ((max d (zfp (e.args.drop k)) : Nat) : Int)) :=
  down (fun d p hp hd => by
   rw [zep, Ev.yz1 (by simp), Ev.zz1]
   simp [zzq, zfp]) fun k hk ihk d p hp hd => by
   have hx := List.getElem_mem hk
   have hsx := zcx hx
   rw [← List.getElem_cons_drop (h := hk)] at hp ⊢
   simp only [zzq, zfp] at hp ⊢
   have hpl := ztr e.args[k]
   have hdl := yk8 e.args[k]
   rw [zep, Ev.kz1 (by simpa using hk), Ev.yz2 (yzb hk), kz0.kz2, Ev.zz0 (ih _ hx (by omega)), wI (x := _ + 1) (by omega), wI (x := (zd2 _ : Int) + 1) (by omega), wI (x := (p : Int) + _) (by omega)]
   have e1 : (k : Int) + 1 = ((k + 1 : Nat) : Int) := by omega
   have e2 : (zd2 e.args[k] : Int) + 1 = ((1 + zd2 e.args[k] : Nat) : Int) := by omega
   have e3 : (p : Int) + (z45 e.args[k] : Int) = ((p + z45 e.args[k] : Nat) : Int) := by omega
   rw [e1, e2, e3, y40]
   refine (ihk (max d (1 + zd2 e.args[k])) (p + z45 e.args[k]) (by omega) (by omega)).to ?_
   congr 2 <;> omega
 rw [zqs]
 have hv := y7h e.args
 have := loop 0 (Nat.zero_le _) 1 1 (by simp; omega) (by omega)
 refine this.to ?_
 rw [z9i, zxf, List.drop_zero]
theorem y1n : ∀ e : kz0, e.size ≤ 8388608 → Ev (fun n => z4h n e) (z45 e : Int) := zt6 fun e ih hs => by
 have hsl := z5y e
 have hlen := zao e.args
 rw [zrw, kz0.kz2, z9i]
 have loop : ∀ k, k ≤ e.args.length → ∀ p : Nat, p + zzq (e.args.drop k) ≤ 8388609 → Ev (fun n => z2b n (k : Int) (p : Int) e) ((p + zzq (e.args.drop k) : Nat) : Int) :=
  down (fun p hp => by
   rw [zgn, Ev.yz1 (by simp), Ev.zz1]
   simp [zzq]) fun k hk ihk p hp => by
   have hx := List.getElem_mem hk
   have hsx := zcx hx
   rw [← List.getElem_cons_drop (h := hk)] at hp ⊢
   simp only [zzq] at hp ⊢
   have hpl := ztr e.args[k]
   rw [zgn, Ev.kz1 (by simpa using hk), Ev.yz2 (yzb hk), kz0.kz2, Ev.zz0 (ih _ hx (by omega)), wI (x := _ + 1) (by omega), wI (x := (p : Int) + _) (by omega)]
   have e1 : (k : Int) + 1 = ((k + 1 : Nat) : Int) := by omega
   have e3 : (p : Int) + (z45 e.args[k] : Int) = ((p + z45 e.args[k] : Nat) : Int) := by omega
   rw [e1, e3, kz0.kz2]
   refine (ihk (p + z45 e.args[k]) (by omega)).to ?_
   congr 1; omega
 have hv := y7h e.args
 exact loop 0 (Nat.zero_le _) 1 (by simp; omega)
theorem ymt : ∀ e : kz0, e.size ≤ 8388608 → Ev (fun n => z6q n e) (zd2 e : Int) := zt6 fun e ih hs => by
 have hsl := z5y e
 have hlen := zao e.args
 rw [zvo, kz0.kz2, zxf]
 have loop : ∀ k, k ≤ e.args.length → ∀ p : Nat, p ≤ 8388609 → Ev (fun n => z3g n (k : Int) (p : Int) e) ((max p (zfp (e.args.drop k)) : Nat) : Int) :=
  down (fun p hp => by
   rw [zhk, Ev.yz1 (by simp), Ev.zz1]
   simp [zfp]) fun k hk ihk p hp => by
   have hx := List.getElem_mem hk
   have hsx := zcx hx
   rw [← List.getElem_cons_drop (h := hk)]
   simp only [zfp]
   have hpl := ztr e.args[k]
   have hdl := yk8 e.args[k]
   rw [zhk, Ev.kz1 (by simpa using hk), Ev.yz2 (yzb hk), kz0.kz2, Ev.zz0 (ih _ hx (by omega)), wI (x := _ + 1) (by omega), wI (x := 1 + _) (by omega)]
   have e1 : (k : Int) + 1 = ((k + 1 : Nat) : Int) := by omega
   have e3 : 1 + (zd2 e.args[k] : Int) = ((1 + zd2 e.args[k] : Nat) : Int) := by omega
   rw [e1, e3, kz0.kz2, y40]
   refine (ihk (max p (1 + zd2 e.args[k])) (by omega)).to ?_
   congr 1; omega
 exact loop 0 (Nat.zero_le _) 1 (by omega)
def z27 (op : Int) : Int :=
 if op = 1 ∨ op = 2 then 0 else if (3 ≤ op ∧ op ≤ 10) ∨ op = 13 ∨ op = 14 ∨ op = 17 then 2 else if op = 11 ∨ op = 15 ∨ op = 16 then 1 else if op = 12 then 3 else if op = 18 then -1 else -2
theorem ops (op : Int) : op = 1 ∨ op = 2 ∨ op = 3 ∨ op = 4 ∨ op = 5 ∨ op = 6 ∨ op = 7 ∨ op = 8 ∨ op = 9 ∨ op = 10 ∨ op = 11 ∨ op = 12 ∨ op = 13 ∨ op = 14 ∨ op = 15 ∨ op = 16 ∨ op = 17 ∨ op = 18 ∨ (op < 1 ∨ 18 < op) := by omega
theorem ymz {op : Int} : Ev (fun n => z8m n op) (z27 op) := by
 rcases ops op with rfl | rfl | rfl | rfl | rfl | rfl | rfl | rfl | rfl | rfl | rfl | rfl | rfl | rfl | rfl | rfl | rfl | rfl | h
 case inr.inr.inr.inr.inr.inr.inr.inr.inr.inr.inr.inr.inr.inr.inr.inr.inr.inr =>
  have e : z27 op = -2 := by unfold z27; rw [if_neg (by omega), if_neg (by omega), if_neg (by omega), if_neg (by omega), if_neg (by omega)]
  rw [e]
  have n (j : Int) (h1 : 1 ≤ j) (h2 : j ≤ 18) : (op == j) = false := by simp; omega
  simp [zo3, zhl, zhn, zh6, zgt, zhu, zi4, Ev.pif, Ev.zz1, n]
 all_goals simp [zo3, zhl, zhn, zh6, zgt, zhu, zi4, Ev.pif, Ev.zz1, z27]
theorem ykx {op : Int} : Ev (fun n => z8e n op) (z27 op) := by
 rcases ops op with rfl | rfl | rfl | rfl | rfl | rfl | rfl | rfl | rfl | rfl | rfl | rfl | rfl | rfl | rfl | rfl | rfl | rfl | h
 case inr.inr.inr.inr.inr.inr.inr.inr.inr.inr.inr.inr.inr.inr.inr.inr.inr.inr =>
  have e : z27 op = -2 := by unfold z27; rw [if_neg (by omega), if_neg (by omega), if_neg (by omega), if_neg (by omega), if_neg (by omega)]
  rw [e]
  have n (j : Int) (h1 : 1 ≤ j) (h2 : j ≤ 18) : (op == j) = false := by simp; omega
  rw [znr, Ev.yz1 (n 1 (by omega) (by omega)), n 2 (by omega) (by omega), zhs, Ev.yz1 (by rfl)]
  have l1 : Ev (fun m => zzr m op false) (-2) := by simp [zhp, zgx, Ev.pif, Ev.zz1, n]
  by_cases h3 : op ≥ 3
  ·rw [Ev.kz1 (by simpa using h3), Ev.yz1 (by simp; omega), Ev.yz1 (n 13 (by omega) (by omega)), Ev.yz1 (n 14 (by omega) (by omega)), n 17 (by omega) (by omega)]; exact l1
  ·rw [Ev.yz1 (by simpa using h3), Ev.yz1 (n 13 (by omega) (by omega)), Ev.yz1 (n 14 (by omega) (by omega)), n 17 (by omega) (by omega)]; exact l1
 all_goals simp [znr, zhs, zhp, zgx, Ev.pif, Ev.zz1, z27]
noncomputable def zm9 (op : Int) (v : yz0) (nm : List UInt8) : Bool :=
 if op = 1 then z1l v == 0 && (v.kind != 4 && nm.isEmpty) else if op = 2 then zd0 nm && eqB v v0 else nm.isEmpty && eqB v v0
def zcy (op : Int) (k : Nat) : Bool := z27 op != -2 && (decide (z27 op < 0) || (k : Int) == z27 op)
mutual
noncomputable def z2p : kz0 → Bool
 | ⟨op, v, nm, l⟩ => zcy op l.length && (zm9 op v nm && zaq l)
noncomputable def zaq : List kz0 → Bool
 | [] => true
 | x :: l => z2p x && zaq l
end
theorem zii (e : kz0) : z2p e = (zcy e.op e.args.length && (zm9 e.op e.value e.name && zaq e.args)) := by cases e; rw [z2p]
theorem y64 (l : List kz0) : zaq l = l.all z2p := by
 induction l with
 | nil => rfl
 | cons x l ih => simp [zaq, ih]
noncomputable def z97 (e : kz0) : Int := if 100 < z45 e ∨ 12 < zd2 e then 4 else if z2p e then 0 else 8
theorem y03 {e : kz0} (h : e.wf) : e.value.wf := by rw [kz0.z99] at h; exact h.2.1
theorem y79 {e : kz0} (h : e.wf) : ∀ x ∈ e.args, x.wf := by rw [kz0.z99] at h; exact h.2.2.2
theorem y1v (s : List UInt8) : (!(s == [])) = !s.isEmpty := by cases s <;> rfl
theorem yqi : ∀ e : kz0, e.wf → e.size ≤ 8388608 → Ev (fun n => z8a n e) (z2p e) := zt6 fun e ih hw hs => by
 have hsl := z5y e
 have hlen := zao e.args
 have idx : ∀ k, k ≤ e.args.length → ∃ i : Int, Ev (fun n => yz8 n (k : Int) e.args (e.args.length : Int)) i ∧ decide (i ≥ 0) = !zaq (e.args.drop k) :=
  down ⟨-1, by rw [z06, Ev.yz1 (by simp), Ev.zz1], by simp [zaq]⟩ fun k hk ihk => by
   have hx := List.getElem_mem hk
   have hsx := zcx hx
   have hf1 : Ev (fun n => z7c n e.args[k]) (!z2p e.args[k]) := by
    rw [zsg, kz0.kz2, Ev.zz0 (ih _ hx (y79 hw _ hx) (by omega)), Ev.zz1]
   obtain ⟨i, h1, h2⟩ := ihk
   rw [← List.getElem_cons_drop (h := hk), zaq]
   cases hf : z2p e.args[k]
   ·refine ⟨k, ?_, by simp⟩
    rw [z06, Ev.kz1 (by simpa using hk), Ev.yz2 (yzb hk), kz0.kz2, Ev.zz0 hf1, Ev.kz1 (by rw [hf]; rfl), Ev.zz1]
   ·refine ⟨i, ?_, by rw [h2]; rfl⟩
    rw [z06, Ev.kz1 (by simpa using hk), Ev.yz2 (yzb hk), kz0.kz2, Ev.zz0 hf1, Ev.yz1 (by rw [hf]; rfl), wrk (by omega)]
    exact h1
 have l4 : Ev (fun n => z2x n e) (zaq e.args) := by
  obtain ⟨i, h1, h2⟩ := idx 0 (Nat.zero_le _)
  have hi : Ev (fun n => kzb n e.args) i := by rw [z7q]; exact h1
  have hc : Ev (fun n => zzb n e.args) (!zaq e.args) := by
   rw [z6a, Ev.zz0 hi, Ev.zz1, h2]; rfl
  rw [zqu, Ev.zz0 hc, Ev.zz1, Bool.not_not]
 have l1 : ∀ b, Ev (fun n => z2u n b e) (!b && zaq e.args) := fun b => by
  rw [zqt]; cases b
  ·rw [Ev.yz1 (by rfl), kz0.kz2]; exact l4
  ·rw [Ev.kz1 (by rfl), Ev.zz1]; rfl
 have l2 : ∀ b, Ev (fun n => z4w n b e) (!b && zaq e.args) := fun b => by
  rw [zqk]; cases b
  ·rw [Ev.yz1 (by rfl), kz0.kz2]; exact l4
  ·rw [Ev.kz1 (by rfl), Ev.zz1]; rfl
 have l3 : ∀ b, Ev (fun n => z4x n b e) (!b && zaq e.args) := fun b => by
  rw [zqo]; cases b
  ·rw [Ev.yz1 (by rfl), kz0.kz2]; exact l4
  ·rw [Ev.kz1 (by rfl), Ev.zz1]; rfl
 have l0 : ∀ b, Ev (fun n => z2v n b e) (!b && (zm9 e.op e.value e.name && zaq e.args)) := fun b => by
  rw [zqj]; cases b
  case true => rw [Ev.kz1 (by rfl), Ev.zz1]; rfl
  rw [Ev.yz1 (by rfl)]
  have hsame : Ev (fun n => z1v n e.value (yz0.mk 0 (zz2.mk 0 0) false [] [])) (eqB e.value v0) := y52 e.value v0 (by omega)
  by_cases h1 : e.op = 1
  ·rw [Ev.kz1 (by simpa using h1), yz0.kz2, Ev.zz0 (zce (y03 hw) (by omega)), kz0.kz2, y1v]
   simp only [zm9, if_pos h1]
   by_cases hc : z1l e.value = 0
   ·rw [Ev.yz1 (by simpa using hc)]
    by_cases hk : e.value.kind = 4
    ·rw [Ev.kz1 (by simpa using hk)]
     refine (l1 true).to ?_; simp [hc, hk]
    ·rw [Ev.yz1 (by simpa using hk)]
     have hk' : (e.value.kind != 4) = true := by simpa using hk
     refine (l1 _).to ?_; simp [hc, hk']
   ·rw [Ev.kz1 (by simpa using hc)]
    refine (l1 true).to ?_; simp [hc]
  rw [Ev.yz1 (by simpa using h1)]
  by_cases h2 : e.op = 2
  ·rw [Ev.kz1 (by simpa using h2), Ev.zz0 (yn1 (by omega)), yz0.kz2, kz0.kz2]
   simp only [zm9, if_neg h1, if_pos h2]
   cases hn : zd0 e.name
   ·rw [Ev.kz1 (by rfl)]
    exact (l2 true).to (by simp)
   ·rw [Ev.yz1 (by rfl), Ev.zz0 hsame]
    exact (l2 _).to (by simp)
  ·rw [Ev.yz1 (by simpa using h2), y1v, yz0.kz2, kz0.kz2]
   simp only [zm9, if_neg h1, if_neg h2]
   cases hn : e.name.isEmpty
   ·rw [Ev.kz1 (by rfl)]
    exact (l3 true).to (by simp)
   ·rw [Ev.yz1 (by rfl), Ev.zz0 hsame]
    exact (l3 _).to (by simp)
 rw [zym, Ev.zz0 ymz, zii, kz0.kz2]
 unfold zcy
 by_cases c1 : z27 e.op = -2
 ·rw [Ev.kz1 (by simpa using c1)]
  exact (l0 true).to (by simp [c1])
 rw [Ev.yz1 (by simpa using c1)]
 by_cases c2 : z27 e.op ≥ 0
 ·rw [Ev.kz1 (by simpa using c2)]
  refine (l0 _).to ?_
  rw [show decide (z27 e.op < 0) = false by simpa using c2, show (z27 e.op != -2) = true by simpa using c1]
  simp only [bne, Bool.not_not, Bool.true_and, Bool.false_or]
 ·rw [Ev.yz1 (by simpa using c2)]
  refine (l0 _).to ?_
  rw [show decide (z27 e.op < 0) = true by simp; omega, show (z27 e.op != -2) = true by simpa using c1]
  simp
theorem yma : ∀ e : kz0, e.size ≤ 8388608 → Ev (fun n => z6p n e) (z2p e) := zt6 fun e ih hs => by
 have hsl := z5y e
 have hlen := zao e.args
 have loop : ∀ k, k ≤ e.args.length → Ev (fun n => z3j n (k : Int) e) (zaq (e.args.drop k)) :=
  down (by rw [zhm, Ev.yz1 (by simp), Ev.zz1]; simp [zaq]) fun k hk ihk => by
   have hx := List.getElem_mem hk
   have hsx := zcx hx
   rw [← List.getElem_cons_drop (h := hk), zaq]
   rw [zhm, Ev.kz1 (by simpa using hk), Ev.yz2 (yzb hk), kz0.kz2, Ev.zz0 (ih _ hx (by omega))]
   cases hf : z2p e.args[k]
   ·rw [Ev.kz1 (by rfl), Ev.zz1]; rfl
   ·rw [Ev.yz1 (by rfl), wrk (by omega), kz0.kz2, Bool.true_and]; exact ihk
 have l2 : ∀ b, Ev (fun n => z0g n b e) (!b && zaq e.args) := fun b => by
  rw [zoc]; cases b
  ·rw [Ev.yz1 (by rfl), kz0.kz2]; exact loop 0 (Nat.zero_le _)
  ·rw [Ev.kz1 (by rfl), Ev.zz1]; rfl
 have hgn : decide ((e.name.length : Int) > 0) = !e.name.isEmpty := by cases e.name <;> simp
 have l1 : ∀ b, Ev (fun n => z01 n b e) (!b && ((if e.op = 2 then zd0 e.name else e.name.isEmpty) && zaq e.args)) := fun b => by
  rw [zp6]; cases b
  case true => rw [Ev.kz1 (by rfl), Ev.zz1]; rfl
  rw [Ev.yz1 (by rfl), kz0.kz2, hgn]
  by_cases h2 : e.op = 2
  ·rw [Ev.kz1 (by simpa using h2), if_pos h2, Ev.zz0 (yiy (by omega))]
   cases hn : zd0 e.name
   ·rw [Ev.kz1 (by rfl)]; exact (l2 true).to (by simp)
   ·rw [Ev.yz1 (by rfl), Ev.yz1 (by simpa using h2)]; exact (l2 false).to (by simp)
  ·rw [Ev.yz1 (by simpa using h2), Ev.kz1 (by simpa using h2), if_neg h2]; exact (l2 _).to (by simp)
 have l0 : ∀ b, Ev (fun n => z1z n b e) (!b && (zm9 e.op e.value e.name && zaq e.args)) := fun b => by
  rw [zof]; cases b
  case true => rw [Ev.kz1 (by rfl), Ev.zz1]; rfl
  rw [Ev.yz1 (by rfl), yz0.kz2, kz0.kz2]
  have hsame : Ev (fun n => z19 n e.value (yz0.mk 0 (zz2.mk 0 0) false [] [])) (eqB e.value v0) := y5x e.value v0 (by omega)
  by_cases h1 : e.op = 1
  ·rw [Ev.kz1 (by simpa using h1), Ev.zz0 (yit (by omega))]
   simp only [zm9, if_pos h1]
   by_cases hc : z1l e.value = 0
   ·rw [Ev.yz1 (by simpa using hc)]
    by_cases hk : e.value.kind = 4
    ·rw [Ev.kz1 (by simpa using hk)]
     refine (l1 true).to ?_; simp [hc, hk]
    ·rw [Ev.yz1 (by simpa using hk), Ev.yz1 (by simpa using h1)]
     have hk' : (e.value.kind != 4) = true := by simpa using hk
     refine (l1 _).to ?_; simp [hc, hk', h1]
   ·rw [Ev.kz1 (by simpa using hc)]
    refine (l1 true).to ?_; simp [hc]
  ·rw [Ev.yz1 (by simpa using h1), Ev.kz1 (by simpa using h1), Ev.zz0 hsame]
   refine (l1 _).to ?_
   simp only [zm9, if_neg h1]
   split
   ·cases eqB e.value v0 <;> cases zd0 e.name <;> simp
   ·cases eqB e.value v0 <;> cases e.name.isEmpty <;> simp
 rw [zve, Ev.zz0 ykx, zii, kz0.kz2]
 unfold zcy
 by_cases c1 : z27 e.op = -2
 ·rw [Ev.kz1 (by simpa using c1)]
  exact (l0 true).to (by simp [c1])
 rw [Ev.yz1 (by simpa using c1)]
 by_cases c2 : z27 e.op ≥ 0
 ·rw [Ev.kz1 (by simpa using c2)]
  refine (l0 _).to ?_
  rw [show decide (z27 e.op < 0) = false by simpa using c2, show (z27 e.op != -2) = true by simpa using c1]
  simp only [bne, Bool.not_not, Bool.true_and, Bool.false_or]
 ·rw [Ev.yz1 (by simpa using c2)]
  refine (l0 _).to ?_
  rw [show decide (z27 e.op < 0) = true by simp; omega, show (z27 e.op != -2) = true by simpa using c1]
  simp
theorem zps {e : kz0} (hw : e.wf) (hs : e.size ≤ 8388608) : Ev (fun n => z2y n e) (z97 e) := by
 have l0 : ∀ b, Ev (fun n => z3d n b e) (if b then 4 else if z2p e then 0 else 8) := fun b => by
  rw [zoo]
  cases b
  ·rw [Ev.yz1 (by rfl), kz0.kz2, Ev.zz0 (yqi e hw hs)]
   cases z2p e
   ·rw [Ev.kz1 (by rfl), Ev.zz1]; rfl
   ·rw [Ev.yz1 (by rfl), Ev.zz1]; rfl
  ·rw [Ev.kz1 (by rfl), Ev.zz1]; rfl
 rw [zv9, kz0.kz2, Ev.zz0 (yf8 e hs)]
 unfold z97
 simp only [Ev.pif]
 by_cases h1 : 100 < z45 e
 ·rw [if_pos (by simp; omega), if_pos (.inl h1)]; exact l0 true
 ·rw [if_neg (by simp; omega)]
  by_cases h2 : 12 < zd2 e
  ·rw [if_pos (.inr h2), show decide ((zd2 e : Int) > 12) = true by simp; omega]; exact l0 true
  ·rw [if_neg (by omega), show decide ((zd2 e : Int) > 12) = false by simp; omega]; exact l0 false
theorem zj1 {e : kz0} (hs : e.size ≤ 8388608) : Ev (fun n => z1p n e) (z97 e) := by
 have l0 : ∀ b, Ev (fun n => z2i n b e) (if b then 4 else if z2p e then 0 else 8) := fun b => by
  rw [zn9]
  cases b
  ·rw [Ev.yz1 (by rfl), kz0.kz2, Ev.zz0 (yma e hs)]
   cases z2p e
   ·rw [Ev.kz1 (by rfl), Ev.zz1]; rfl
   ·rw [Ev.yz1 (by rfl), Ev.zz1]; rfl
  ·rw [Ev.kz1 (by rfl), Ev.zz1]; rfl
 rw [zsh, kz0.kz2, Ev.zz0 (y1n e hs)]
 unfold z97
 by_cases h1 : 100 < z45 e
 ·rw [Ev.kz1 (by simp; omega), if_pos (.inl h1)]; exact l0 true
 ·rw [Ev.yz1 (by simp; omega), Ev.zz0 (ymt e hs)]
  by_cases h2 : 12 < zd2 e
  ·rw [if_pos (.inr h2), show decide ((zd2 e : Int) > 12) = true by simp; omega]; exact l0 true
  ·rw [if_neg (by omega), show decide ((zd2 e : Int) > 12) = false by simp; omega]; exact l0 false
theorem zir {e : kz0} (h : z97 e = 0) : z2p e = true ∧ z45 e ≤ 100 ∧ zd2 e ≤ 12 := by
 unfold z97 at h
 split at h
 ·cases h
 ·split at h
  ·exact ⟨‹_›, by omega, by omega⟩
  ·cases h
theorem yj1 : ∀ e : kz0, e.size ≤ 8388608 → ∀ d : Int, ∃ b, Ev (fun n => z61 n e d) b := zt6 fun e ih hs d => by
 have hsl := z5y e
 have hlen := zao e.args
 have loop : ∀ k, k ≤ e.args.length → ∀ d : Int, ∃ b, Ev (fun n => z2l n (k : Int) d e) b :=
  down (fun d => ⟨false, by rw [zg3, Ev.yz1 (by simp), Ev.zz1]⟩) fun k hk ihk d => by
   have hx := List.getElem_mem hk
   have hsx := zcx hx
   obtain ⟨b, hb⟩ := ih _ hx (by omega) (IntKind.i64.wrap (d - 1))
   obtain ⟨c, hc⟩ := ihk d
   refine ⟨if b then true else c, ?_⟩
   rw [zg3, Ev.kz1 (by simpa using hk), Ev.yz2 (yzb hk), kz0.kz2, Ev.zz0 hb, kz0.kz2, wrk (by omega)]
   cases b
   ·rw [Ev.yz1 (by rfl)]; exact hc
   ·rw [Ev.kz1 (by rfl), Ev.zz1]; rfl
 have l0 : ∀ d b, ∃ c, Ev (fun n => z0j n d b e) c := fun d b => by
  cases b
  ·obtain ⟨c, hc⟩ := loop 0 (Nat.zero_le _) d
   exact ⟨c, by rw [zgk, Ev.yz1 (by rfl), kz0.kz2]; exact hc⟩
  ·exact ⟨true, by rw [zgk, Ev.kz1 (by rfl), Ev.zz1]⟩
 obtain ⟨g, hg⟩ := yk3 (v := e.value) (by omega)
 simp only [zt7, kz0.kz2, yz0.kz2, Ev.pif, Ev.zz0 hg]
 split
 ·exact l0 _ _
 split
 ·exact l0 _ _
 split
 ·exact l0 _ _
 ·exact l0 _ _
theorem y2h {e : kz0} (hs : e.size ≤ 8388608) : ∃ b, Ev (fun n => z5t n e) b := by
 obtain ⟨b, hb⟩ := yj1 e hs 16
 cases b
 ·exact ⟨_, by rw [zky, kz0.kz2, Ev.zz0 hb, Ev.yz1 (by rfl), Ev.zz0 (y1n e hs)]; exact Ev.zz1.2 rfl⟩
 ·exact ⟨true, by rw [zky, kz0.kz2, Ev.zz0 hb, Ev.kz1 (by rfl), Ev.zz1]⟩
end Go.Proofs.YtfhpamcehnfhoaaGreatDoor


namespace Go.Proofs.YtfhpamcehnfhoaaGreatDoor
open Go Go.Ab
set_option linter.unusedVariables false
set_option linter.unusedSimpArgs false
theorem za0 (a b : List UInt8) : yza (a ++ b) = yza a ++ yza b := by simp [yza]
theorem z95 (a : List UInt8) : (yza a).length = a.length := by simp [yza]
theorem zfc : ∀ s : List UInt8, zr2 (yza s) = some s
 | [] => rfl
 | c :: s => by
   have h : Nat.ble c.toNat 255 = true := Nat.ble_eq_true_of_le (by have := c.toNat_lt; omega)
   show (match Int.ofNat c.toNat, zr2 (yza s) with
     | .ofNat m, some s => match Nat.ble m 255 with
       | true => some (m.toUInt8 :: s)
       | false => none
     | _, _ => none) = _
   rw [zfc s]
   simp only [h]
   simp [Nat.toUInt8]
theorem y6l (s : List Int) : Ev (fun n => kzl n s) s := ⟨0, fun _ _ => rfl⟩
theorem ws {s t : List UInt8} (h : s.length + t.length ≤ 268435456) : Ev (fun n => kz4 n t (yza s)) ((t.length : Int), yza (s ++ t)) := by
 rw [z6f, Ev.zz0 (y6l _), Ev.yz2 (zpd (by rw [z95, z95]; exact h)), Ev.zz1, za0]
theorem wb {s : List UInt8} {c : UInt8} {k : Int} (hk : k = (c.toNat : Int)) (h : s.length + 1 ≤ 268435456) : Ev (fun n => zz8 n k (yza s)) (yza (s ++ [c])) := by
 subst hk
 rw [z82, Ev.zz0 (y6l _), Ev.yz2 (zpd (by rw [z95]; exact h)), Ev.zz1, za0]
 rfl
theorem w8 {k : Int} (h : 0 ≤ k ∧ k ≤ 255) : IntKind.u8.wrap k = k := by
 unfold IntKind.wrap
 simp only [IntKind.bits, IntKind.signed, Bool.false_and, Bool.false_eq_true, if_false]
 omega
theorem w32 {k : Int} (h : 0 ≤ k ∧ k ≤ 255) : IntKind.u32.wrap k = k := by
 unfold IntKind.wrap
 simp only [IntKind.bits, IntKind.signed, Bool.false_and, Bool.false_eq_true, if_false]
 omega
theorem wr {s : List UInt8} {c : UInt8} {k : Int} (hk : k = (c.toNat : Int)) (hc : c.toNat < 128) (h : s.length + 1 ≤ 268435456) : ∃ q, Ev (fun n => yzg n k (yza s)) (q, yza (s ++ [c])) := by
 subst hk
 have ha : Ev (fun n => kzk n (c.toNat : Int) (yza s)) (yza (s ++ [c])) := by
  rw [z92, w32 (by omega), Ev.kz1 (by simp; omega), w8 (by omega), Ev.yz2 (zpd (by rw [z95]; exact h)), Ev.zz1, za0]
  rfl
 refine ⟨IntKind.i64.wrap (((yza (s ++ [c])).length : Int) - ((yza s).length : Int)), ?_⟩
 rw [z7v, Ev.zz0 (y6l _), Ev.zz0 ha, Ev.zz1]
theorem ysi {s : List UInt8} : Ev (fun n => zzo n (yza s)) ((s.length : Int), yza s) := by rw [zbe, Ev.zz1, z95]
theorem yp1 {s : List UInt8} : Ev (fun n => zzu n (yza s)) s := ⟨0, fun _ _ => zfc s⟩
theorem zku {k : Nat} (h : k < 10) : (UInt8.ofNat (48 + k)).toNat = 48 + k := by
 rw [UInt8.toNat_ofNat']; omega
theorem zkr {u : Nat} (h : u < 10) : Lib.decDigits u = [UInt8.ofNat (48 + u)] := by rw [Lib.decDigits, dif_pos h]
theorem zx5 {u : Nat} (h : ¬ u < 10) : Lib.decDigits u = Lib.decDigits (u / 10) ++ [UInt8.ofNat (48 + u % 10)] := by rw [Lib.decDigits, dif_neg h]
theorem zm2 {x : Int} (h : -9223372036854775807 ≤ x ∧ x ≤ 9223372036854775807) : Ev (fun n => kzj n x 10) (Lib.itoa x) := ⟨0, fun _ _ => by
 unfold kzj; rw [if_pos ⟨rfl, by omega, h.2⟩]⟩
theorem zcw {x : Int} (h : -9223372036854775807 ≤ x ∧ x ≤ 9223372036854775807) : (Lib.itoa x).length ≤ 21 := Lib.itoa_length_le x (by omega) h.2
def z1n (r : zz2) : List UInt8 := if r.den = 1 then Lib.itoa r.num else Lib.itoa r.num ++ 47 :: Lib.itoa r.den
theorem zkq {r : zz2} (h : rok r = true) : (z1n r).length ≤ 43 := by
 obtain ⟨h1, h2, h3⟩ := zyj h
 unfold z1n
 have a := zcw (x := r.num) (by omega)
 have b := zcw (x := r.den) (by omega)
 split
 ·omega
 ·simp; omega
theorem zgv {r : zz2} (h : rok r = true) : Ev (fun n => z4k n r) (z1n r, 0) := by
 obtain ⟨h1, h2, h3⟩ := zyj h
 have a := zcw (x := r.num) (by omega)
 have b := zcw (x := r.den) (by omega)
 have hc := zfb (r := r) (by unfold I64; omega)
 rw [if_pos h] at hc
 rw [zno, Ev.zz0 hc, Ev.yz1 (by rfl), Ev.zz0 (zm2 (by omega))]
 unfold z1n
 by_cases hd : r.den = 1
 ·rw [Ev.yz1 (by simpa using hd), zau, Ev.zz1, if_pos hd]
 ·rw [Ev.kz1 (by simpa using hd), Ev.zz0 (zm2 (by omega)), Ev.yz2 (z3o (by simp; omega)), Ev.yz2 (z3o (by simp; omega)), zau, Ev.zz1, if_neg hd]
  rfl
end Go.Proofs.YtfhpamcehnfhoaaGreatDoor


namespace Go.Proofs.YtfhpamcehnfhoaaGreatDoor
open Go Go.Ab
set_option linter.unusedVariables false
set_option linter.unusedSimpArgs false
theorem z8z : yza [] = [] := rfl
theorem zl0 (c d : UInt8) : (((c.toNat : Nat) : Int) == ((d.toNat : Nat) : Int)) = (c == d) := by
 rw [Bool.eq_iff_iff, beq_iff_eq, beq_iff_eq]
 exact ⟨fun h => UInt8.toNat_inj.1 (by omega), fun h => by rw [h]⟩
theorem b34 (c : UInt8) : (((c.toNat : Nat) : Int) == 34) = (c == 34) := zl0 c 34
theorem b92 (c : UInt8) : (((c.toNat : Nat) : Int) == 92) = (c == 92) := zl0 c 92
theorem b48 (c : UInt8) : (((c.toNat : Nat) : Int) == 48) = (c == 48) := zl0 c 48
def esc : List UInt8 → List UInt8
 | [] => []
 | c :: s => if c = 34 ∨ c = 92 then 92 :: c :: esc s else c :: esc s
def z9r (v : yz0) : List UInt8 := if v.kind = 1 then z1n v.num else if v.kind = 2 then (if v.truth then [116, 114, 117, 101] else [102, 97, 108, 115, 101]) else 34 :: (esc v.str ++ [34])
theorem zyf : ∀ s : List UInt8, (esc s).length ≤ 2 * s.length
 | [] => Nat.le_refl _
 | c :: s => by have := zyf s; unfold esc; split <;> simp <;> omega
theorem drop_cons {s : List UInt8} {k : Nat} (h : k < s.length) : s.drop k = s[k] :: s.drop (k + 1) := (List.getElem_cons_drop (h := h)).symm
theorem zqf {s : List UInt8} (hs : s.length ≤ 60) (ha : s.all zj6 = true) : ∀ k, k ≤ s.length → ∀ acc : List UInt8, acc.length ≤ 1000 - 2 * (s.length - k) → Ev (fun n => z1c n (yza acc) s k) (yza (acc ++ (esc (s.drop k) ++ [34]))) :=
 down (fun acc hl => by
  rw [z9m, Ev.yz1 (by simp), Ev.zz0 (wb (k := 34) (c := 34) rfl (by omega)), Ev.zz1]
  simp [esc]) fun k hk ih acc hl => by
  have hc := List.all_eq_true.1 ha _ (List.getElem_mem hk)
  have hlow : s[k].toNat < 128 := by
   unfold zj6 at hc; simp at hc; omega
  rw [z9m, Ev.kz1 (by simpa using hk), zyh hk hlow]
  have l2 : ∀ acc' : List UInt8, acc'.length + 1 ≤ 1000 - 2 * (s.length - (k + 1)) → Ev (fun n => z1d n (s[k].toNat : Int) (yza acc') s (k + 1)) (yza (acc' ++ (s[k] :: (esc (s.drop (k + 1)) ++ [34])))) := fun acc' h' => by
   obtain ⟨q, hq⟩ := wr (s := acc') (c := s[k]) rfl hlow (by omega)
   rw [zfv, Ev.zz0 hq]
   refine (ih (acc' ++ [s[k]]) (by simp; omega)).to ?_
   simp
  have l1 : (s[k] = 34 ∨ s[k] = 92) → Ev (fun n => z1b n (s[k].toNat : Int) (yza acc) s (k + 1)) (yza (acc ++ (esc (s.drop k) ++ [34]))) := fun h => by
   rw [zgi, Ev.zz0 (wb (k := 92) (c := 92) rfl (by omega))]
   refine (l2 (acc ++ [92]) (by simp; omega)).to ?_
   rw [drop_cons hk]
   simp [esc, h]
  simp only [b34, b92]
  by_cases h34 : s[k] = 34
  ·rw [Ev.kz1 (by simpa using h34)]; exact l1 (.inl h34)
  ·rw [Ev.yz1 (by simpa using h34)]
   by_cases h92 : s[k] = 92
   ·rw [Ev.kz1 (by simpa using h92)]; exact l1 (.inr h92)
   ·rw [Ev.yz1 (by simpa using h92)]
    refine (l2 acc (by omega)).to ?_
    rw [drop_cons hk]
    simp [esc, h34, h92]
theorem y6w {v : yz0} (h : z8k v = true) (hk : v.kind = 3) : v.str.length ≤ 60 ∧ v.str.all zj6 = true := by
 rw [z7i, if_neg (by omega), if_neg (by omega), if_pos hk] at h
 simp only [Bool.and_eq_true, decide_eq_true_eq] at h
 exact h.2.2.2
theorem zh3 {v : yz0} (h : z1l v = 0) : (z9r v).length ≤ 130 := by
 obtain ⟨hf, _, _⟩ := z9n h
 unfold z9r
 split
 ·rename_i hk; have := zkq (zhd hf hk); omega
 split
 ·split <;> decide
 ·have := zyf v.str
  rcases zcl hf with hk | hk | hk | hk
  ·contradiction
  ·contradiction
  ·obtain ⟨a, b⟩ := y6w hf hk
   simp; omega
  ·obtain ⟨_, _, _, a⟩ := yra hf hk
   rw [a]; decide
theorem zu1 {v : yz0} (hf : z8k v = true) (hk : v.kind = 3) : v.str.length ≤ 60 ∧ v.str.all zj6 = true := y6w hf hk
theorem zww {v : yz0} (hw : v.wf) (hs : v.size ≤ 8388608) (h : z1l v = 0) (hk : v.kind ≠ 4) : Ev (fun n => z79 n v) (z9r v, 0) := by
 obtain ⟨hf, _, _⟩ := z9n h
 have hl := zh3 h
 have hwr : Ev (fun n => z4m n v []) (yza (z9r v)) := by
  rw [zlr]
  unfold z9r
  by_cases h1 : v.kind = 1
  ·have hr := zhd hf h1
   have := ws (s := []) (t := z1n v.num) (by have := zkq hr; simp; omega)
   rw [z8z, List.nil_append] at this
   rw [Ev.kz1 (by simpa using h1), Ev.zz0 (zgv hr), Ev.zz0 this, Ev.zz1, if_pos h1]
  rw [Ev.yz1 (by simpa using h1), if_neg h1]
  by_cases h2 : v.kind = 2
  ·rw [Ev.kz1 (by simpa using h2), if_pos h2]
   cases ht : v.truth
   ·have := ws (s := []) (t := [102, 97, 108, 115, 101]) (by decide)
    rw [z8z, List.nil_append] at this
    rw [Ev.yz1 (by rfl), Ev.zz0 this, Ev.zz1]; rfl
   ·have := ws (s := []) (t := [116, 114, 117, 101]) (by decide)
    rw [z8z, List.nil_append] at this
    rw [Ev.kz1 (by rfl), Ev.zz0 this, Ev.zz1]; rfl
  rw [Ev.yz1 (by simpa using h2), if_neg h2]
  have h3 : v.kind = 3 := by rcases zcl hf with a | a | a | a <;> first | contradiction | exact a
  obtain ⟨q1, q2⟩ := zu1 hf h3
  have := wb (s := []) (k := 34) (c := 34) rfl (by decide)
  rw [z8z, List.nil_append] at this
  rw [Ev.kz1 (by simpa using h3), Ev.zz0 this]
  exact zqf q1 q2 0 (Nat.zero_le _) [34] (by simp; omega)
 have hc := zce hw hs
 rw [h] at hc
 rw [znw, yz0.kz2, Ev.zz0 hc, Ev.yz1 (by rfl), Ev.zz0 hwr, Ev.zz0 ysi, Ev.yz1 (by simp; omega), Ev.zz0 yp1, Ev.zz1]
end Go.Proofs.YtfhpamcehnfhoaaGreatDoor


namespace Go.Proofs.YtfhpamcehnfhoaaGreatDoor
open Go Go.Ab
set_option linter.unusedVariables false
set_option linter.unusedSimpArgs false
def y7t : List (List UInt8) := [[43], [45], [42], [47], [60], [61], [97, 110, 100], [111, 114]]
def z3l : List (List UInt8) := [[110, 111, 116], [105, 102], [109, 105, 110], [109, 97, 120], [102, 108, 111, 111, 114], [108, 101, 110], [97, 116]]
def z3x (op : Int) : List UInt8 := if 3 ≤ op ∧ op ≤ 10 then y7t.getD (op - 3).toNat [] else []
def z4q (op : Int) : List UInt8 := if 11 ≤ op ∧ op ≤ 17 then z3l.getD (op - 11).toNat [] else []
theorem y0p : kzd 0 [43, 32, 45, 32, 42, 32, 47, 32, 60, 32, 61, 32, 97, 110, 100, 32, 111, 114] = some y7t := by decide +kernel
theorem y5d : Ev (fun n => kzd n [43, 32, 45, 32, 42, 32, 47, 32, 60, 32, 61, 32, 97, 110, 100, 32, 111, 114]) y7t := ⟨0, fun _ _ => y0p⟩
theorem y1e : kzd 0 [110, 111, 116, 32, 105, 102, 32, 109, 105, 110, 32, 109, 97, 120, 32, 102, 108, 111, 111, 114, 32, 108, 101, 110, 32, 97, 116] = some z3l := by decide +kernel
theorem zsx : Ev (fun n => kzd n [110, 111, 116, 32, 105, 102, 32, 109, 105, 110, 32, 109, 97, 120, 32, 102, 108, 111, 111, 114, 32, 108, 101, 110, 32, 97, 116]) z3l := ⟨0, fun _ _ => y1e⟩
theorem op8 {op : Int} (h : 3 ≤ op ∧ op ≤ 10) : op = 3 ∨ op = 4 ∨ op = 5 ∨ op = 6 ∨ op = 7 ∨ op = 8 ∨ op = 9 ∨ op = 10 := by omega
theorem op7 {op : Int} (h : 11 ≤ op ∧ op ≤ 17) : op = 11 ∨ op = 12 ∨ op = 13 ∨ op = 14 ∨ op = 15 ∨ op = 16 ∨ op = 17 := by omega
theorem zdn {op : Int} : Ev (fun n => z5s n op) (z3x op) := by
 have l0 : ∀ b, (b = true ↔ ¬ (3 ≤ op ∧ op ≤ 10)) → Ev (fun n => z2w n op b) (z3x op) := fun b hb => by
  rw [zjo]
  cases b
  ·have h : 3 ≤ op ∧ op ≤ 10 := Classical.not_not.1 fun h => by have := hb.2 h; cases this
   rw [Ev.yz1 (by rfl), Ev.zz0 y5d]
   unfold z3x
   rw [if_pos h]
   rcases op8 h with rfl | rfl | rfl | rfl | rfl | rfl | rfl | rfl <;> exact ⟨0, fun _ _ => rfl⟩
  ·rw [Ev.kz1 (by rfl), Ev.zz1]; unfold z3x; rw [if_neg (hb.1 rfl)]
 rw [zpw]
 by_cases h : op < 3
 ·rw [Ev.kz1 (by simpa using h)]; exact l0 true (by simp; omega)
 ·rw [Ev.yz1 (by simpa using h)]; exact l0 _ (by simp; omega)
def z32 (op : Int) : List UInt8 := if z3x op ≠ [] then [40] else if op ≠ 18 then z4q op ++ [40] else [91]
def zal (op : Int) : List UInt8 := if z3x op ≠ [] then 32 :: (z3x op ++ [32]) else [44, 32]
def z0s (op : Int) : List UInt8 := if z3x op ≠ [] then [41] else if op ≠ 18 then [41] else [93]
mutual
def z0i : kz0 → List UInt8
 | ⟨op, v, nm, l⟩ => if op = 1 then z9r v else if op = 2 then nm else z32 op ++ (kzv (zal op) false l ++ z0s op)
def kzv (mid : List UInt8) : Bool → List kz0 → List UInt8
 | _, [] => []
 | b, e :: l => (if b then mid else []) ++ (z0i e ++ kzv mid true l)
end
theorem zcz (e : kz0) : z0i e = if e.op = 1 then z9r e.value else if e.op = 2 then e.name else z32 e.op ++ (kzv (zal e.op) false e.args ++ z0s e.op) := by cases e; rw [z0i]
theorem zaf (op : Int) : (z3x op).length ≤ 3 := by
 unfold z3x
 split
 ·rename_i h; rcases op8 h with rfl | rfl | rfl | rfl | rfl | rfl | rfl | rfl <;> decide
 ·decide
theorem zfa (op : Int) : (z4q op).length ≤ 5 := by
 unfold z4q
 split
 ·rename_i h; rcases op7 h with rfl | rfl | rfl | rfl | rfl | rfl | rfl <;> decide
 ·decide
theorem zkn (op : Int) : (z32 op).length ≤ 6 := by
 have := zfa op
 unfold z32
 split
 ·decide
 split
 ·simp; omega
 ·decide
theorem zt3 (op : Int) : (zal op).length ≤ 5 := by
 have := zaf op
 unfold zal
 split
 ·simp; omega
 ·decide
theorem zlb (op : Int) : (z0s op).length = 1 := by
 unfold z0s
 split
 ·rfl
 split <;> rfl
theorem z7r {e : kz0} (h : z2p e = true) : ∀ x ∈ e.args, z2p x = true := by
 rw [zii, y64] at h
 simp only [Bool.and_eq_true, List.all_eq_true] at h
 exact h.2.2
theorem zbo {e : kz0} (h : z2p e = true) : zm9 e.op e.value e.name = true := by
 rw [zii] at h
 simp only [Bool.and_eq_true] at h
 exact h.2.1
theorem zb9 {e : kz0} (h : z2p e = true) : zcy e.op e.args.length = true := by
 rw [zii] at h
 simp only [Bool.and_eq_true] at h
 exact h.1
theorem yfl {v : yz0} {nm : List UInt8} (h : zm9 1 v nm = true) : z1l v = 0 ∧ v.kind ≠ 4 ∧ nm = [] := by
 unfold zm9 at h
 simpa using h
theorem ymc {v : yz0} {nm : List UInt8} (h : zm9 2 v nm = true) : zd0 nm = true ∧ v = v0 := by
 unfold zm9 at h
 simp at h
 exact ⟨h.1, zbj.1 h.2⟩
theorem yh3 {op : Int} {v : yz0} {nm : List UInt8} (h1 : op ≠ 1) (h2 : op ≠ 2) (h : zm9 op v nm = true) : nm = [] ∧ v = v0 := by
 unfold zm9 at h
 rw [if_neg h1, if_neg h2] at h
 simp at h
 exact ⟨h.1, zbj.1 h.2⟩
theorem zoh {s : List UInt8} (h : zd0 s = true) : s.length ≤ 40 := by
 unfold zd0 z9w at h
 cases s with
 | nil => simp at h
 | cons c t => simp at h ⊢; omega
theorem ymi {op : Int} {k : Nat} (h : zcy op k = true) (ho : 3 ≤ op ∧ op ≤ 10) : k = 2 := by
 unfold zcy at h
 have hc : z27 op = 2 := by unfold z27; rw [if_neg (by omega), if_pos (.inl ho)]
 rw [hc] at h
 simp at h
 omega
theorem zm0 {mid : List UInt8} (hm : mid.length ≤ 5) : ∀ (l : List kz0) (b : Bool), (∀ x ∈ l, (z0i x).length + 8 ≤ 200 * z45 x) → (kzv mid b l).length ≤ 200 * zzq l
 | [], b, _ => by simp [kzv]
 | e :: l, b, h => by
   have h1 := h e List.mem_cons_self
   have h2 := zm0 hm l true fun x hx => h x (List.mem_cons_of_mem _ hx)
   rw [kzv, zzq]
   simp only [List.length_append]
   cases b <;> simp <;> omega
theorem zko : ∀ e : kz0, z2p e = true → (z0i e).length + 8 ≤ 200 * z45 e := zt6 fun e ih hf => by
 rw [zcz, z9i]
 have ho := zbo hf
 split
 ·rename_i h; rw [h] at ho; have := zh3 (yfl ho).1; omega
 split
 ·rename_i h; rw [h] at ho; have := zoh (ymc ho).1; omega
 ·have h1 := zkn e.op
  have h2 := zlb e.op
  have h3 := zm0 (zt3 e.op) e.args false fun x hx => ih x hx (z7r hf x hx)
  simp only [List.length_append]
  omega
end Go.Proofs.YtfhpamcehnfhoaaGreatDoor


namespace Go.Proofs.YtfhpamcehnfhoaaGreatDoor
open Go Go.Ab
set_option linter.unusedVariables false
set_option linter.unusedSimpArgs false
theorem zhb {op : Int} (h : 3 ≤ op ∧ op ≤ 10) : z3x op ≠ [] := by
 rcases op8 h with rfl | rfl | rfl | rfl | rfl | rfl | rfl | rfl <;> decide
theorem zi9 {op : Int} (h : ¬ (3 ≤ op ∧ op ≤ 10)) : z3x op = [] := by unfold z3x; rw [if_neg h]
theorem zna {op : Int} {k : Nat} (h : zcy op k = true) : ((op = 1 ∨ op = 2) ∧ k = 0) ∨ (z27 op = 2 ∧ k = 2) ∨ (z27 op = 1 ∧ k = 1) ∨ (op = 12 ∧ k = 3) ∨ op = 18 := by
 unfold zcy at h
 simp only [Bool.and_eq_true, bne_iff_ne, ne_eq, Bool.or_eq_true, decide_eq_true_eq, beq_iff_eq] at h
 unfold z27 at h ⊢
 by_cases h1 : op = 1 ∨ op = 2
 ·rw [if_pos h1] at h; exact .inl ⟨h1, by omega⟩
 rw [if_neg h1] at h ⊢
 by_cases h2 : (3 ≤ op ∧ op ≤ 10) ∨ op = 13 ∨ op = 14 ∨ op = 17
 ·rw [if_pos h2] at h ⊢; exact .inr (.inl ⟨rfl, by omega⟩)
 rw [if_neg h2] at h ⊢
 by_cases h3 : op = 11 ∨ op = 15 ∨ op = 16
 ·rw [if_pos h3] at h ⊢; exact .inr (.inr (.inl ⟨rfl, by omega⟩))
 rw [if_neg h3] at h ⊢
 by_cases h4 : op = 12
 ·rw [if_pos h4] at h; exact .inr (.inr (.inr (.inl ⟨h4, by omega⟩)))
 rw [if_neg h4] at h
 by_cases h5 : op = 18
 ·exact .inr (.inr (.inr (.inr h5)))
 ·rw [if_neg h5] at h; omega
theorem zgb {op : Int} {k : Nat} (h : zcy op k = true) (h1 : op ≠ 1) (h2 : op ≠ 2) (h3 : ¬ (3 ≤ op ∧ op ≤ 10)) (h4 : op ≠ 18) : 11 ≤ op ∧ op ≤ 17 := by
 rcases zna h with ⟨a | a, _⟩ | ⟨a, _⟩ | ⟨a, _⟩ | ⟨a, _⟩ | a
 ·exact (h1 a).elim
 ·exact (h2 a).elim
 ·unfold z27 at a
  repeat' split at a
  all_goals omega
 ·unfold z27 at a
  repeat' split at a
  all_goals omega
 ·omega
 ·exact (h4 a).elim
theorem y1g {op : Int} (h : 11 ≤ op ∧ op ≤ 17) : ix z3l (IntKind.u8.wrap (op - 11)) = some (z4q op) := by
 rcases op7 h with rfl | rfl | rfl | rfl | rfl | rfl | rfl <;> rfl
theorem zwg : ∀ e : kz0, e.wf → e.size ≤ 8388608 → z2p e = true → ∀ acc : List UInt8, acc.length + 200 * z45 e ≤ 1000000 → Ev (fun n => z5i n e (yza acc)) (yza (acc ++ z0i e)) := zt6 fun e ih hw hs hf acc hl => by
 have ho := zbo hf
 have har := zb9 hf
 have hsz := z5y e
 have hp := z9i e
 have hln := zao e.args
 rw [zns, zcz]
 by_cases h1 : e.op = 1
 ·rw [h1] at ho
  obtain ⟨o1, o2, _⟩ := yfl ho
  have := zh3 o1
  rw [Ev.kz1 (by simpa using h1), yz0.kz2, Ev.zz0 (zww (y03 hw) (by omega) o1 o2), Ev.kz1 (by rfl), Ev.zz0 (ws (t := z9r e.value) (by omega)), Ev.zz1, if_pos h1]
 rw [Ev.yz1 (by simpa using h1), if_neg h1]
 by_cases h2 : e.op = 2
 ·rw [h2] at ho
  have := zoh (ymc ho).1
  rw [Ev.kz1 (by simpa using h2), Ev.zz0 (ws (by omega)), Ev.zz1, if_pos h2]
 rw [Ev.yz1 (by simpa using h2), if_neg h2]
 have q1 := zkn e.op
 have q2 := zt3 e.op
 have q3 := zlb e.op
 have loop : ∀ k, k ≤ e.args.length → ∀ acc' : List UInt8, acc'.length + 200 * zzq (e.args.drop k) + 190 ≤ 1000000 → Ev (fun n => z22 n (k : Int) (zal e.op) e.args (z0s e.op) (e.args.length : Int) (yza acc')) (yza (acc' ++ (kzv (zal e.op) (decide (0 < k)) (e.args.drop k) ++ z0s e.op))) :=
  down (fun acc' h' => by
   rw [zaj, Ev.yz1 (by simp), Ev.zz0 (ws (by omega)), Ev.zz1]
   simp [kzv]) fun k hk ihk acc' h' => by
   have hm := List.getElem_mem hk
   have hd : e.args.drop k = e.args[k] :: e.args.drop (k + 1) := (List.getElem_cons_drop (h := hk)).symm
   rw [hd] at h' ⊢
   rw [zzq] at h'
   have hx := zko _ (z7r hf _ hm)
   have l2 : ∀ acc'' : List UInt8, acc''.length + 200 * z45 e.args[k] + 200 * zzq (e.args.drop (k + 1)) + 185 ≤ 1000000 → Ev (fun n => z1w n (zal e.op) e.args (z0s e.op) (e.args.length : Int) (k : Int) (yza acc'') e.args[k]) (yza (acc'' ++ (z0i e.args[k] ++ (kzv (zal e.op) true (e.args.drop (k + 1)) ++ z0s e.op)))) := fun acc'' g1 => by
    rw [zhf, kz0.kz2, Ev.zz0 (ih _ hm (y79 hw _ hm) (by have := zcx hm; omega) (z7r hf _ hm) acc'' (by omega)), wrk (by omega)]
    have := ihk (acc'' ++ z0i e.args[k]) (by simp; omega)
    rw [show decide (0 < k + 1) = true by simp] at this
    refine this.to ?_
    simp
   rw [zaj, Ev.kz1 (by simpa using hk), Ev.yz2 (yzb hk), kz0.kz2, kzv]
   by_cases hk0 : 0 < k
   ·rw [Ev.kz1 (by simpa using hk0), Ev.zz0 (ws (by omega))]
    refine (l2 (acc' ++ zal e.op) (by simp; omega)).to ?_
    simp [hk0]
   ·rw [Ev.yz1 (by simpa using hk0)]
    refine (l2 acc' (by omega)).to ?_
    simp [hk0]
 have l0 : Ev (fun n => z11 n (zal e.op) (z0s e.op) (z32 e.op) (yza acc) e) (yza (acc ++ (z32 e.op ++ (kzv (zal e.op) false e.args ++ z0s e.op)))) := by
  rw [zi0, Ev.zz0 (ws (by omega))]
  refine (loop 0 (Nat.zero_le _) (acc ++ z32 e.op) (by simp; omega)).to ?_
  simp
 rw [Ev.zz0 zdn]
 by_cases h3 : 3 ≤ e.op ∧ e.op ≤ 10
 ·have hn := zhb h3
  have hl3 := zaf e.op
  rw [Ev.kz1 (by simpa using hn), Ev.zz0 zdn, Ev.yz2 (z3o (by simp; omega)), Ev.yz2 (z3o (by simp; omega)), kz0.kz2]
  have e1 : [32] ++ z3x e.op ++ [32] = zal e.op := by unfold zal; rw [if_pos hn]; simp
  have e2 : [41] = z0s e.op := by unfold z0s; rw [if_pos hn]
  have e3 : [40] = z32 e.op := by unfold z32; rw [if_pos hn]
  rw [e1, e2, e3]
  exact l0
 ·have hn := zi9 h3
  rw [Ev.yz1 (by simp [hn]), kz0.kz2]
  have e1 : [44, 32] = zal e.op := by unfold zal; rw [if_neg (by simpa using hn)]
  by_cases h18 : e.op = 18
  ·have e2 : [93] = z0s e.op := by unfold z0s; rw [if_neg (by simpa using hn), if_neg (by simpa using h18)]
   have e3 : [91] = z32 e.op := by unfold z32; rw [if_neg (by simpa using hn), if_neg (by simpa using h18)]
   rw [Ev.yz1 (by simpa using h18), e1, e2, e3]
   exact l0
  ·have hr := zgb har h1 h2 h3 h18
   have hcl := zfa e.op
   have e2 : [41] = z0s e.op := by unfold z0s; rw [if_neg (by simpa using hn), if_pos (by simpa using h18)]
   have e3 : z4q e.op ++ [40] = z32 e.op := by unfold z32; rw [if_neg (by simpa using hn), if_pos (by simpa using h18)]
   rw [Ev.kz1 (by simpa using h18), Ev.zz0 zsx, Ev.yz2 (y1g hr), Ev.yz2 (z3o (by simp; omega)), e1, e2, e3]
   exact l0
noncomputable def zrf (e : kz0) : List UInt8 × Int := if z97 e ≠ 0 then ([], z97 e) else if 4000 < (z0i e).length then ([], 4) else (z0i e, 0)
theorem y0v {e : kz0} (hw : e.wf) (hs : e.size ≤ 8388608) : Ev (fun n => z6u n e) (zrf e) := by
 unfold zrf
 rw [zpq, kz0.kz2, Ev.zz0 (zps hw hs)]
 by_cases hc : z97 e = 0
 ·obtain ⟨hf, hp, _⟩ := zir hc
  have h := zwg e hw hs hf [] (by simp; omega)
  rw [z8z, List.nil_append] at h
  rw [Ev.yz1 (by simpa using hc), Ev.zz0 h, Ev.zz0 ysi, if_neg (by simpa using hc)]
  by_cases hl : 4000 < (z0i e).length
  ·rw [Ev.kz1 (by simp; omega), Ev.zz1, if_pos hl]
  ·rw [Ev.yz1 (by simp; omega), Ev.zz0 yp1, Ev.zz1, if_neg hl]
 ·rw [Ev.kz1 (by simpa using hc), Ev.zz1, if_pos (by simpa using hc)]
end Go.Proofs.YtfhpamcehnfhoaaGreatDoor


namespace Go.Proofs.YtfhpamcehnfhoaaGreatDoor
open Go Go.Ab
set_option linter.unusedVariables false
set_option linter.unusedSimpArgs false
theorem zxn {p s : List UInt8} : p.isPrefixOf s = (s.take p.length == p) := by
 rw [Bool.eq_iff_iff, List.isPrefixOf_iff_prefix, List.prefix_iff_eq_take, beq_iff_eq]
 exact eq_comm
theorem hasPrefix {s p : List UInt8} : Ev (fun n => kz6 n s p) (p.isPrefixOf s) := by
 rw [z9c, zxn]
 by_cases h : p.length ≤ s.length
 ·rw [Ev.kz1 (by simp; omega), Ev.yz2 (zd8 h), Ev.zz1]
 ·rw [Ev.yz1 (by simp; omega), Ev.zz1, eq_comm, beq_eq_false_iff_ne]
  intro e
  have := congrArg List.length e
  simp at this; omega
theorem zph {s p : List UInt8} : Ev (fun n => z0m n s p) (p.isPrefixOf s) := by rw [zit, Ev.zz0 hasPrefix, Ev.zz1]
theorem zxh {p s : List UInt8} (h : p.isPrefixOf s = true) : p.length ≤ s.length := by
 rw [List.isPrefixOf_iff_prefix] at h; exact h.length_le
theorem zol {s p : List UInt8} : Ev (fun n => zzy n s p) (if p.isPrefixOf s then s.drop p.length else s, p.isPrefixOf s) := by
 have h : Ev (fun n => zze n s p) (if p.isPrefixOf s then s.drop p.length else s, p.isPrefixOf s) := by
  rw [z9a, Ev.zz0 hasPrefix]
  cases hp : p.isPrefixOf s
  ·rw [Ev.kz1 (by rfl), Ev.zz1]; rfl
  ·rw [Ev.yz1 (by rfl), Ev.yz2 (zb8 (zxh hp) (Nat.le_refl _)), Ev.zz1]
   simp
 rw [ziy, Ev.zz0 h, Ev.zz1]
theorem yte {s : List UInt8} (hl : s.length ≤ 1000000) : Ev (fun n => z7k n s [47]) (cutAt 47 s) := by
 have hi : Ev (fun n => yzp n s [47]) (Lib.indexByte s 47) := ⟨0, fun _ _ => rfl⟩
 have h : Ev (fun n => kzm n s [47]) (cutAt 47 s) := by
  rw [zc4, Ev.zz0 hi, zy6]
  cases ha : s.any (· == 47)
  ·rw [ynh ha, Ev.yz1 (by rfl), Ev.zz1]
  ·obtain ⟨c1, c2, c3⟩ := yok ha
   rw [if_pos rfl, Ev.kz1 (by simp), Ev.yz2 (zd8 (by omega))]
   simp only [List.length_cons, List.length_nil]
   rw [show (((0 + 1 : Nat) : Nat) : Int) = 1 by rfl, wrk (by omega), Ev.yz2 (zb8 (by omega) (Nat.le_refl _)), Ev.zz1, c2]
   unfold cutAt
   rw [ha]
   simp [c3]
 rw [ztb, Ev.zz0 h, Ev.zz1]
def yr2 (a : Nat) (c : UInt8) : Nat := 10 * a + (c.toNat - 48)
def val (a : Nat) (s : List UInt8) : Nat := s.foldl yr2 a
theorem y46 (a : Nat) : val a [] = a := by unfold val; rw [List.foldl_nil]
theorem zyn (a : Nat) (c : UInt8) (s : List UInt8) : val a (c :: s) = val (10 * a + (c.toNat - 48)) s := by unfold val; rw [List.foldl_cons, yr2]
theorem ykl (a : Nat) (s : List UInt8) (c : UInt8) : val a (s ++ [c]) = 10 * val a s + (c.toNat - 48) := by unfold val; rw [List.foldl_append, List.foldl_cons, List.foldl_nil, yr2]
theorem z7s {c : UInt8} : z7u c = true ↔ 48 ≤ c.toNat ∧ c.toNat ≤ 57 := by unfold z7u; simp
theorem yqp : ∀ (s : List UInt8) (a k : Nat), s.all z7u = true → a < 10 ^ k → val a s < 10 ^ (k + s.length)
 | [], a, k, _, h => by rw [y46, List.length_nil, Nat.add_zero]; exact h
 | c :: s, a, k, hs, h => by
   simp only [List.all_cons, Bool.and_eq_true] at hs
   have hc := z7s.1 hs.1
   have := yqp s (10 * a + (c.toNat - 48)) (k + 1) hs.2 (by rw [Nat.pow_succ]; omega)
   rw [zyn, List.length_cons, show k + (s.length + 1) = k + 1 + s.length by omega]
   exact this
theorem w32i {k : Int} (h : -1000 ≤ k ∧ k ≤ 1000) : IntKind.i32.wrap k = k := IntWalk.i32_in _ (by omega)
def zt9 (s : List UInt8) : Int × Bool := if s.length = 0 ∨ 10 < s.length ∨ (s.head? = some 48 ∧ 1 < s.length) then (0, false) else if s.all z7u then ((val 0 s : Nat), true) else (0, false)
theorem zye {k : Nat} (h : k ≤ 10) : 10 ^ k ≤ 10000000000 := Nat.pow_le_pow_right (by decide) h
theorem yhd {s : List UInt8} (hs : s.length ≤ 10) : ∀ k, k ≤ s.length → ∀ a : Nat, a < 10 ^ k → Ev (fun n => z1i n (a : Int) s k) (if (s.drop k).all z7u then ((val a (s.drop k) : Nat), true) else (0, false)) :=
 down (fun a ha => by
  rw [zey, Ev.yz1 (by simp), Ev.zz1, List.drop_length, y46]
  rfl) fun k hk ih a ha => by
  have hp := zye (k := k) (by omega)
  have hd : s.drop k = s[k] :: s.drop (k + 1) := (List.getElem_cons_drop (h := hk)).symm
  have bad : ∀ (c : Int) (j : Nat), z7u s[k] = false → Ev (fun n => z1g n c (a : Int) true s j) (if (s.drop k).all z7u then (((val a (s.drop k) : Nat) : Int), true) else (0, false)) := fun c j hb => by
   rw [zex, Ev.kz1 (by rfl), Ev.zz1, hd]
   simp only [List.all_cons, hb, Bool.false_and]
   rfl
  rw [zey, Ev.kz1 (by simpa using hk)]
  by_cases hlow : s[k].toNat < 128
  ·rw [zyh hk hlow]
   by_cases h48 : s[k].toNat < 48
   ·rw [Ev.kz1 (by simp; omega)]
    exact bad _ _ (by cases h : z7u s[k]; rfl; have := z7s.1 h; omega)
   ·rw [Ev.yz1 (by simp; omega)]
    by_cases h57 : 57 < s[k].toNat
    ·rw [show decide (((s[k].toNat : Nat) : Int) > 57) = true by simp; omega]
     exact bad _ _ (by cases h : z7u s[k]; rfl; have := z7s.1 h; omega)
    ·rw [show decide (((s[k].toNat : Nat) : Int) > 57) = false by simp; omega, zex, Ev.yz1 (by rfl), w32i (by omega), wI (x := (s[k].toNat : Int) - 48) (by omega), wI (x := 10 * (a : Int)) (by omega), wI (by omega)]
     have hdig : z7u s[k] = true := z7s.2 (by omega)
     have := ih (10 * a + (s[k].toNat - 48)) (by rw [Nat.pow_succ]; omega)
     rw [show ((10 * a + (s[k].toNat - 48) : Nat) : Int) = 10 * (a : Int) + ((s[k].toNat : Int) - 48) by omega] at this
     refine this.to ?_
     rw [hd]
     simp only [List.all_cons, hdig, Bool.true_and, zyn]
  ·obtain ⟨g1, g2⟩ := yce hk (by omega)
   rw [Ev.yz1 (by simp; omega), show decide ((((zat s k).1 : Nat) : Int) > 57) = true by simp; omega]
   exact bad _ _ (by cases h : z7u s[k]; rfl; have := z7s.1 h; omega)
theorem zd5 {s : List UInt8} : Ev (fun n => z4n n s) (zt9 s) := by
 have l0 : ∀ b, (b = true ↔ (s.length = 0 ∨ 10 < s.length ∨ (s.head? = some 48 ∧ 1 < s.length))) → Ev (fun n => z05 n s b) (zt9 s) := fun b hb => by
  rw [zlk]
  unfold zt9
  cases b
  ·have hn : ¬ (s.length = 0 ∨ 10 < s.length ∨ (s.head? = some 48 ∧ 1 < s.length)) := fun h => by have := hb.2 h; cases this
   rw [Ev.yz1 (by rfl), if_neg hn]
   exact (yhd (by omega) 0 (Nat.zero_le _) 0 (by decide)).to (by simp)
  ·rw [Ev.kz1 (by rfl), Ev.zz1, if_pos (hb.1 rfl)]
 rw [zqn]
 by_cases h0 : s.length = 0
 ·rw [Ev.kz1 (by simpa using h0)]; exact l0 true (by simp [h0])
 rw [Ev.yz1 (by simpa using h0)]
 by_cases h10 : 10 < s.length
 ·rw [Ev.kz1 (by simp; omega)]; exact l0 true (by simp [h10])
 have hlt : 0 < s.length := by omega
 rw [Ev.yz1 (by simp; omega), Ev.yz2 (show ix s 0 = some s[0] from yzb (k := 0) hlt), b48]
 have hh : s.head? = some s[0] := by
  cases s with
  | nil => simp at hlt
  | cons c t => rfl
 by_cases h48 : s[0] = 48
 ·rw [Ev.kz1 (by simpa using h48)]
  refine l0 _ ⟨fun h => .inr (.inr ⟨by rw [hh, h48], by have := of_decide_eq_true h; omega⟩), fun h => ?_⟩
  rcases h with h | h | h
  ·omega
  ·omega
  ·exact decide_eq_true (by omega)
 ·rw [Ev.yz1 (by simpa using h48)]
  refine l0 _ ⟨fun h => (by cases h), fun h => ?_⟩
  rcases h with h | h | h
  ·omega
  ·omega
  ·rw [hh] at h; exact (h48 (Option.some.inj h.1)).elim
theorem yoh : ∀ (k u : Nat), u < 10 ^ (k + 1) → Lib.nDigits u ≤ k + 1
 | 0, u, h => by rw [Lib.nDigits_small (by simpa using h)]; exact Nat.le_refl _
 | k + 1, u, h => by
   by_cases hu : u < 10
   · rw [Lib.nDigits_small hu]; omega
   · rw [Lib.nDigits_big hu]
     have := yoh k (u / 10) (by rw [Nat.pow_succ] at h; omega)
     omega
theorem zej : ∀ u : Nat, (Lib.decDigits u).all z7u = true := by
 intro u
 induction u using Nat.strongRecOn with
 | _ u ih =>
   have hd : ∀ k, k < 10 → z7u (UInt8.ofNat (48 + k)) = true := fun k hk => z7s.2 (by rw [zku hk]; omega)
   by_cases h : u < 10
   · rw [zkr h]; simp only [List.all_cons, List.all_nil, Bool.and_true]; exact hd u h
   · rw [zx5 h]
     simp only [List.all_append, List.all_cons, List.all_nil, Bool.and_true, Bool.and_eq_true]
     exact ⟨ih _ (by omega), hd _ (Nat.mod_lt _ (by decide))⟩
theorem zya : ∀ u : Nat, val 0 (Lib.decDigits u) = u := by
 intro u
 induction u using Nat.strongRecOn with
 | _ u ih =>
   by_cases h : u < 10
   · rw [zkr h]; rw [zyn, y46, zku h]; omega
   · rw [zx5 h, ykl, ih _ (by omega), zku (Nat.mod_lt _ (by decide))]; omega
theorem zs6 (u : Nat) : Lib.decDigits u ≠ [] := fun h => by
 have := Lib.decDigits_length u
 rw [h] at this
 have := Lib.nDigits_pos u
 simp at *; omega
theorem ysy : ∀ u : Nat, 1 ≤ u → (Lib.decDigits u).head? ≠ some 48 := by
 intro u
 induction u using Nat.strongRecOn with
 | _ u ih =>
   intro h1
   by_cases h : u < 10
   · rw [zkr h]
     simp only [List.head?_cons, ne_eq, Option.some.injEq]
     intro e
     have := congrArg UInt8.toNat e
     rw [zku h] at this
     simp at this; omega
   · rw [zx5 h, List.head?_append]
     have := ih (u / 10) (by omega) (by omega)
     cases hq : (Lib.decDigits (u / 10)).head? with
     | none => rw [List.head?_eq_none_iff] at hq; exact (zs6 _ hq).elim
     | some c => rw [hq] at this; simpa using this
theorem yi1 {u : Nat} (h : u < 10000000000) : zt9 (Lib.decDigits u) = (((u : Nat) : Int), true) := by
 have hl := Lib.decDigits_length u
 have h1 := Lib.nDigits_pos u
 have h2 := yoh 9 u (by simpa using h)
 unfold zt9
 rw [if_neg, if_pos (zej u), zya]
 rintro (h' | h' | ⟨h', h''⟩)
 ·omega
 ·omega
 ·by_cases hu : 1 ≤ u
  ·exact ysy u hu h'
  ·have : u = 0 := by omega
   subst this
   rw [zkr (by decide)] at h''
   simp at h''
end Go.Proofs.YtfhpamcehnfhoaaGreatDoor


namespace Go.Proofs.YtfhpamcehnfhoaaGreatDoor
open Go Go.Ab
set_option linter.unusedVariables false
set_option linter.unusedSimpArgs false
theorem yve (s : List UInt8) : 0 ≤ (zt9 s).1 ∧ (zt9 s).1 < 10000000000 := by
 unfold zt9
 split
 ·exact ⟨by decide, by decide⟩
 ·rename_i h
  split
  ·rename_i ha
   have := yqp s 0 0 ha (by decide)
   have hp := zye (k := 0 + s.length) (by omega)
   have : val 0 s < 10000000000 := by omega
   exact ⟨Int.natCast_nonneg _, by show ((val 0 s : Nat) : Int) < _; omega⟩
  ·exact ⟨by decide, by decide⟩
theorem yt7 {w : List UInt8} {b : Bool} {q r : zz2} (h : b = false → rok r = true) : ∃ c r', Ev (fun n => z1a n w b q r) (c, r') ∧ (c = 12 ∨ c = 0 ∧ rok r' = true ∧ z1n r' = w) := by
 cases b
 ·have hr := h rfl
  by_cases ht : z1n r = w
  ·refine ⟨0, r, ?_, .inr ⟨rfl, hr, ht⟩⟩
   rw [z9p, Ev.yz1 (by rfl), Ev.zz0 (zgv hr), Ev.yz1 (by simpa using ht), Ev.zz1]
  ·refine ⟨12, ⟨0, 0⟩, ?_, .inl rfl⟩
   rw [z9p, Ev.yz1 (by rfl), Ev.zz0 (zgv hr), Ev.kz1 (by simpa using ht), Ev.zz1]
 ·exact ⟨12, ⟨0, 0⟩, by rw [z9p, Ev.kz1 (by rfl), Ev.zz1], .inl rfl⟩
theorem yut {w : List UInt8} {b1 b2 : Bool} {y x : Int} {q : zz2} (hx : I64 x) : ∃ c r', Ev (fun n => z15 n w b1 b2 y x q) (c, r') ∧ (c = 12 ∨ c = 0 ∧ rok r' = true ∧ z1n r' = w) := by
 cases b2
 ·obtain ⟨c, r', h1, h2⟩ := yt7 (w := w) (b := true) (q := q) (r := ⟨x, y⟩) (fun h => by cases h)
  exact ⟨c, r', by rw [z9q, Ev.kz1 (by rfl)]; exact h1, h2⟩
 cases b1
 ·obtain ⟨c, r', h1, h2⟩ := yt7 (w := w) (b := true) (q := q) (r := ⟨x, y⟩) (fun h => by cases h)
  exact ⟨c, r', by rw [z9q, Ev.yz1 (by rfl), Ev.kz1 (by rfl)]; exact h1, h2⟩
 have hc := zfb (r := ⟨x, y⟩) hx
 obtain ⟨c, r', h1, h2⟩ := yt7 (w := w) (b := ((if rok ⟨x, y⟩ then 0 else 8 : Int) != 0)) (q := q) (r := ⟨x, y⟩) (fun h => by
  by_cases hr : rok ⟨x, y⟩ = true
  ·exact hr
  ·rw [if_neg hr] at h; cases h)
 exact ⟨c, r', by rw [z9q, Ev.yz1 (by rfl), Ev.yz1 (by rfl), Ev.zz0 hc]; exact h1, h2⟩
theorem y8k {s p : List UInt8} : (if p.isPrefixOf s then s.drop p.length else s).length ≤ s.length := by split <;> simp
theorem y3x {w : List UInt8} (hl : w.length ≤ 1000000) : ∃ c r, Ev (fun n => z1q n w) (c, r) ∧ (c = 12 ∨ c = 0 ∧ rok r = true ∧ z1n r = w) := by
 have hcl := y8k (s := w) (p := [45])
 have hb := yve
 have l0 : ∀ (b : Bool) (d m : List UInt8) (q : zz2), ∃ c r, Ev (fun n => z17 n w b d m q) (c, r) ∧ (c = 12 ∨ c = 0 ∧ rok r = true ∧ z1n r = w) := fun b d m q => by
  have hm := hb m
  cases b
  ·obtain ⟨c, r', h1, h2⟩ := yut (w := w) (b1 := (zt9 d).2) (b2 := (zt9 m).2) (y := (zt9 d).1) (x := (zt9 m).1) (q := q) (by unfold I64; omega)
   exact ⟨c, r', by rw [zbz, Ev.zz0 zd5, Ev.zz0 zd5, Ev.yz1 (by rfl)]; exact h1, h2⟩
  ·obtain ⟨c, r', h1, h2⟩ := yut (w := w) (b1 := (zt9 d).2) (b2 := (zt9 m).2) (y := (zt9 d).1) (x := IntKind.i64.wrap (0 - (zt9 m).1)) (q := q) (by rw [wI (by omega)]; unfold I64; omega)
   exact ⟨c, r', by rw [zbz, Ev.zz0 zd5, Ev.zz0 zd5, Ev.kz1 (by rfl)]; exact h1, h2⟩
 cases hh : (cutAt 47 (if ([45] : List UInt8).isPrefixOf w then w.drop ([45] : List UInt8).length else w)).2.2
 ·obtain ⟨c, r', h1, h2⟩ := l0 (([45] : List UInt8).isPrefixOf w) [49] (cutAt 47 (if ([45] : List UInt8).isPrefixOf w then w.drop ([45] : List UInt8).length else w)).1 ⟨0, 0⟩
  exact ⟨c, r', by rw [zgc, Ev.zz0 zol, Ev.zz0 (yte (Nat.le_trans hcl hl)), Ev.kz1 (by rw [hh]; rfl)]; exact h1, h2⟩
 ·obtain ⟨c, r', h1, h2⟩ := l0 (([45] : List UInt8).isPrefixOf w) (cutAt 47 (if ([45] : List UInt8).isPrefixOf w then w.drop ([45] : List UInt8).length else w)).2.1 (cutAt 47 (if ([45] : List UInt8).isPrefixOf w then w.drop ([45] : List UInt8).length else w)).1 ⟨0, 0⟩
  exact ⟨c, r', by rw [zgc, Ev.zz0 zol, Ev.zz0 (yte (Nat.le_trans hcl hl)), Ev.yz1 (by rw [hh]; rfl)]; exact h1, h2⟩
theorem zro {c : UInt8} (h : z7u c = true) : c ≠ 47 ∧ c ≠ 45 := by
 have := z7s.1 h
 constructor <;> (intro e; subst e; simp at this)
theorem yv6 {d t : List UInt8} (h : d.all z7u = true) : (d ++ 47 :: t).takeWhile (· != 47) = d ∧ (d ++ 47 :: t).dropWhile (· != 47) = 47 :: t := by
 induction d with
 | nil => simp
 | cons c d ih =>
   simp only [List.all_cons, Bool.and_eq_true] at h
   have hc := (zro h.1).1
   obtain ⟨i1, i2⟩ := ih h.2
   simp only [List.cons_append, List.takeWhile_cons, List.dropWhile_cons]
   have : (c != 47) = true := by simpa using hc
   rw [this]
   exact ⟨by simp only [if_true]; rw [i1], by simp only [if_true]; exact i2⟩
theorem yu2 {d t : List UInt8} (h : d.all z7u = true) : cutAt 47 (d ++ 47 :: t) = (d, t, true) := by
 obtain ⟨h1, h2⟩ := yv6 (t := t) h
 unfold cutAt
 rw [h1, h2]
 simp
theorem ysh {d : List UInt8} (h : d.all z7u = true) : cutAt 47 d = (d, [], false) := by
 refine ynh ?_
 rw [List.any_eq_false]
 intro c hc
 have := (zro (List.all_eq_true.1 h c hc)).1
 simpa using this
def zp7 (r : zz2) : List UInt8 := if r.den = 1 then Lib.decDigits r.num.natAbs else Lib.decDigits r.num.natAbs ++ 47 :: Lib.decDigits r.den.natAbs
theorem zod {x : Int} (h : 0 ≤ x) : Lib.itoa x = Lib.decDigits x.natAbs := by
 unfold Lib.itoa; rw [if_neg (by omega)]; congr 1; omega
theorem zlu {r : zz2} (h : rok r = true) : z1n r = if r.num < 0 then 45 :: zp7 r else zp7 r := by
 obtain ⟨h1, h2, h3⟩ := zyj h
 unfold z1n zp7
 rw [zod (x := r.den) (by omega)]
 by_cases hn : r.num < 0
 ·rw [if_pos hn, show Lib.itoa r.num = 45 :: Lib.decDigits r.num.natAbs by unfold Lib.itoa; rw [if_pos hn]]
  split <;> simp
 ·rw [if_neg hn, zod (by omega)]
theorem y4k (r : zz2) : ∃ c t, zp7 r = c :: t ∧ z7u c = true := by
 have ha := zej r.num.natAbs
 have hn := zs6 r.num.natAbs
 unfold zp7
 cases hd : Lib.decDigits r.num.natAbs with
 | nil => exact (hn hd).elim
 | cons c t =>
   rw [hd] at ha
   simp only [List.all_cons, Bool.and_eq_true] at ha
   split
   · exact ⟨c, t, rfl, ha.1⟩
   · exact ⟨c, _, rfl, ha.1⟩
theorem y0r {r : zz2} (h : rok r = true) : Ev (fun n => z1q n (z1n r)) (0, r) := by
 obtain ⟨h1, h2, h3⟩ := zyj h
 obtain ⟨c, t, hb, hc⟩ := y4k r
 have hlen := zkq h
 have hbl : (zp7 r).length ≤ 1000000 := by
  have := congrArg List.length (zlu h)
  split at this
  ·rw [List.length_cons] at this; omega
  ·omega
 have hck := zfb (r := r) (by unfold I64; omega)
 rw [if_pos h] at hck
 have l1 : Ev (fun n => z15 n (z1n r) true true r.den r.num ⟨0, 0⟩) (0, r) := by
  rw [z9q, Ev.yz1 (by rfl), Ev.yz1 (by rfl)]
  rw [Ev.zz0 (show Ev (fun n => z1r n (zz2.mk r.num r.den)) 0 from hck), z9p, Ev.yz1 (by rfl), Ev.zz0 (show Ev (fun n => z4k n (zz2.mk r.num r.den)) (z1n r, 0) from zgv h), Ev.yz1 (by simp), Ev.zz1]
 have hdn := yi1 (u := r.num.natAbs) (by omega)
 have l0 : ∀ d, zt9 d = (r.den, true) → Ev (fun n => z17 n (z1n r) (decide (r.num < 0)) d (Lib.decDigits r.num.natAbs) ⟨0, 0⟩) (0, r) := fun d hd => by
  rw [zbz, Ev.zz0 zd5, Ev.zz0 zd5, hd, hdn]
  by_cases hn : r.num < 0
  ·rw [Ev.kz1 (by simpa using hn), wI (by omega), show (0 : Int) - ((r.num.natAbs : Nat) : Int) = r.num by omega]
   exact l1
  ·rw [Ev.yz1 (by simpa using hn), show ((r.num.natAbs : Nat) : Int) = r.num by omega]
   exact l1
 have hpre : (if ([45] : List UInt8).isPrefixOf (z1n r) then (z1n r).drop ([45] : List UInt8).length else z1n r, ([45] : List UInt8).isPrefixOf (z1n r)) = (zp7 r, decide (r.num < 0)) := by
  rw [zlu h]
  by_cases hn : r.num < 0
  ·rw [if_pos hn]
   simp [List.isPrefixOf, hn]
  ·rw [if_neg hn, hb]
   have : (45 == c) = false := by
    have := (zro hc).2
    rw [beq_eq_false_iff_ne]; exact fun e => this e.symm
   simp [List.isPrefixOf, this, hn]
 have hcp : Ev (fun n => zzy n (z1n r) [45]) (zp7 r, decide (r.num < 0)) := by rw [← hpre]; exact zol
 rw [zgc, Ev.zz0 hcp, Ev.zz0 (yte hbl)]
 unfold zp7
 by_cases hd : r.den = 1
 ·rw [if_pos hd, ysh (zej _), Ev.kz1 (by rfl)]
  exact l0 [49] (by rw [hd]; decide)
 ·rw [if_neg hd, yu2 (zej _), Ev.yz1 (by rfl)]
  exact l0 _ (by rw [yi1 (by omega)]; congr 1; omega)
theorem y26 {w : List UInt8} (hl : w.length ≤ 1000000) : ∃ c r, Ev (fun n => z1q n w) (c, r) ∧ ((c = 0 ∧ rok r = true ∧ z1n r = w) ∨ (c = 12 ∧ ∀ r', rok r' = true → z1n r' ≠ w)) := by
 obtain ⟨c, r, h1, h2⟩ := y3x hl
 refine ⟨c, r, h1, ?_⟩
 rcases h2 with rfl | h2
 ·refine .inr ⟨rfl, fun r' hr' hw => ?_⟩
  have := y0r hr'
  rw [hw] at this
  have := congrArg Prod.fst (Ev.det h1 this)
  simp at this
 ·exact .inl h2
end Go.Proofs.YtfhpamcehnfhoaaGreatDoor


namespace Go.Proofs.YtfhpamcehnfhoaaGreatDoor
open Go Go.Ab
set_option linter.unusedVariables false
set_option linter.unusedSimpArgs false
def y0s (s : List UInt8) (f : Nat) (x : Nat) : Int × Bool := ((if f = 1 then -(x : Int) else (x : Int)), decide (f < s.length) && (Lib.itoa (if f = 1 then -(x : Int) else (x : Int)) == s))
def zaw (s : List UInt8) : Nat := if s.head? = some 45 then 1 else 0
def zcm (s : List UInt8) : Int × Bool := if (s.drop (zaw s)).all z7u = true ∧ s.length ≤ zaw s + 10 then y0s s (zaw s) (val 0 (s.drop (zaw s))) else (0, false)
theorem zl4 {s : List UInt8} (h : (zcm s).2 = true) : Lib.itoa (zcm s).1 = s := by
 unfold zcm at h ⊢
 split at h
 ·rename_i hc
  rw [if_pos hc]
  unfold y0s at h ⊢
  simp only [Bool.and_eq_true, beq_iff_eq] at h
  exact h.2
 ·cases h
theorem zhv {x : Int} (h : -1000000000 ≤ x ∧ x ≤ 1000000000) : zcm (Lib.itoa x) = (x, true) := by
 have hl := Lib.decDigits_length x.natAbs
 have h2 := yoh 9 x.natAbs (by omega)
 have h1 := Lib.nDigits_pos x.natAbs
 have ha := zej x.natAbs
 by_cases hn : x < 0
 ·have e : Lib.itoa x = 45 :: Lib.decDigits x.natAbs := by unfold Lib.itoa; rw [if_pos hn]
  have hs : zaw (45 :: Lib.decDigits x.natAbs) = 1 := by simp [zaw]
  unfold zcm
  rw [e, hs]
  simp only [List.drop_succ_cons, List.drop_zero]
  rw [if_pos ⟨ha, by rw [List.length_cons]; omega⟩, zya]
  unfold y0s
  simp only [if_pos]
  rw [show -((x.natAbs : Nat) : Int) = x by omega, e]
  simp
  exact List.length_pos_iff.2 (zs6 _)
 ·have e : Lib.itoa x = Lib.decDigits x.natAbs := zod (by omega)
  obtain ⟨c, t, hd⟩ : ∃ c t, Lib.decDigits x.natAbs = c :: t := by
   cases hq : Lib.decDigits x.natAbs with
   | nil => exact (zs6 _ hq).elim
   | cons c t => exact ⟨c, t, rfl⟩
  have hs : zaw (Lib.decDigits x.natAbs) = 0 := by
   unfold zaw
   rw [if_neg]
   rw [hd] at ha ⊢
   simp only [List.all_cons, Bool.and_eq_true] at ha
   intro he
   exact (zro ha.1).2 (Option.some.inj he)
  unfold zcm
  rw [e, hs]
  simp only [List.drop_zero]
  rw [if_pos ⟨ha, by omega⟩, zya]
  unfold y0s
  rw [if_neg (by decide), show ((x.natAbs : Nat) : Int) = x by omega, e]
  simp
  exact List.length_pos_iff.2 (zs6 _)
def z25 (w : List UInt8) : Int × zz2 :=
 let p := (w.takeWhile (· != 47)).length
 let a := zcm (w.take p)
 let b := zcm (w.drop (p + 1))
 if a.2 = false then (12, ⟨0, 0⟩) else if p < w.length then (if b.2 = false ∨ b.1 = 1 then (12, ⟨0, 0⟩) else if rok ⟨a.1, b.1⟩ then (0, ⟨a.1, b.1⟩) else (12, ⟨0, 0⟩)) else if rok ⟨a.1, 1⟩ then (0, ⟨a.1, 1⟩) else (12, ⟨0, 0⟩)
theorem yc2 : ∀ (w : List UInt8) (h : (w.takeWhile (· != 47)).length < w.length), w[(w.takeWhile (· != 47)).length] = 47
 | [], h => by simp at h
 | c :: w, h => by
   by_cases hc : c = 47
   · subst hc; rfl
   · have e : (c :: w).takeWhile (· != 47) = c :: w.takeWhile (· != 47) := by rw [List.takeWhile_cons, if_pos (by simpa using hc)]
     simp only [e, List.length_cons, List.getElem_cons_succ]
     exact yc2 w (by rw [e] at h; simpa using h)
theorem yo5 (w : List UInt8) : (w.takeWhile (· != 47)).length ≤ w.length := (List.takeWhile_prefix _).length_le
theorem zax {w : List UInt8} (h : (z25 w).1 = 0) : rok (z25 w).2 = true ∧ z1n (z25 w).2 = w := by
 have hp := yo5 w
 unfold z25 at h ⊢
 generalize hq : (w.takeWhile (· != 47)).length = p at h hp ⊢
 dsimp only at h ⊢
 split at h
 ·cases h
 rename_i ha
 rw [if_neg ha]
 have sa := zl4 (s := w.take p) (by simpa using ha)
 split at h
 ·rename_i hlt
  rw [if_pos hlt]
  split at h
  ·cases h
  rename_i hb
  rw [if_neg hb]
  have sb := zl4 (s := w.drop (p + 1)) (by cases hc : (zcm (w.drop (p + 1))).2 <;> simp_all)
  split at h
  ·rename_i hr
   rw [if_pos hr]
   refine ⟨hr, ?_⟩
   unfold z1n
   dsimp only
   rw [if_neg fun e => hb (.inr e), sa, sb]
   have h47 : w[p] = 47 := by subst hq; exact yc2 w hlt
   rw [← h47, List.getElem_cons_drop, List.take_append_drop]
  ·cases h
 ·rename_i hlt
  rw [if_neg hlt]
  split at h
  ·rename_i hr
   rw [if_pos hr]
   refine ⟨hr, ?_⟩
   unfold z1n
   dsimp only
   rw [if_pos rfl, sa]
   exact List.take_of_length_le (by omega)
  ·cases h
theorem y6t {x : Int} (h : -1000000000 ≤ x ∧ x ≤ 1000000000) : (Lib.itoa x).all (· != 47) = true := by
 have ha : (Lib.decDigits x.natAbs).all (· != 47) = true := by
  rw [List.all_eq_true]
  intro c hc
  have := (zro (List.all_eq_true.1 (zej x.natAbs) c hc)).1
  simpa using this
 by_cases hn : x < 0
 ·unfold Lib.itoa; rw [if_pos hn, List.all_cons, ha]; rfl
 ·rw [zod (by omega)]; exact ha
theorem y5l {d t : List UInt8} (h : d.all (· != 47) = true) : (d ++ 47 :: t).takeWhile (· != 47) = d := by
 induction d with
 | nil => simp
 | cons c d ih =>
   simp only [List.all_cons, Bool.and_eq_true] at h
   simp only [List.cons_append, List.takeWhile_cons, h.1, if_true]
   rw [ih h.2]
theorem ycz {d : List UInt8} (h : d.all (· != 47) = true) : d.takeWhile (· != 47) = d := by
 induction d with
 | nil => rfl
 | cons c d ih =>
   simp only [List.all_cons, Bool.and_eq_true] at h
   simp only [List.takeWhile_cons, h.1, if_true]
   rw [ih h.2]
theorem zpi {r : zz2} (h : rok r = true) : z25 (z1n r) = (0, r) := by
 obtain ⟨h1, h2, h3⟩ := zyj h
 have ha := y6t (x := r.num) (by omega)
 unfold z25 z1n
 by_cases hd : r.den = 1
 ·rw [if_pos hd, ycz ha]
  dsimp only
  rw [List.take_length, zhv (by omega), if_neg (by simp), if_neg (Nat.lt_irrefl _), show (⟨r.num, 1⟩ : zz2) = r by rw [← hd], if_pos h]
 ·rw [if_neg hd, y5l ha]
  dsimp only
  rw [List.take_left, zhv (by omega), if_neg (by simp), if_pos (by simp), show (Lib.itoa r.num ++ 47 :: Lib.itoa r.den).drop ((Lib.itoa r.num).length + 1) = Lib.itoa r.den by rw [← List.drop_drop, List.drop_left]; rfl, zhv (by omega), if_neg (by simpa using hd), if_pos h]
end Go.Proofs.YtfhpamcehnfhoaaGreatDoor


namespace Go.Proofs.YtfhpamcehnfhoaaGreatDoor
open Go Go.Ab
set_option linter.unusedVariables false
set_option linter.unusedSimpArgs false
def scan : List UInt8 → Option (List UInt8 × Nat)
 | [] => none
 | [c] => if c = 34 then some ([], 1) else none
 | c :: d :: t => if c = 34 then some ([], 1) else if c = 92 then (if d = 34 ∨ d = 92 then (scan t).map (fun p => (d :: p.1, p.2 + 2)) else none) else (scan (d :: t)).map fun p => (c :: p.1, p.2 + 1)
def rs : List UInt8 → Nat
 | [] => 0
 | [c] => if c = 34 then 0 else if c = 92 then 2 else 1
 | c :: d :: t => if c = 34 then 0 else if c = 92 then 2 + rs t else 1 + rs (d :: t)
theorem yry : scan [] = none := by rw [scan]
theorem yuz : rs [] = 0 := by rw [rs]
theorem ztx (t : List UInt8) : scan (34 :: t) = some ([], 1) := by cases t <;> rw [scan] <;> simp
theorem ztk (d : UInt8) (t : List UInt8) : scan (92 :: d :: t) = if d = 34 ∨ d = 92 then (scan t).map (fun p => (d :: p.1, p.2 + 2)) else none := by rw [scan]; simp
theorem y4m : scan [92] = none := by rw [scan]; simp
theorem zyz {c : UInt8} (t : List UInt8) (h1 : c ≠ 34) (h2 : c ≠ 92) : scan (c :: t) = (scan t).map fun p => (c :: p.1, p.2 + 1) := by
 cases t with
 | nil => rw [yry, scan, if_neg h1]; rfl
 | cons d t => rw [scan, if_neg h1, if_neg h2]
theorem ynn (t : List UInt8) : rs (34 :: t) = 0 := by cases t <;> rw [rs] <;> simp
theorem yoi (d : UInt8) (t : List UInt8) : rs (92 :: d :: t) = 2 + rs t := by rw [rs]; simp
theorem yn5 : rs [92] = 2 := by rw [rs]; simp
theorem rs_c {c : UInt8} (t : List UInt8) (h1 : c ≠ 34) (h2 : c ≠ 92) : rs (c :: t) = 1 + rs t := by
 cases t with
 | nil => rw [yuz, rs, if_neg h1, if_neg h2]
 | cons d t => rw [rs, if_neg h1, if_neg h2]
theorem sind {P : List UInt8 → Prop} (h0 : P []) (h1 : ∀ t, P (34 :: t)) (h2 : P [92]) (h3 : ∀ d t, P t → P (92 :: d :: t)) (h4 : ∀ c t, c ≠ 34 → c ≠ 92 → P t → P (c :: t)) : ∀ u, P u
 | [] => h0
 | [c] => by
   by_cases a : c = 34
   · rw [a]; exact h1 _
   · by_cases b : c = 92
     · rw [b]; exact h2
     · exact h4 c [] a b h0
 | c :: d :: t => by
   by_cases a : c = 34
   · rw [a]; exact h1 _
   · by_cases b : c = 92
     · rw [b]; exact h3 d t (sind h0 h1 h2 h3 h4 t)
     · exact h4 c (d :: t) a b (sind h0 h1 h2 h3 h4 (d :: t))
theorem zoq : ∀ u x m, scan u = some (x, m) → m = rs u + 1 ∧ m ≤ u.length ∧ x.length + 1 ≤ m := by
 refine sind ?_ ?_ ?_ ?_ ?_
 ·intro x m h; rw [scan] at h; cases h
 ·intro t x m h
  rw [ztx] at h
  injection h with h
  injection h with h1 h2
  subst h1 h2
  rw [ynn]; simp
 ·intro x m h; rw [y4m] at h; cases h
 ·intro d t ih x m h
  rw [ztk] at h
  split at h
  ·cases hs : scan t with
   | none => rw [hs] at h; cases h
   | some p =>
     obtain ⟨y, k⟩ := p
     rw [hs] at h
     injection h with h
     injection h with h1 h2
     subst h1 h2
     obtain ⟨a, b, c⟩ := ih y k hs
     rw [yoi]
     simp only [List.length_cons]
     omega
  ·cases h
 ·intro c t h34 h92 ih x m h
  rw [zyz t h34 h92] at h
  cases hs : scan t with
  | none => rw [hs] at h; cases h
  | some p =>
    obtain ⟨y, k⟩ := p
    rw [hs] at h
    injection h with h
    injection h with h1 h2
    subst h1 h2
    obtain ⟨a, b, e⟩ := ih y k hs
    rw [rs_c t h34 h92]
    simp only [List.length_cons]
    omega
theorem yc5 : ∀ u, scan (u.take (rs u + 1)) = scan u := by
 refine sind ?_ ?_ ?_ ?_ ?_
 ·rfl
 ·intro t; rw [ynn, List.take_succ_cons, ztx, ztx]
 ·rw [yn5]; rfl
 ·intro d t ih
  rw [yoi, show 2 + rs t + 1 = (rs t + 1) + 1 + 1 by omega, List.take_succ_cons, List.take_succ_cons, ztk, ztk, ih]
 ·intro c t h34 h92 ih
  rw [rs_c t h34 h92, show 1 + rs t + 1 = (rs t + 1) + 1 by omega, List.take_succ_cons, zyz _ h34 h92, zyz _ h34 h92, ih]
theorem yue {s : List UInt8} (hs : s.length ≤ 100000) : ∀ N k : Nat, k ≤ s.length → s.length - k ≤ N → ∀ acc : List UInt8, acc.length + (s.length - k) ≤ 100000 →
  (∀ x m, scan (s.drop k) = some (x, m) → Ev (fun n => yz9 n ⟨s, (k : Int), true⟩ (yza acc)) (acc ++ x, ⟨s, ((k + m : Nat) : Int), true⟩)) ∧
  (scan (s.drop k) = none → ∃ a : Int, Ev (fun n => yz9 n ⟨s, (k : Int), true⟩ (yza acc)) ([], ⟨s, a, false⟩)) := by
 intro N
 induction N with
 | zero =>
   intro k hk hN acc hl
   have : k = s.length := by omega
   subst this
   rw [List.drop_length]
   refine ⟨fun x m h => (by rw [scan] at h; cases h), fun _ => ⟨(s.length : Int), ?_⟩⟩
   rw [kzu, Ev.yz1 (by simp), z3z, Ev.zz1]
 | succ N ih =>
   intro k hk hN acc hl
   by_cases hlt : k < s.length
   · have l2 : ∀ (c : UInt8) (j : Nat), (∀ r, Ev (fun n => yz9 n ⟨s, (j : Int), true⟩ (yza (acc ++ [c]))) r → Ev (fun n => yzm n (c.toNat : Int) ⟨s, (j : Int), true⟩ (yza acc)) r) := fun c j r h => by
       rw [zdt, Ev.zz0 (wb rfl (by omega))]
       exact h
     rw [drop_cons hlt]
     by_cases h34 : s[k] = 34
     · rw [h34, ztx]
       refine ⟨fun x m h => ?_, fun h => by cases h⟩
       injection h with h
       injection h with h1 h2
       subst h1 h2
       rw [kzu, Ev.kz1 (by simpa using hlt), Ev.yz2 (yzb hlt), b34, Ev.kz1 (by simpa using h34), Ev.zz0 yp1, Ev.zz1, wrk (by omega), List.append_nil]
     by_cases h92 : s[k] = 92
     · rw [h92]
       by_cases hk1 : k + 1 < s.length
       · rw [drop_cons hk1, ztk]
         by_cases hd : s[k + 1] = 34 ∨ s[k + 1] = 92
         · rw [if_pos hd]
           have go : ∀ r, Ev (fun n => yz9 n ⟨s, ((k + 2 : Nat) : Int), true⟩ (yza (acc ++ [s[k + 1]]))) r → Ev (fun n => yz9 n ⟨s, (k : Int), true⟩ (yza acc)) r := fun r h => by
             have l1 : Ev (fun n => yzi n false ⟨s, ((k + 1 : Nat) : Int), true⟩ (yza acc)) r := by
               rw [z67, Ev.yz1 (by rfl), Ev.yz2 (yzb hk1), wrk (by omega)]
               exact l2 _ _ _ h
             rw [kzu, Ev.kz1 (by simpa using hlt), Ev.yz2 (yzb hlt), b34, b92, Ev.yz1 (by simpa using h34), Ev.kz1 (by simpa using h92), wrk (by omega), Ev.yz1 (by simp; omega), Ev.yz2 (yzb hk1)]
             simp only [bne, b34, b92]
             by_cases hd34 : s[k + 1] = 34
             · rw [Ev.yz1 (by simpa using hd34)]; exact l1
             · rw [Ev.kz1 (by simpa using hd34), Ev.yz2 (yzb hk1), show (!(s[k + 1] == 92)) = false by simpa using hd.resolve_left hd34]; exact l1
           obtain ⟨i1, i2⟩ := ih (k + 2) (by omega) (by omega) (acc ++ [s[k + 1]]) (by simp; omega)
           refine ⟨fun x m h => ?_, fun h => ?_⟩
           · cases hsc : scan (s.drop (k + 2)) with
             | none => rw [show k + 1 + 1 = k + 2 by omega, hsc] at h; cases h
             | some p =>
               obtain ⟨y, j⟩ := p
               rw [show k + 1 + 1 = k + 2 by omega, hsc] at h
               injection h with h
               injection h with e1 e2
               subst e1 e2
               refine (go _ (i1 y j hsc)).to ?_
               rw [List.append_assoc, show k + 2 + j = k + (j + 2) by omega]; rfl
           · cases hsc : scan (s.drop (k + 2)) with
             | none => obtain ⟨a, ha⟩ := i2 hsc; exact ⟨a, go _ ha⟩
             | some p => rw [show k + 1 + 1 = k + 2 by omega, hsc] at h; cases h
         · rw [if_neg hd]
           refine ⟨fun x m h => (by cases h), fun _ => ⟨((k + 1 : Nat) : Int), ?_⟩⟩
           rw [kzu, Ev.kz1 (by simpa using hlt), Ev.yz2 (yzb hlt), b34, b92, Ev.yz1 (by simpa using h34), Ev.kz1 (by simpa using h92), wrk (by omega), Ev.yz1 (by simp; omega), Ev.yz2 (yzb hk1)]
           simp only [bne, b34, b92]
           rw [Ev.kz1 (by simpa using fun e => hd (.inl e)), Ev.yz2 (yzb hk1), show (!(s[k + 1] == 92)) = true by simpa using fun e => hd (.inr e), z67, Ev.kz1 (by rfl), z3z, Ev.zz1]
       · have hke : k + 1 = s.length := by omega
         rw [List.drop_of_length_le (by omega), y4m]
         refine ⟨fun x m h => (by cases h), fun _ => ⟨((k + 1 : Nat) : Int), ?_⟩⟩
         rw [kzu, Ev.kz1 (by simpa using hlt), Ev.yz2 (yzb hlt), b34, b92, Ev.yz1 (by simpa using h34), Ev.kz1 (by simpa using h92), wrk (by omega), Ev.kz1 (by simp; omega), z67, Ev.kz1 (by rfl), z3z, Ev.zz1]
     rw [zyz _ h34 h92]
     have go : ∀ r, Ev (fun n => yz9 n ⟨s, ((k + 1 : Nat) : Int), true⟩ (yza (acc ++ [s[k]]))) r → Ev (fun n => yz9 n ⟨s, (k : Int), true⟩ (yza acc)) r := fun r h => by
       rw [kzu, Ev.kz1 (by simpa using hlt), Ev.yz2 (yzb hlt), b34, b92, Ev.yz1 (by simpa using h34), Ev.yz1 (by simpa using h92), wrk (by omega)]
       exact l2 _ _ _ h
     obtain ⟨i1, i2⟩ := ih (k + 1) (by omega) (by omega) (acc ++ [s[k]]) (by simp; omega)
     refine ⟨fun x m h => ?_, fun h => ?_⟩
     · cases hsc : scan (s.drop (k + 1)) with
       | none => rw [hsc] at h; cases h
       | some p =>
         obtain ⟨y, j⟩ := p
         rw [hsc] at h
         injection h with h
         injection h with e1 e2
         subst e1 e2
         refine (go _ (i1 y j hsc)).to ?_
         rw [List.append_assoc, show k + 1 + j = k + (j + 1) by omega]; rfl
     · cases hsc : scan (s.drop (k + 1)) with
       | none => obtain ⟨a, ha⟩ := i2 hsc; exact ⟨a, go _ ha⟩
       | some p => rw [hsc] at h; cases h
   · have : k = s.length := by omega
     subst this
     rw [List.drop_length]
     refine ⟨fun x m h => (by rw [scan] at h; cases h), fun _ => ⟨(s.length : Int), ?_⟩⟩
     rw [kzu, Ev.yz1 (by simp), z3z, Ev.zz1]
theorem zy2 {s : List UInt8} {k : Nat} (hs : s.length ≤ 100000) (hk : k ≤ s.length) :
  (∀ x m, scan (s.drop k) = some (x, m) → Ev (fun n => zzl n ⟨s, (k : Int), true⟩) (x, ⟨s, ((k + m : Nat) : Int), true⟩)) ∧
  (scan (s.drop k) = none → ∃ a : Int, Ev (fun n => zzl n ⟨s, (k : Int), true⟩) ([], ⟨s, a, false⟩)) := by
 obtain ⟨h1, h2⟩ := yue hs s.length k hk (by omega) [] (by simp; omega)
 refine ⟨fun x m h => ?_, fun h => ?_⟩
 ·rw [zbb]; exact h1 x m h
 ·obtain ⟨a, ha⟩ := h2 h
  exact ⟨a, by rw [zbb]; exact ha⟩
end Go.Proofs.YtfhpamcehnfhoaaGreatDoor


namespace Go.Proofs.YtfhpamcehnfhoaaGreatDoor
open Go Go.Ab
set_option linter.unusedVariables false
set_option linter.unusedSimpArgs false
theorem zvw : ∀ v : yz0, z8k v = true → v.size ≤ 68 * zb4 v := zw4 fun v ih h => by
 have hl : ∀ l : List yz0, (∀ x ∈ l, x ∈ v.list) → (l.map yz0.size).sum ≤ 68 * z5e l := fun l => by
  induction l with
  | nil => intro _; simp
  | cons x l ihl =>
    intro hm
    have h1 := ih x (hm x List.mem_cons_self) (zpg h x (hm x List.mem_cons_self))
    have h2 := ihl fun y hy => hm y (List.mem_cons_of_mem _ hy)
    simp [z5e]; omega
 have hl := hl v.list fun _ h => h
 rw [yz0.size_eq, zz2.size_eq, zdb]
 rw [z7i] at h
 split at h
 ·rename_i hk
  simp only [Bool.and_eq_true, List.isEmpty_iff] at h
  rw [if_neg (by omega), h.2.2.1, h.2.2.2]; simp
 split at h
 ·simp only [Bool.and_eq_true, List.isEmpty_iff] at h
  rw [if_neg (by omega), h.2.1, h.2.2]; simp
 split at h
 ·simp only [Bool.and_eq_true, List.isEmpty_iff, decide_eq_true_eq] at h
  rw [if_neg (by omega), h.2.2.1]
  have := h.2.2.2.1
  simp; omega
 split at h
 ·rename_i hk
  simp only [Bool.and_eq_true, List.isEmpty_iff] at h
  rw [if_pos hk, h.2.2.1]
  simp; omega
 ·cases h
theorem zlc {r : zz2} (h : nul r = true) : r.wf := by
 simp only [nul, Bool.and_eq_true, beq_iff_eq] at h
 rw [zz2.z99, h.1, h.2]; decide
theorem ymn {r : zz2} (h : rok r = true) : r.wf := by
 rw [z68] at h
 rw [zz2.z99, show IntKind.i64.min = -9223372036854775808 from by decide, show IntKind.i64.max = 9223372036854775807 from by decide]
 omega
theorem y69 : ∀ v : yz0, z8k v = true → v.wf := zw4 fun v ih h => by
 have hl : ∀ x ∈ v.list, x.wf := fun x hx => ih x hx (zpg h x hx)
 have hk := zcl h
 have hn : v.num.wf := by
  rw [z7i] at h
  split at h
  ·simp only [Bool.and_eq_true] at h; exact ymn h.1
  split at h
  ·simp only [Bool.and_eq_true] at h; exact zlc h.1
  split at h
  ·simp only [Bool.and_eq_true] at h; exact zlc h.1
  split at h
  ·simp only [Bool.and_eq_true] at h; exact zlc h.1
  ·cases h
 rw [yz0.z99]
 refine ⟨?_, hn, trivial, trivial, hl⟩
 simp only [IntKind.min, IntKind.max, IntKind.signed, IntKind.bits]
 rcases hk with h | h | h | h <;> rw [h] <;> decide
theorem vok {v : yz0} (h : z1l v = 0) : v.wf ∧ v.size ≤ 6800 := by
 obtain ⟨h1, h2, _⟩ := z9n h
 have := zvw v h1
 exact ⟨y69 v h1, by omega⟩
theorem yg6 {a b : Nat} : mnI (a : Int) (b : Int) = ((min a b : Nat) : Int) := by unfold mnI; split <;> omega
def zi3 (r : zz2) : yz0 := ⟨1, r, false, [], []⟩
def zfy (b : Bool) : yz0 := ⟨2, ⟨0, 0⟩, b, [], []⟩
theorem zl6 {b : Bool} : Ev (fun n => z6v n b) (zfy b) := by rw [znv, Ev.zz1]; rfl
def y61 : List UInt8 := [48, 49, 50, 51, 52, 53, 54, 55, 56, 57, 47, 45]
def isNum (c : UInt8) : Bool := y61.any (· == c)
theorem zmw (c d : UInt8) : (c == d) = decide (c.toNat = d.toNat) := by
 rw [Bool.eq_iff_iff, beq_iff_eq, decide_eq_true_eq, UInt8.toNat_inj]
theorem zo5 {c : UInt8} : isNum c = true ↔ (48 ≤ c.toNat ∧ c.toNat ≤ 57) ∨ c.toNat = 47 ∨ c.toNat = 45 := by
 unfold isNum y61
 simp only [List.any_cons, List.any_nil, zmw, Bool.or_eq_true, decide_eq_true_eq, Bool.false_eq_true, or_false, show (48 : UInt8).toNat = 48 by rfl, show (49 : UInt8).toNat = 49 by rfl, show (50 : UInt8).toNat = 50 by rfl, show (51 : UInt8).toNat = 51 by rfl, show (52 : UInt8).toNat = 52 by rfl, show (53 : UInt8).toNat = 53 by rfl, show (54 : UInt8).toNat = 54 by rfl, show (55 : UInt8).toNat = 55 by rfl, show (56 : UInt8).toNat = 56 by rfl, show (57 : UInt8).toNat = 57 by rfl, show (47 : UInt8).toNat = 47 by rfl, show (45 : UInt8).toNat = 45 by rfl]
 omega
theorem zoz (c : UInt8) : ∃ k : Int, Ev (fun n => kzy n [48, 49, 50, 51, 52, 53, 54, 55, 56, 57, 47, 45] (c.toNat : Int)) k ∧ decide (k ≥ 0) = isNum c := by
 have hi : Ev (fun n => yzo n y61 (c.toNat : Int)) (Lib.indexByte y61 c) := ⟨0, fun _ _ => by
  show some _ = some _
  rw [show ((c.toNat : Int)).toNat.toUInt8 = c by simp]⟩
 refine ⟨_, by rw [zd3]; exact (Ev.zz0 hi).2 (Ev.zz1.2 rfl), ?_⟩
 rw [zy6]
 unfold isNum
 cases y61.any (· == c)
 ·rfl
 ·simp
def zed (x : List UInt8) : yz0 := ⟨3, ⟨0, 0⟩, false, x, []⟩
theorem yjh {t s : List UInt8} {k : Nat} {b : Bool} (hs : s.length ≤ 100000) (hk : k ≤ s.length) : Ev (fun n => kz9 n t ⟨s, (k : Int), b⟩) (if t.isPrefixOf (s.drop k) then (true, ⟨s, ((k + t.length : Nat) : Int), b⟩) else (false, ⟨s, (k : Int), b⟩)) := by
 rw [zcb, Ev.yz2 (zb8 hk (Nat.le_refl _)), List.take_length, Ev.zz0 zph]
 cases hp : t.isPrefixOf (s.drop k)
 ·rw [Ev.kz1 (by rfl), Ev.zz1]; rfl
 ·have := zxh hp
  rw [List.length_drop] at this
  rw [Ev.yz1 (by rfl), Ev.zz1, if_pos rfl]
  dsimp only
  rw [wI (by omega), Int.natCast_add]
theorem zbf {t s : List UInt8} {k : Nat} {b : Bool} (hs : s.length ≤ 100000) (hk : k ≤ s.length) (h : t.isPrefixOf (s.drop k) = false) : Ev (fun n => kz9 n t ⟨s, (k : Int), b⟩) (false, ⟨s, (k : Int), b⟩) := (yjh hs hk).to (by rw [h]; rfl)
theorem yey {t s : List UInt8} {k : Nat} {b : Bool} (hs : s.length ≤ 100000) (hk : k ≤ s.length) (h : t.isPrefixOf (s.drop k) = true) : Ev (fun n => kz9 n t ⟨s, (k : Int), b⟩) (true, ⟨s, ((k + t.length : Nat) : Int), b⟩) := (yjh hs hk).to (by rw [h]; rfl)
theorem y4c (x : List UInt8) : (zed x).wf := by
 rw [yz0.z99]
 refine ⟨⟨by show IntKind.u8.min ≤ 3; decide, by show 3 ≤ IntKind.u8.max; decide⟩, ?_, trivial, trivial, fun y hy => by cases hy⟩
 exact zlc (r := ⟨0, 0⟩) rfl
theorem ztw (x : List UInt8) : (zed x).size ≤ x.length + 20 := by
 rw [yz0.size_eq]
 show 1 + zz2.size ⟨0, 0⟩ + 1 + (x.length + 1) + ((List.map yz0.size []).sum + 1) + 1 ≤ _
 rw [zz2.size_eq]
 simp only [List.map_nil, List.sum_nil]
 omega
theorem zq7 {r : zz2} (h : rok r = true) : z1l (zi3 r) = 0 := by
 have hf : z8k (zi3 r) = true := by
  rw [z7i]
  simp [zi3, h]
 unfold z1l
 rw [if_neg, if_pos hf]
 rw [zdb, zor]
 simp [zi3]
theorem zjn {u : List UInt8} (hu : u.length + 1 ≤ 4000) : Ev (fun n => z10 n (34 :: u)) (match scan u with
  | some (x, m) => if m = u.length ∧ z1l (zed x) = 0 then (0, zed x) else (12, v0)
  | none => (12, v0)) := by
 have hl : (34 :: u).length ≤ 100000 := by simp; omega
 have hq := zy2 (s := 34 :: u) (k := 1) hl (by simp)
 rw [List.drop_succ_cons, List.drop_zero] at hq
 have l0 : ∀ v : yz0, Ev (fun n => z0n n true ⟨0, ⟨0, 0⟩, false, [], []⟩ v) (12, v0) := fun v => by
  rw [z2e, Ev.kz1 (by rfl), Ev.zz1]; rfl
 have hv : ∀ x q, Ev (fun n => zzl n ⟨34 :: u, ((1 : Nat) : Int), true⟩) (x, q) → Ev (fun n => zzk n 6 ⟨34 :: u, ((0 : Nat) : Int), true⟩) (q, zed x) := fun x q h => by
  rw [z6d, Ev.yz1 (by rfl), Ev.zz0 (zbf hl (Nat.zero_le _) (by rfl)), Ev.yz1 (by rfl), Ev.zz0 (zbf hl (Nat.zero_le _) (by rfl)), Ev.yz1 (by rfl), Ev.zz0 (yey hl (Nat.zero_le _) (by simp [List.isPrefixOf])), Ev.kz1 (by rfl)]
  refine (Ev.zz0 h).2 ?_
  rw [Ev.zz1]; rfl
 rw [zcg, Ev.yz1 (by simp; omega)]
 cases hs : scan u with
 | none =>
   obtain ⟨a, ha⟩ := hq.2 hs
   refine (Ev.zz0 (hv _ _ ha)).2 ?_
   rw [Ev.kz1 (by rfl)]
   exact l0 _
 | some p =>
   obtain ⟨x, m⟩ := p
   have hx := hq.1 x m hs
   obtain ⟨e1, e2, e3⟩ := zoq u x m hs
   refine (Ev.zz0 (hv _ _ hx)).2 ?_
   dsimp only
   rw [Ev.yz1 (by rfl)]
   by_cases hm : m = u.length
   · have hc := zce (y4c x) (by have := ztw x; omega)
     rw [Ev.yz1 (by simp; omega), yz0.kz2, Ev.zz0 hc]
     by_cases hk : z1l (zed x) = 0
     · rw [if_pos ⟨hm, hk⟩, hk, z2e, Ev.yz1 (by rfl), Ev.zz1, yz0.kz2]
     · rw [if_neg fun h => hk h.2, show (z1l (zed x) != 0) = true by simpa using hk]
       exact l0 _
   · rw [if_neg fun h => hm h.1, Ev.kz1 (by simp; omega)]
     exact l0 _
theorem ylp {c : UInt8} {p w : List UInt8} (h : isNum c = false) (hn : w.all isNum = true) : (c :: p).isPrefixOf w = false := by
 cases w with
 | nil => rfl
 | cons d t =>
   simp only [List.all_cons, Bool.and_eq_true] at hn
   simp only [List.isPrefixOf, Bool.and_eq_false_iff, beq_eq_false_iff_ne]
   exact .inl fun e => by rw [e, hn.1] at h; cases h
theorem zi7 {w : List UInt8} (hl : w.length ≤ 100000) : ∃ c r, Ev (fun n => z1q n w) (c, r) ∧ (c == 0) = decide ((z25 w).1 = 0) ∧ ((z25 w).1 = 0 → rok r = true ∧ r = (z25 w).2) := by
 obtain ⟨c, r, h1, h2⟩ := y26 (w := w) (by omega)
 refine ⟨c, r, h1, ?_⟩
 rcases h2 with ⟨a, b, d⟩ | ⟨a, b⟩
 ·have := zpi b
  rw [d] at this
  rw [this, a]
  exact ⟨rfl, fun _ => ⟨b, rfl⟩⟩
 ·have hn : (z25 w).1 ≠ 0 := fun h => b _ (zax h).1 (zax h).2
  rw [a, decide_eq_false hn]
  exact ⟨rfl, fun h => (hn h).elim⟩
theorem zjc {w : List UInt8} (hl : w.length ≤ 4000) (hn : w.all isNum = true) : Ev (fun n => z10 n w) (if (z25 w).1 = 0 then (0, zi3 (z25 w).2) else (12, v0)) := by
 have hs : w.length ≤ 100000 := by omega
 have nop : ∀ (c : UInt8) (p : List UInt8), isNum c = false → (c :: p).isPrefixOf (w.drop 0) = false := fun c p h => ylp h hn
 obtain ⟨c, r, h1, h2, h3⟩ := zi7 hs
 have loop : ∀ k, k ≤ w.length → Ev (fun n => yzk n (k : Int) ⟨w, ((0 : Nat) : Int), true⟩ 0 0 0 false [] []) (⟨w, (w.length : Int), c == 0⟩, zi3 r) :=
  down (by
   rw [z4g, Ev.yz1 (by simp), z4j, Ev.yz1 (by rfl)]
   dsimp only
   rw [Ev.yz2 (zb8 (Nat.zero_le _) (Nat.le_refl _)), List.take_length, List.drop_zero, Ev.zz0 h1, Ev.kz1 (by rfl), z9x, Ev.zz1]
   rfl) fun k hk ih => by
   obtain ⟨j, hj, hjn⟩ := zoz w[k]
   rw [z4g, Ev.kz1 (by simpa using hk), Ev.yz2 (yzb hk), Ev.zz0 hj, hjn, List.all_eq_true.1 hn _ (List.getElem_mem hk), z4j, Ev.kz1 (by rfl), wrk (by omega)]
   exact ih
 have hv : Ev (fun n => zzk n 6 ⟨w, ((0 : Nat) : Int), true⟩) (⟨w, (w.length : Int), c == 0⟩, zi3 r) := by
  rw [z6d, Ev.yz1 (by rfl), Ev.zz0 (zbf hs (Nat.zero_le _) (nop _ _ (by decide))), Ev.yz1 (by rfl), Ev.zz0 (zbf hs (Nat.zero_le _) (nop _ _ (by decide))), Ev.yz1 (by rfl), Ev.zz0 (zbf hs (Nat.zero_le _) (nop _ _ (by decide))), Ev.yz1 (by rfl), Ev.zz0 (zbf hs (Nat.zero_le _) (nop _ _ (by decide))), Ev.yz1 (by rfl), Ev.zz0 (zbf hs (Nat.zero_le _) (nop _ _ (by decide))), Ev.yz1 (by rfl), za1]
  exact loop 0 (Nat.zero_le _)
 rw [zcg, Ev.yz1 (by simp; omega)]
 refine (Ev.zz0 hv).2 ?_
 dsimp only
 by_cases hz : (z25 w).1 = 0
 ·obtain ⟨q1, q2⟩ := h3 hz
  rw [decide_eq_true hz] at h2
  have hc := zq7 q1
  have hk := zce (vok hc).1 (by have := (vok hc).2; omega)
  rw [hc] at hk
  rw [h2, Ev.yz1 (by rfl), Ev.yz1 (by simp), yz0.kz2, Ev.zz0 hk, z2e, Ev.yz1 (by rfl), Ev.zz1, if_pos hz, yz0.kz2, q2]
 ·rw [decide_eq_false hz] at h2
  rw [h2, Ev.kz1 (by rfl), z2e, Ev.kz1 (by rfl), Ev.zz1, if_neg hz]; rfl
def lit (u : List UInt8) : Option (yz0 × List UInt8) :=
 if u.head? = some 34 then
  match scan u.tail with
  | some (x, m) => if z1l (zed x) = 0 then some (zed x, u.drop (m + 1)) else none
  | none => none
 else if (z25 (u.takeWhile isNum)).1 = 0 then some (zi3 (z25 (u.takeWhile isNum)).2, u.drop (u.takeWhile isNum).length) else none
def ymd : Option (yz0 × List UInt8) → Res (Int × Unit) (yz3 × kz0)
 | some (v, t) => .ok (⟨t⟩, ⟨1, v, [], []⟩)
 | none => .pan (12, ())
theorem yer : Ev (fun n => kzq n 0) (.ok ()) := by rw [zg1, Ev.yz1 (by rfl), Ev.zz1]
theorem zfm {e : Int} (h : e ≠ 0) : Ev (fun n => kzq n e) (.pan (e, ())) := by rw [zg1, Ev.kz1 (by simpa using h), Ev.zz1]
theorem zl2 {u : List UInt8} {k : Nat} (hk : k ≤ u.length) (hu : u.length ≤ 4000) {c : Int} {v : yz0} {e : kz0} (h : Ev (fun n => z10 n (u.take k)) (c, v)) (hc : c = 0 ∨ c = 12) : Ev (fun n => yz7 n (k : Int) ⟨u⟩ e) (ymd (if c = 0 then some (v, u.drop k) else none)) := by
 rw [z9d]
 dsimp only
 rw [Ev.yz2 (zd8 hk), Ev.zz0 h]
 rcases hc with hc | hc
 ·subst hc
  rw [Ev.zz0 yer]
  show Ev _ _
  refine Ev.z7h.2 ?_
  rw [Ev.yz2 (zb8 hk (Nat.le_refl _)), List.take_length, Ev.zz1, yz0.kz2]
  rfl
 ·subst hc
  rw [Ev.zz0 (zfm (e := 12) (by decide))]
  refine Ev.z7t.2 ?_
  rw [Ev.zz1]; rfl
theorem ymw {u : List UInt8} (hu : u.length ≤ 4000) {e : kz0} {r} : ∀ N k : Nat, k ≤ u.length → u.length - k ≤ N → Ev (fun n => yz7 n ((min (k + rs (u.drop k) + 1) u.length : Nat) : Int) ⟨u⟩ e) r → Ev (fun n => zzi n (k : Int) ⟨u⟩ e) r := by
 have fin : ∀ k : Nat, k ≤ u.length + 1 → Ev (fun n => yz7 n ((min (k + 1) u.length : Nat) : Int) ⟨u⟩ e) r → Ev (fun n => zzj n (k : Int) false ⟨u⟩ e) r := fun k hk h => by
  rw [z3w, Ev.yz1 (by rfl), wrk (by omega), yg6, kz0.kz2]
  exact h
 intro N
 induction N with
 | zero =>
   intro k hk hN h
   have : k = u.length := by omega
   subst this
   rw [List.drop_length, rs] at h
   rw [zzm, Ev.yz1 (by simp), kz0.kz2]
   exact fin _ (by omega) h
 | succ N ih =>
   intro k hk hN h
   by_cases hlt : k < u.length
   · rw [zzm, Ev.kz1 (by simpa using hlt), Ev.yz2 (yzb hlt)]
     simp only [bne, b34]
     rw [drop_cons hlt] at h
     by_cases h34 : u[k] = 34
     · rw [h34, ynn] at h
       rw [show (!(u[k] == 34)) = false by simpa using h34, kz0.kz2]
       exact fin _ (by omega) h
     · rw [show (!(u[k] == 34)) = true by simpa using h34, z3w, Ev.kz1 (by rfl), Ev.yz2 (yzb hlt), b92]
       by_cases h92 : u[k] = 92
       · rw [h92] at h
         rw [Ev.kz1 (by simpa using h92), wrk (by omega), z3y, wrk (by omega)]
         simp only [kz0.kz2]
         by_cases hk1 : k + 1 < u.length
         · rw [drop_cons hk1, yoi] at h
           refine ih (k + 2) (by omega) (by omega) ?_
           rw [show k + 2 + rs (u.drop (k + 2)) + 1 = k + (2 + rs (u.drop (k + 1 + 1))) + 1 by show k + 2 + rs (u.drop (k + 2)) + 1 = k + (2 + rs (u.drop (k + 2))) + 1; omega]
           exact h
         · rw [List.drop_of_length_le (by omega), yn5] at h
           rw [zzm, Ev.yz1 (by simp; omega), kz0.kz2]
           refine fin _ (by omega) ?_
           rw [show min (k + 1 + 1 + 1) u.length = min (k + 2 + 1) u.length by omega]
           exact h
       · rw [rs_c _ h34 h92] at h
         rw [Ev.yz1 (by simpa using h92), z3y, wrk (by omega)]
         simp only [kz0.kz2]
         refine ih (k + 1) (by omega) (by omega) ?_
         rw [show k + 1 + rs (u.drop (k + 1)) + 1 = k + (1 + rs (u.drop (k + 1))) + 1 by omega]
         exact h
   · have : k = u.length := by omega
     subst this
     rw [List.drop_length, rs] at h
     rw [zzm, Ev.yz1 (by simp), kz0.kz2]
     exact fin _ (by omega) h
theorem zn0 {p : UInt8 → Bool} {u : List UInt8} {k : Nat} (hk : k < u.length) (h : p u[k] = true) : ((u.drop k).takeWhile p).length = ((u.drop (k + 1)).takeWhile p).length + 1 := by
 rw [drop_cons hk, List.takeWhile_cons, if_pos h, List.length_cons]
theorem zms {p : UInt8 → Bool} {u : List UInt8} {k : Nat} (hk : k < u.length) (h : p u[k] = false) : ((u.drop k).takeWhile p).length = 0 := by
 rw [drop_cons hk, List.takeWhile_cons, if_neg (by simp [h]), List.length_nil]
theorem ylf {u : List UInt8} (hu : u.length ≤ 4000) {e : kz0} {r} : ∀ k : Nat, k ≤ u.length → Ev (fun n => yz7 n ((k + ((u.drop k).takeWhile isNum).length : Nat) : Int) ⟨u⟩ e) r → Ev (fun n => kzi n (k : Int) ⟨u⟩ e) r :=
 down (fun h => by
  rw [List.drop_length] at h
  rw [z3s, Ev.yz1 (by simp), z3u, Ev.yz1 (by rfl)]
  simp only [kz0.kz2]
  exact h) fun k hk ih h => by
  obtain ⟨j, hj, hjn⟩ := zoz u[k]
  rw [z3s, Ev.kz1 (by simpa using hk), Ev.yz2 (yzb hk), Ev.zz0 hj, hjn, z3u]
  simp only [kz0.kz2]
  cases hc : isNum u[k]
  ·rw [zms hk hc] at h
   rw [Ev.yz1 (by rfl)]
   exact h
  ·rw [zn0 hk hc] at h
   rw [Ev.kz1 (by rfl), wrk (by omega)]
   refine ih ?_
   rw [show k + 1 + ((u.drop (k + 1)).takeWhile isNum).length = k + (((u.drop (k + 1)).takeWhile isNum).length + 1) by omega]
   exact h
theorem zkg (p : UInt8 → Bool) (u : List UInt8) : u.take (u.takeWhile p).length = u.takeWhile p := by
 induction u with
 | nil => rfl
 | cons c u ih =>
   rw [List.takeWhile_cons]
   split
   · rw [List.length_cons, List.take_succ_cons, ih]
   · rfl
theorem ym5 (p : UInt8 → Bool) (u : List UInt8) : (u.takeWhile p).all p = true := by
 induction u with
 | nil => rfl
 | cons c u ih =>
   rw [List.takeWhile_cons]
   split
   · rename_i h; rw [List.all_cons, h, ih]; rfl
   · rfl
theorem yll (p : UInt8 → Bool) (u : List UInt8) : (u.takeWhile p).length ≤ u.length := (List.takeWhile_prefix _).length_le
theorem zq2 {u : List UInt8} (hu : u.length ≤ 4000) : Ev (fun n => zzx n ⟨u⟩) (ymd (lit u)) := by
 rw [zb6, Ev.zz0 zph]
 unfold lit
 by_cases h34 : u.head? = some 34
 ·rw [if_pos h34]
  cases u with
  | nil => cases h34
  | cons c t =>
    have hc : c = 34 := Option.some.inj h34
    subst hc
    rw [Ev.kz1 (by simp [List.isPrefixOf])]
    rw [List.length_cons] at hu
    refine ymw (k := 1) (by simpa using hu) _ (by simp) (Nat.le_refl _) ?_
    rw [List.drop_succ_cons, List.drop_zero, List.tail_cons]
    have hp := zjn (u := t.take (rs t + 1)) (by simp; omega)
    have hj : min (1 + rs t + 1) (34 :: t).length = (t.take (rs t + 1)).length + 1 := by simp; omega
    have ht : (34 :: t).take ((t.take (rs t + 1)).length + 1) = 34 :: t.take (rs t + 1) := by
      rw [List.take_succ_cons, List.length_take, List.take_eq_take_min (i := rs t + 1)]
    rw [yc5] at hp
    rw [hj]
    cases hs : scan t with
    | none =>
      rw [hs] at hp
      have := zl2 (u := 34 :: t) (k := (t.take (rs t + 1)).length + 1) (by simp; omega) (by simpa using hu) (e := ⟨0, ⟨0, ⟨0, 0⟩, false, [], []⟩, [], []⟩) (by rw [ht]; exact hp) (.inr rfl)
      exact this
    | some p =>
      obtain ⟨x, m⟩ := p
      obtain ⟨e1, e2, e3⟩ := zoq t x m hs
      rw [hs] at hp
      have hm : m = (t.take (rs t + 1)).length := by simp; omega
      dsimp only at hp ⊢
      by_cases hv : z1l (zed x) = 0
      · rw [if_pos ⟨hm, hv⟩] at hp
        have := zl2 (u := 34 :: t) (k := (t.take (rs t + 1)).length + 1) (by simp; omega) (by simpa using hu) (e := ⟨0, ⟨0, ⟨0, 0⟩, false, [], []⟩, [], []⟩) (by rw [ht]; exact hp) (.inl rfl)
        rw [if_pos hv, hm]
        exact this
      · rw [if_neg fun h => hv h.2] at hp
        have := zl2 (u := 34 :: t) (k := (t.take (rs t + 1)).length + 1) (by simp; omega) (by simpa using hu) (e := ⟨0, ⟨0, ⟨0, 0⟩, false, [], []⟩, [], []⟩) (by rw [ht]; exact hp) (.inr rfl)
        rw [if_neg hv]
        exact this
 ·rw [if_neg h34]
  have hp : ([34] : List UInt8).isPrefixOf u = false := by
   cases u with
   | nil => rfl
   | cons c t =>
     simp only [List.isPrefixOf, Bool.and_true, beq_eq_false_iff_ne]
     exact fun e => h34 (by rw [← e]; rfl)
  rw [hp, Ev.yz1 (by rfl)]
  refine ylf hu 0 (Nat.zero_le _) ?_
  rw [List.drop_zero, Nat.zero_add]
  have hl := yll isNum u
  have hv := zjc (w := u.takeWhile isNum) (by omega) (ym5 _ _)
  by_cases hz : (z25 (u.takeWhile isNum)).1 = 0
  ·rw [if_pos hz] at hv ⊢
   exact zl2 hl hu (by rw [zkg]; exact hv) (.inl rfl)
  ·rw [if_neg hz] at hv ⊢
   exact zl2 hl hu (by rw [zkg]; exact hv) (.inr rfl)
end Go.Proofs.YtfhpamcehnfhoaaGreatDoor


namespace Go.Proofs.YtfhpamcehnfhoaaGreatDoor
open Go Go.Ab
set_option linter.unusedVariables false
set_option linter.unusedSimpArgs false
end Go.Proofs.YtfhpamcehnfhoaaGreatDoor


namespace Go.Proofs.YtfhpamcehnfhoaaGreatDoor
open Go Go.Ab
set_option linter.unusedVariables false
set_option linter.unusedSimpArgs false
def E0 : kz0 := ⟨0, ⟨0, ⟨0, 0⟩, false, [], []⟩, [], []⟩
def zjv (op : Int) (l : List kz0) : kz0 := ⟨op, v0, [], l⟩
theorem ykc {t u : List UInt8} : Ev (fun n => kz7 n t ⟨u⟩) (t.isPrefixOf u, ⟨if t.isPrefixOf u then u.drop t.length else u⟩) := by
 rw [zdv, Ev.zz0 zol, Ev.zz1]
theorem zg8 {t u : List UInt8} (h : t.isPrefixOf u = true) : Ev (fun n => kz7 n t ⟨u⟩) (true, ⟨u.drop t.length⟩) := ykc.to (by rw [h]; rfl)
theorem z9k {t u : List UInt8} (h : t.isPrefixOf u = false) : Ev (fun n => kz7 n t ⟨u⟩) (false, ⟨u⟩) := ykc.to (by rw [h]; rfl)
theorem zy1 {t u : List UInt8} (h : t.isPrefixOf u = true) : Ev (fun n => yzc n t ⟨u⟩) (.ok ⟨u.drop t.length⟩) := by
 rw [za5, Ev.zz0 (zg8 h), Ev.yz1 (by rfl), Ev.zz1]
theorem zac {c : UInt8} {u : List UInt8} : ([c] : List UInt8).isPrefixOf u = (u.head? == some c) := by
 cases u with
 | nil => rfl
 | cons d t =>
   simp only [List.isPrefixOf, Bool.and_true, List.head?_cons]
   rw [Bool.eq_iff_iff, beq_iff_eq, beq_iff_eq]
   exact ⟨fun h => by rw [h], fun h => (Option.some.inj h).symm⟩
theorem u8k {k : Nat} (h : k < 255) : IntKind.u8.wrap ((k : Int) + 1) = ((k + 1 : Nat) : Int) := by rw [w8 (by omega)]; rfl
end Go.Proofs.YtfhpamcehnfhoaaGreatDoor


namespace Go.Proofs.YtfhpamcehnfhoaaGreatDoor
open Go Go.Ab
set_option linter.unusedVariables false
set_option linter.unusedSimpArgs false
def nm : List UInt8 → List UInt8
 | [] => []
 | c :: t => if isLet c = true then c :: t.takeWhile z1j else []
theorem zki (c : UInt8) (t : List UInt8) : nm (c :: t) = if isLet c = true then c :: t.takeWhile z1j else [] := rfl
theorem zu5 (u : List UInt8) : u.take (nm u).length = nm u := by
 cases u with
 | nil => rfl
 | cons c t =>
   rw [zki]
   split
   · rw [List.length_cons, List.take_succ_cons, zkg]
   · rfl
theorem ygs (u : List UInt8) : (nm u).length ≤ u.length := by
 have := congrArg List.length (zu5 u)
 rw [List.length_take] at this
 omega
theorem zkt {c : UInt8} : isLet c = true ↔ 97 ≤ c.toNat ∧ c.toNat ≤ 122 := by unfold isLet; simp
theorem y1m {c : UInt8} : z1j c = true ↔ (97 ≤ c.toNat ∧ c.toNat ≤ 122) ∨ c.toNat = 45 ∨ (48 ≤ c.toNat ∧ c.toNat ≤ 57) := by
 unfold z1j
 rw [Bool.or_eq_true, Bool.or_eq_true, zkt, z7s, zmw, decide_eq_true_eq, show (45 : UInt8).toNat = 45 by rfl]
 omega
def zju (c : UInt8) (k : Nat) : Bool := if k = 0 then isLet c else z1j c
theorem y09 {c : UInt8} {k : Nat} : zju c k = true ↔ (97 ≤ c.toNat ∧ c.toNat ≤ 122) ∨ (0 < k ∧ (c.toNat = 45 ∨ (48 ≤ c.toNat ∧ c.toNat ≤ 57))) := by
 unfold zju
 split
 ·rw [zkt]; omega
 ·rw [y1m]; omega
theorem z5n {c : UInt8} {k : Nat} {b : Bool} (h : b = true ↔ (97 ≤ c.toNat ∧ c.toNat ≤ 122) ∨ (0 < k ∧ (c.toNat = 45 ∨ (48 ≤ c.toNat ∧ c.toNat ≤ 57)))) : zju c k = b := by
 rw [Bool.eq_iff_iff, y09, h]
theorem zl9 {u : List UInt8} {d : Int} {e : kz0} {k : Nat} {r} (hk : k < u.length) (h : Ev (fun n => zz5 n d (k : Int) (zju u[k] k) ⟨u⟩ e) r) : Ev (fun n => zzd n (k : Int) d ⟨u⟩ e) r := by
 rw [z1f, Ev.kz1 (by simpa using hk), Ev.yz2 (yzb hk)]
 simp only [kz0.kz2]
 by_cases h97 : 97 ≤ u[k].toNat
 ·rw [Ev.kz1 (by simp; omega), Ev.yz2 (yzb hk)]
  by_cases h122 : u[k].toNat ≤ 122
  ·rw [z5n (b := true) (by simp; omega)] at h
   rw [Ev.kz1 (by simp; omega)]
   exact h
  ·rw [z5n (b := false) (by simp; omega)] at h
   rw [Ev.yz1 (by simp; omega)]
   by_cases h0 : 0 < k
   ·rw [Ev.kz1 (by simp; omega), Ev.yz2 (yzb hk), Ev.yz1 (by simp; omega), Ev.yz2 (yzb hk), Ev.kz1 (by simp; omega), Ev.yz2 (yzb hk), show decide (((u[k].toNat : Nat) : Int) ≤ 57) = false by simp; omega]
    exact h
   ·rw [Ev.yz1 (by simp; omega)]
    exact h
 ·rw [Ev.yz1 (by simp; omega)]
  by_cases h0 : 0 < k
  ·rw [Ev.kz1 (by simp; omega), Ev.yz2 (yzb hk)]
   by_cases h45 : u[k].toNat = 45
   ·rw [z5n (b := true) (by simp; omega)] at h
    rw [Ev.kz1 (by simp; omega)]
    exact h
   ·rw [Ev.yz1 (by simp; omega), Ev.yz2 (yzb hk)]
    by_cases h48 : 48 ≤ u[k].toNat
    ·rw [Ev.kz1 (by simp; omega), Ev.yz2 (yzb hk)]
     rw [z5n (b := decide (((u[k].toNat : Nat) : Int) ≤ 57)) (by simp; omega)] at h
     exact h
    ·rw [z5n (b := false) (by simp; omega)] at h
     rw [Ev.yz1 (by simp; omega)]
     exact h
  ·rw [z5n (b := false) (by simp; omega)] at h
   rw [Ev.yz1 (by simp; omega)]
   exact h
theorem zvv {u : List UInt8} {d : Int} {e : kz0} {r} (hu : u.length ≤ 4000) : ∀ k, k ≤ u.length → 0 < k → Ev (fun n => zz5 n d ((k + ((u.drop k).takeWhile z1j).length : Nat) : Int) false ⟨u⟩ e) r → Ev (fun n => zzd n (k : Int) d ⟨u⟩ e) r :=
 down (fun hk h => by
  rw [List.drop_length] at h
  rw [z1f, Ev.yz1 (by simp), kz0.kz2]
  exact h) fun k hk ih h0 h => by
  refine zl9 hk ?_
  unfold zju
  rw [if_neg (by omega)]
  cases hc : z1j u[k]
  ·rw [zms hk hc] at h
   exact h
  ·rw [zn0 hk hc] at h
   rw [yzw, Ev.kz1 (by rfl), wrk (by omega), kz0.kz2]
   refine ih (by omega) ?_
   rw [show k + 1 + ((u.drop (k + 1)).takeWhile z1j).length = k + (((u.drop (k + 1)).takeWhile z1j).length + 1) by omega]
   exact h
theorem yro {u : List UInt8} {d : Int} {e : kz0} {r} (hu : u.length ≤ 4000) (h : Ev (fun n => zz5 n d ((nm u).length : Int) false ⟨u⟩ e) r) : Ev (fun n => zzd n 0 d ⟨u⟩ e) r := by
 cases u with
 | nil =>
   rw [z1f, Ev.yz1 (by rfl), kz0.kz2]
   exact h
 | cons c t =>
   refine zl9 (k := 0) (by simp) ?_
   rw [show zju (c :: t)[0] 0 = isLet c by rfl]
   rw [zki] at h
   cases hc : isLet c
   · rw [if_neg (by simp [hc])] at h
     exact h
   · rw [if_pos hc, List.length_cons] at h
     rw [yzw, Ev.kz1 (by rfl), show IntKind.i64.wrap (((0 : Nat) : Int) + 1) = ((1 : Nat) : Int) by rfl, kz0.kz2]
     refine zvv hu 1 (by simp) (by decide) ?_
     rw [List.drop_succ_cons, List.drop_zero, show 1 + (t.takeWhile z1j).length = (t.takeWhile z1j).length + 1 by omega]
     exact h
theorem y08 (i : Nat) (h : i < 7) : z4q (((11 + i : Nat)) : Int) = z3l[i]'h := by
 rcases (show i = 0 ∨ i = 1 ∨ i = 2 ∨ i = 3 ∨ i = 4 ∨ i = 5 ∨ i = 6 by omega) with rfl | rfl | rfl | rfl | rfl | rfl | rfl <;> rfl
def zp1 (v : yz0) : kz0 := ⟨1, v, [], []⟩
def ypt (name : List UInt8) : kz0 := ⟨2, v0, name, []⟩
end Go.Proofs.YtfhpamcehnfhoaaGreatDoor


namespace Go.Proofs.YtfhpamcehnfhoaaGreatDoor
open Go Go.Ab
set_option linter.unusedVariables false
set_option linter.unusedSimpArgs false
theorem y3y {d : Nat} (h : d ≤ 100) : IntKind.i64.wrap (((d + 1 : Nat) : Int) - 1) = (d : Int) := by rw [wI (by omega)]; omega
theorem zoy {u : List UInt8} {d : Nat} (hu : u.length ≤ 4000) (h40 : u.head? ≠ some 40) (h91 : u.head? ≠ some 91) {r} (h : Ev (fun n => zz5 n ((d + 1 : Nat) : Int) ((nm u).length : Int) false ⟨u⟩ E0) r) : Ev (fun n => yz6 n ((d + 1 : Nat) : Int) ⟨u⟩ E0) r := by
 have p40 : ([40] : List UInt8).isPrefixOf u = false := by rw [zac]; simpa using h40
 have p91 : ([91] : List UInt8).isPrefixOf u = false := by rw [zac]; simpa using h91
 rw [z0o, Ev.zz0 (z9k p40), Ev.yz1 (by rfl), z5l, Ev.zz0 (z9k p91), Ev.yz1 (by rfl)]
 simp only [kz0.kz2]
 exact yro hu h
theorem zs7 {u : List UInt8} {d : Nat} (hu : u.length ≤ 4000) (h40 : u.head? ≠ some 40) (h91 : u.head? ≠ some 91) (hn : nm u = []) : Ev (fun n => yz6 n ((d + 1 : Nat) : Int) ⟨u⟩ E0) (ymd (lit u)) := by
 refine zoy hu h40 h91 ?_
 rw [yzw, Ev.yz1 (by rfl), Ev.yz2 (zd8 (ygs u)), Ev.kz1 (by rw [hn]; rfl), Ev.zz0 (zq2 hu)]
 cases hl : lit u with
 | none =>
   refine Ev.z7t.2 ?_
   rw [Ev.zz1]; rfl
 | some p =>
   obtain ⟨v, t⟩ := p
   refine Ev.z7h.2 ?_
   rw [Ev.zz1]
   first | rfl | (simp only [kz0.kz2, yz0.kz2]; done) | (simp only [kz0.kz2, yz0.kz2]; rfl)
end Go.Proofs.YtfhpamcehnfhoaaGreatDoor


namespace Go.Proofs.YtfhpamcehnfhoaaGreatDoor
open Go Go.Ab
set_option linter.unusedVariables false
set_option linter.unusedSimpArgs false
noncomputable def chk (e : kz0) : Int × kz0 := if z97 e = 0 then (0, e) else (12, E0)
theorem zpu {e : kz0} : Ev (fun n => yzj n true E0 e) (12, E0) := by rw [zam, Ev.kz1 (by rfl), Ev.zz1]; rfl
theorem ydk {e : kz0} (hw : e.wf) (hs : e.size ≤ 8388608) : Ev (fun n => (z2y n e).bind fun y1 => yzj n (y1 != 0) E0 e) (chk e) := by
 rw [Ev.zz0 (zps hw hs)]
 unfold chk
 by_cases h : z97 e = 0
 ·rw [h, if_pos rfl, zam, Ev.yz1 (by rfl), Ev.zz1, kz0.kz2]
 ·rw [if_neg h, show (z97 e != 0) = true by simpa using h]
  exact zpu
theorem ze6 {s : List UInt8} (hs : s.length ≤ 4000) {r : Res (Int × Unit) (yz3 × kz0)} (h : Ev (fun n => yzd n 12 ⟨s⟩) r) :
  (∀ e, r = .pan e → e.1 ≠ 0 → Ev (fun n => z08 n s) (12, E0)) ∧ (∀ t e, r = .ok (⟨t⟩, e) → e.wf → e.size ≤ 8388608 → Ev (fun n => z08 n s) (if t = [] then chk e else (12, E0))) := by
 refine ⟨fun p hp hz => ?_, fun t e hr hw hz => ?_⟩
 ·subst hp
  have hrd : Ev (fun n => z2f n s) (E0, p.1) := by
   rw [zb1, Ev.zz0 h]
   refine Ev.z7t.2 ?_
   refine Ev.zz1 (x := (E0, p.1)).2 rfl
  rw [z8j, Ev.yz1 (by simp; omega), Ev.zz0 hrd, Ev.kz1 (by simpa using hz)]
  exact zpu
 ·subst hr
  by_cases ht : t = []
  ·subst ht
   rw [if_pos rfl]
   have hrd : Ev (fun n => z2f n s) (e, 0) := by
    rw [zb1, Ev.zz0 h]
    refine Ev.z7h.2 ?_
    rw [Ev.yz1 (by rfl)]
    simp only [kz0.kz2]
    refine Ev.zz1 (x := (e, (0 : Int))).2 rfl
   rw [z8j, Ev.yz1 (by simp; omega), Ev.zz0 hrd, Ev.yz1 (by rfl)]
   simp only [kz0.kz2]
   exact ydk hw hz
  ·rw [if_neg ht]
   have hrd : Ev (fun n => z2f n s) (e, 12) := by
    rw [zb1, Ev.zz0 h]
    refine Ev.z7h.2 ?_
    rw [Ev.kz1 (by simpa using ht), Ev.zz0 (zfm (by decide))]
    refine Ev.z7t.2 ?_
    simp only [kz0.kz2]
    refine Ev.zz1 (x := (e, (12 : Int))).2 rfl
   rw [z8j, Ev.yz1 (by simp; omega), Ev.zz0 hrd, Ev.kz1 (by rfl)]
   exact zpu
end Go.Proofs.YtfhpamcehnfhoaaGreatDoor

