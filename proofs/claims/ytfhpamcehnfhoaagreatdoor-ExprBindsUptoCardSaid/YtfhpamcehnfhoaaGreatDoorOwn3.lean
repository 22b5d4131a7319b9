/-
  VALUES: THE SAME, COPIES, OPERATIONS.
-/
import Derived.Test.YtfhpamcehnfhoaaGreatDoorOwn2
import Derived.Test.YtfhpamcehnfhoaaGreatDoorLib6
import Derived.Test.YtfhpamcehnfhoaaGreatDoorLib8
namespace Go.Proofs.YtfhpamcehnfhoaaGreatDoor
open Go Go.Ab
set_option linter.unusedVariables false
set_option linter.unusedSimpArgs false
theorem vext {a b : zz0} (h1 : a.kind = b.kind) (h2 : a.num.num = b.num.num) (h3 : a.num.den = b.num.den) (h4 : a.truth = b.truth) (h5 : a.str = b.str) (h6 : a.list = b.list) : a = b := by
 obtain ⟨k, ⟨p, q⟩, t, s, l⟩ := a
 obtain ⟨k', ⟨p', q'⟩, t', s', l'⟩ := b
 simp_all
theorem y8g {α : Type} {x y : α} {l m : List α} : eqB (x :: l) (y :: m) = (eqB x y && eqB l m) := by
 cases h : (eqB x y && eqB l m)
 ·rw [z7t]; intro hh; injection hh with h1 h2
  rw [Bool.and_eq_false_iff, z7t, z7t] at h
  exact h.elim (fun h => h h1) (fun h => h h2)
 ·rw [z98]
  rw [Bool.and_eq_true, z98, z98] at h
  rw [h.1, h.2]
theorem zlw : ∀ a b : zz0, a.size ≤ 8388608 → Ev (fun n => zzs n a b) (eqB a b) := zg0 (P := fun a => ∀ b : zz0, a.size ≤ 8388608 → Ev (fun n => zzs n a b) (eqB a b)) fun a ih b hs => by
 have hsl := zzr a
 have hlen := z3n a.list
 have bad : a ≠ b → Ev (fun n => yzl n true b a) (eqB a b) := fun h => by rw [zfg, Ev.kz2 (by rfl), Ev.yz0, z7t.2 h]
 rw [zyp, zz0.zz3, zz0.zz3]
 by_cases h1 : a.kind = b.kind
 case neg => rw [Ev.kz2 (by simpa using h1)]; exact bad fun h => h1 (by rw [h])
 rw [Ev.yz2 (by simpa using h1)]
 by_cases h2 : a.num.num = b.num.num ∧ a.num.den = b.num.den
 case neg => rw [Ev.kz2 (by simp; omega)]; exact bad fun h => h2 (by rw [h]; exact ⟨rfl, rfl⟩)
 rw [Ev.yz2 (by simp [h2])]
 by_cases h3 : a.truth = b.truth
 case neg => rw [Ev.kz2 (by simpa using h3)]; exact bad fun h => h3 (by rw [h])
 rw [Ev.yz2 (by simp [h3])]
 by_cases h4 : a.str = b.str
 case neg => rw [Ev.kz2 (by simpa using h4)]; exact bad fun h => h4 (by rw [h])
 rw [Ev.yz2 (by simp [h4])]
 by_cases h5 : a.list.length = b.list.length
 case neg => rw [show ((a.list.length : Int) != (b.list.length : Int)) = true by simp; omega]; exact bad fun h => h5 (by rw [h])
 rw [show ((a.list.length : Int) != (b.list.length : Int)) = false by simp; omega, zfg, Ev.yz2 (by rfl), zz0.zz3, zz0.zz3]
 have loop : ∀ k, k ≤ a.list.length → Ev (fun n => z1s n (k : Int) (a.list.length : Int) b a) (eqB (a.list.drop k) (b.list.drop k)) :=
  down (by
   rw [zfu, Ev.yz2 (by simp), Ev.yz0, List.drop_length, h5, List.drop_length, yfy]) fun k hk ihk => by
   have hk2 : k < b.list.length := by omega
   have hx := List.getElem_mem hk
   have hsx := z9c hx
   rw [← List.getElem_cons_drop (h := hk), ← List.getElem_cons_drop (h := hk2), y8g]
   rw [zfu, Ev.kz2 (by simpa using hk), Ev.zz4 (yzv hk), Ev.zz4 (yzv hk2), zz0.zz3, zz0.zz3, Ev.kz0 (ih _ hx _ (by omega))]
   cases hf : eqB a.list[k] b.list[k]
   ·rw [Ev.kz2 (by rfl), Ev.yz0]; rfl
   ·rw [Ev.yz2 (by rfl), wrk (by omega), zz0.zz3, zz0.zz3, Bool.true_and]
    exact ihk
 refine (loop 0 (Nat.zero_le _)).to ?_
 rw [List.drop_zero, List.drop_zero]
 by_cases h6 : a.list = b.list
 ·rw [z98.2 h6, z98.2 (vext h1 h2.1 h2.2 h3 h4 h6)]
 ·rw [z7t.2 h6, z7t.2 fun h => h6 (by rw [h])]
theorem ztw : ∀ a b : zz0, a.size ≤ 8388608 → Ev (fun n => zzy n a b) (eqB a b) := zg0 (P := fun a => ∀ b : zz0, a.size ≤ 8388608 → Ev (fun n => zzy n a b) (eqB a b)) fun a ih b hs => by
 have hsl := zzr a
 have hlen := z3n a.list
 have bad : a ≠ b → Ev (fun n => yzm n true b a) (eqB a b) := fun h => by rw [zfm, Ev.kz2 (by rfl), Ev.yz0, z7t.2 h]
 rw [zyx, zz0.zz3, zz0.zz3]
 by_cases h1 : a.kind = b.kind
 case neg => rw [Ev.kz2 (by simpa using h1)]; exact bad fun h => h1 (by rw [h])
 rw [Ev.yz2 (by simpa using h1)]
 by_cases h2 : a.num.num = b.num.num ∧ a.num.den = b.num.den
 case neg => rw [Ev.kz2 (by simp; omega)]; exact bad fun h => h2 (by rw [h]; exact ⟨rfl, rfl⟩)
 rw [Ev.yz2 (by simp [h2])]
 by_cases h3 : a.truth = b.truth
 case neg => rw [Ev.kz2 (by simpa using h3)]; exact bad fun h => h3 (by rw [h])
 rw [Ev.yz2 (by simp [h3])]
 by_cases h4 : a.str = b.str
 case neg => rw [Ev.kz2 (by simpa using h4)]; exact bad fun h => h4 (by rw [h])
 rw [Ev.yz2 (by simp [h4])]
 by_cases h5 : a.list.length = b.list.length
 case neg => rw [show ((a.list.length : Int) != (b.list.length : Int)) = true by simp; omega]; exact bad fun h => h5 (by rw [h])
 rw [show ((a.list.length : Int) != (b.list.length : Int)) = false by simp; omega, zfm, Ev.yz2 (by rfl), zz0.zz3, zz0.zz3]
 have loop : ∀ k, k ≤ a.list.length → Ev (fun n => z1p n (k : Int) b a) (eqB (a.list.drop k) (b.list.drop k)) :=
  down (by
   rw [zf1, Ev.yz2 (by simp), Ev.yz0, List.drop_length, h5, List.drop_length, yfy]) fun k hk ihk => by
   have hk2 : k < b.list.length := by omega
   have hx := List.getElem_mem hk
   have hsx := z9c hx
   rw [← List.getElem_cons_drop (h := hk), ← List.getElem_cons_drop (h := hk2), y8g]
   rw [zf1, Ev.kz2 (by simpa using hk), Ev.zz4 (yzv hk), Ev.zz4 (yzv hk2), zz0.zz3, zz0.zz3, Ev.kz0 (ih _ hx _ (by omega))]
   cases hf : eqB a.list[k] b.list[k]
   ·rw [Ev.kz2 (by rfl), Ev.yz0]; rfl
   ·rw [Ev.yz2 (by rfl), wrk (by omega), zz0.zz3, zz0.zz3, Bool.true_and]
    exact ihk
 refine (loop 0 (Nat.zero_le _)).to ?_
 rw [List.drop_zero, List.drop_zero]
 by_cases h6 : a.list = b.list
 ·rw [z98.2 h6, z98.2 (vext h1 h2.1 h2.2 h3 h4 h6)]
 ·rw [z7t.2 h6, z7t.2 fun h => h6 (by rw [h])]
theorem zed {α : Type} {l : List α} {k : Nat} (h : k < l.length) : l.take k ++ [l[k]] = l.take (k + 1) := by
 rw [List.take_add_one, List.getElem?_eq_getElem h]; rfl
theorem zmi : ∀ v : zz0, v.size ≤ 8388608 → Ev (fun n => z0x n v) v := zg0 fun v ih hs => by
 have hsl := zzr v
 have hlen := z3n v.list
 have loop : ∀ k, k ≤ v.list.length → ∀ a4 a5 a6 a7 a8 a10, Ev (fun n => kzz n (k : Int) v.list (v.list.length : Int) (v.list.take k) a4 a5 a6 a7 a8 v a10) v :=
  down (fun a4 a5 a6 a7 a8 a10 => by
   rw [zd4, Ev.yz2 (by simp), Ev.yz0, List.take_length]; exact zz0.zz3 v) fun k hk ihk a4 a5 a6 a7 a8 a10 => by
   have hx := List.getElem_mem hk
   have hsx := z9c hx
   rw [zd4, Ev.kz2 (by simpa using hk), Ev.zz4 (yzv hk), zz0.zz3, Ev.kz0 (ih _ hx (by omega)), zz0.zz3, Ev.zz4 (zgb (by simp; omega)), wrk (by omega), zz0.zz3, zed hk]
   exact ihk _ _ _ _ _ _
 rw [zre, zz0.zz3]
 exact loop 0 (Nat.zero_le _) _ _ _ _ _ _
theorem zqe {v : zz0} (hs : v.size ≤ 8388608) : Ev (fun n => z1r n v) (v.kind, v.num.num, v.num.den, v.truth, v.str, v.list) := by
 have hsl := zzr v
 have hlen := z3n v.list
 have loop : ∀ k, k ≤ v.list.length → ∀ a4 a5 a6 a7 a8 a10, Ev (fun n => yzo n (k : Int) v.list (v.list.length : Int) (v.list.take k) a4 a5 a6 a7 a8 v a10) (v.kind, v.num.num, v.num.den, v.truth, v.str, v.list) :=
  down (fun a4 a5 a6 a7 a8 a10 => by
   rw [zat, Ev.yz2 (by simp), Ev.yz0, List.take_length]) fun k hk ihk a4 a5 a6 a7 a8 a10 => by
   have hx := List.getElem_mem hk
   have hsx := z9c hx
   rw [zat, Ev.kz2 (by simpa using hk), Ev.zz4 (yzv hk), zz0.zz3, Ev.kz0 (zmi _ (by omega)), zz0.zz3, Ev.zz4 (zgb (by simp; omega)), wrk (by omega), zz0.zz3, zed hk]
   exact ihk _ _ _ _ _ _
 rw [zlv, zz0.zz3]
 exact loop 0 (Nat.zero_le _) _ _ _ _ _ _
theorem zkq {v : zz0} (hs : v.size ≤ 8388608) : Ev (fun n => z15 n v) (v.kind, v.num.num, v.num.den, v.truth, v.str, v.list) := by
 rw [zoc, zz0.zz3, Ev.kz0 (zqe hs), Ev.yz0]
theorem zu4 {v : zz0} (hs : v.size ≤ 8388608) : Ev (fun n => z4g n v) v := by
 rw [zxb, zz0.zz3, Ev.kz0 (zmi v hs), Ev.yz0, zz0.zz3]
theorem ybk : ∀ v : zz0, v.size ≤ 8388608 → ∀ d : Int, ∃ b, Ev (fun n => z3j n v d) b := zg0 fun v ih hs d => by
 have hsl := zzr v
 have hlen := z3n v.list
 have loop : ∀ k, k ≤ v.list.length → ∀ d : Int, ∃ b, Ev (fun n => z0m n (k : Int) d v) b :=
  down (fun d => ⟨false, by rw [zdz, Ev.yz2 (by simp), Ev.yz0]⟩) fun k hk ihk d => by
   have hx := List.getElem_mem hk
   have hsx := z9c hx
   obtain ⟨b, hb⟩ := ih _ hx (by omega) (IntKind.i64.wrap (d - 1))
   obtain ⟨c, hc⟩ := ihk d
   refine ⟨if b then true else c, ?_⟩
   rw [zdz, Ev.kz2 (by simpa using hk), Ev.zz4 (yzv hk), zz0.zz3, Ev.kz0 hb, zz0.zz3, wrk (by omega)]
   cases b
   ·rw [Ev.yz2 (by rfl)]; exact hc
   ·rw [Ev.kz2 (by rfl), Ev.yz0]; rfl
 have l0 : ∀ d b, ∃ c, Ev (fun n => zzx n d b v) c := fun d b => by
  cases b
  ·obtain ⟨c, hc⟩ := loop 0 (Nat.zero_le _) d
   exact ⟨c, by rw [ze8, Ev.yz2 (by rfl), zz0.zz3]; exact hc⟩
  ·exact ⟨true, by rw [ze8, Ev.kz2 (by rfl), Ev.yz0]⟩
 simp only [ztd, zz0.zz3, Ev.pif]
 split
 ·exact l0 _ _
 split
 ·exact l0 _ _
 ·exact l0 _ _
theorem zho {v : zz0} (hs : v.size ≤ 8388608) : ∃ b, Ev (fun n => z29 n v) b := by
 obtain ⟨b, hb⟩ := ybk v hs 10
 cases b
 ·exact ⟨_, by rw [zi3, zz0.zz3, Ev.kz0 hb, Ev.yz2 (by rfl), Ev.kz0 (zq6 v hs)]; exact Ev.yz0.2 rfl⟩
 ·exact ⟨true, by rw [zi3, zz0.zz3, Ev.kz0 hb, Ev.kz2 (by rfl), Ev.yz0]⟩
end Go.Proofs.YtfhpamcehnfhoaaGreatDoor


namespace Go.Proofs.YtfhpamcehnfhoaaGreatDoor
open Go Go.Ab
set_option linter.unusedVariables false
set_option linter.unusedSimpArgs false
mutual
noncomputable def zny : zz0 → zz0 → Int × Int
 | ⟨k, q, t, s, l⟩, b =>
   if k ≠ b.kind then (0, 20)
   else if k = 1 then (yjb q b.num, 0)
   else if k = 2 then ((if t = b.truth then 0 else if t then 1 else -1), 0)
   else if k = 3 then (Lib.compareBytes s b.str, 0)
   else zcp l b.list
noncomputable def zcp : List zz0 → List zz0 → Int × Int
 | [], [] => (0, 0)
 | [], _ :: _ => (-1, 0)
 | _ :: _, [] => (1, 0)
 | x :: l, y :: m => if eqB x y then zcp l m else zny x y
end
theorem yhp (a b : zz0) : zny a b =
  if a.kind ≠ b.kind then (0, 20)
  else if a.kind = 1 then (yjb a.num b.num, 0)
  else if a.kind = 2 then ((if a.truth = b.truth then 0 else if a.truth then 1 else -1), 0)
  else if a.kind = 3 then (Lib.compareBytes a.str b.str, 0)
  else zcp a.list b.list := by cases a; rw [zny]
theorem y1e {v : zz0} (h : z4t v = true) (hk : v.kind = 1) : rok v.num = true := by
 rw [z63, if_pos hk] at h; simp only [Bool.and_eq_true] at h; exact h.1
theorem z9k {v : zz0} (h : z4t v = true) : ∀ x ∈ v.list, z4t x = true := by
 rw [z63] at h
 split at h
 ·simp only [Bool.and_eq_true, List.isEmpty_iff] at h; rw [h.2.2.2]; intro x hx; cases hx
 split at h
 ·simp only [Bool.and_eq_true, List.isEmpty_iff] at h; rw [h.2.2]; intro x hx; cases hx
 split at h
 ·simp only [Bool.and_eq_true, List.isEmpty_iff] at h; rw [h.2.2.1]; intro x hx; cases hx
 split at h
 ·simp only [Bool.and_eq_true, zv5, List.all_eq_true] at h; exact h.2.2.2
 ·cases h
theorem strings_Compare {a b : List UInt8} : Ev (fun n => z1d n a b) (Lib.compareBytes a b) := by
 rw [zla, Ev.kz0 (a := fun n => z08 n a b) (y := Lib.compareBytes a b) (.pure rfl), Ev.yz0]
theorem ybz : ∀ a b : zz0, a.size ≤ 8388608 → z4t a = true → z4t b = true → Ev (fun n => z2f n a b) (zny a b) := zg0 (P := fun a => ∀ b : zz0, a.size ≤ 8388608 → z4t a = true → z4t b = true → Ev (fun n => z2f n a b) (zny a b)) fun a ih b hs hfa hfb => by
 have hsl := zzr a
 have hlen := z3n a.list
 rw [ztr, yhp]
 by_cases h0 : a.kind = b.kind
 case neg => rw [Ev.kz2 (by simpa using h0), if_pos h0, Ev.yz0]
 rw [Ev.yz2 (by simpa using h0), if_neg (by simpa using h0)]
 by_cases h1 : a.kind = 1
 ·rw [Ev.kz2 (by simpa using h1), if_pos h1, Ev.kz0 (yhw (y1e hfa h1) (y1e hfb (by omega))), Ev.yz0]
 rw [Ev.yz2 (by simpa using h1), if_neg h1]
 by_cases h2 : a.kind = 2
 ·rw [Ev.kz2 (by simpa using h2), if_pos h2]
  cases a.truth <;> cases b.truth <;> simp [Ev.pif, Ev.yz0]
 rw [Ev.yz2 (by simpa using h2), if_neg h2]
 by_cases h3 : a.kind = 3
 ·rw [Ev.kz2 (by simpa using h3), if_pos h3, Ev.kz0 strings_Compare, Ev.yz0]
 rw [Ev.yz2 (by simpa using h3), if_neg h3, zz0.zz3, zz0.zz3]
 have loop : ∀ k, k ≤ a.list.length → k ≤ b.list.length → Ev (fun n => kzw n (k : Int) a.list (a.list.length : Int) b a) (zcp (a.list.drop k) (b.list.drop k)) :=
  down (Q := fun k => k ≤ b.list.length → Ev (fun n => kzw n (k : Int) a.list (a.list.length : Int) b a) (zcp (a.list.drop k) (b.list.drop k))) (fun hb => by
   rw [ze2, Ev.yz2 (by simp), List.drop_length]
   by_cases hlt : a.list.length < b.list.length
   ·rw [Ev.kz2 (by simpa using hlt), Ev.yz0, ← List.getElem_cons_drop (h := hlt), zcp]
   ·rw [Ev.yz2 (by simpa using hlt), Ev.yz0, List.drop_of_length_le (by omega), zcp]) fun k hk ihk hb => by
   have hx := List.getElem_mem hk
   have hsx := z9c hx
   rw [ze2, Ev.kz2 (by simpa using hk), Ev.zz4 (yzv hk), ← List.getElem_cons_drop (h := hk)]
   by_cases he : k = b.list.length
   ·rw [Ev.kz2 (by simp; omega), Ev.yz0, List.drop_of_length_le (l := b.list) (by omega), zcp]
   ·have hk2 : k < b.list.length := by omega
    rw [Ev.yz2 (by simp; omega), Ev.zz4 (yzv hk2), zz0.zz3, zz0.zz3, Ev.kz0 (zlw _ _ (by omega)), ← List.getElem_cons_drop (h := hk2), zcp]
    cases hf : eqB a.list[k] b.list[k]
    ·rw [Ev.kz2 (by rfl), Ev.zz4 (yzv hk2), zz0.zz3, Ev.kz0 (ih _ hx _ (by omega) (z9k hfa _ hx) (z9k hfb _ (List.getElem_mem hk2))), Ev.yz0]; rfl
    ·rw [Ev.yz2 (by rfl), wrk (by omega), zz0.zz3, zz0.zz3, if_pos rfl]
     exact ihk (by omega)
 exact loop 0 (Nat.zero_le _) (Nat.zero_le _)
theorem z2d {v : zz0} (h : yz6 v = 0) : z4t v = true ∧ z2n v ≤ 100 ∧ z7f v ≤ 6 := by
 unfold yz6 at h
 split at h
 ·cases h
 ·split at h
  ·exact ⟨‹_›, by omega, by omega⟩
  ·cases h
def zhv (a b : zz0) : Int := if yz6 a = 0 then yz6 b else yz6 a
theorem zvp {a b : zz0} (ha : a.wf) (hb : b.wf) (sa : a.size ≤ 8388608) (sb : b.size ≤ 8388608) : Ev (fun n => z4n n a b) (zhv a b) := by
 rw [y00, zz0.zz3, zz0.zz3, Ev.kz0 (z79 ha sa)]
 unfold zhv
 by_cases h : yz6 a = 0
 ·rw [Ev.yz2 (by simpa using h), Ev.kz0 (z79 hb sb), if_pos h, Ev.yz0]
 ·rw [Ev.kz2 (by simpa using h), if_neg h, Ev.yz0]
theorem zv7 {a b : zz0} (h : zhv a b = 0) : yz6 a = 0 ∧ yz6 b = 0 := by
 unfold zhv at h
 split at h
 ·exact ⟨‹_›, h⟩
 ·exact (‹¬ _› h).elim
noncomputable def z4w (a b : zz0) : Int × Int := if zhv a b = 0 then zny a b else (0, zhv a b)
theorem y0d {a b : zz0} (ha : a.wf) (hb : b.wf) (sa : a.size ≤ 8388608) (sb : b.size ≤ 8388608) : Ev (fun n => z3b n a b) (z4w a b) := by
 rw [znp, zz0.zz3, zz0.zz3, Ev.kz0 (zvp ha hb sa sb)]
 unfold z4w
 by_cases h : zhv a b = 0
 ·obtain ⟨h1, h2⟩ := zv7 h
  rw [Ev.yz2 (by simpa using h), if_pos h, Ev.kz0 (ybz a b sa (z2d h1).1 (z2d h2).1), Ev.yz0]
 ·rw [Ev.kz2 (by simpa using h), if_neg h, Ev.yz0]
theorem ym1 {α : Type} {x y : List α} (h : x.length + y.length ≤ 268435456) : ext x y = some (x ++ y) := by unfold ext; rw [if_pos (by simpa [z78] using h)]
def y0a (a b : zz0) : Int × zz0 :=
 if zhv a b ≠ 0 then (zhv a b, v0)
 else if a.kind ≠ b.kind ∨ a.kind = 2 then (20, v0)
 else if a.kind = 1 then (if (z7y zr6 a.num b.num).1 ≠ 0 then ((z7y zr6 a.num b.num).1, v0) else (0, ⟨1, (z7y zr6 a.num b.num).2, false, [], []⟩))
 else if a.kind = 3 then (if a.str.length + b.str.length > 60 then (4, v0) else (0, ⟨3, ⟨0, 0⟩, false, a.str ++ b.str, []⟩))
 else (if z2n a + z2n b - 1 > 100 then (4, v0) else (0, ⟨4, ⟨0, 0⟩, false, [], a.list ++ b.list⟩))
theorem zls {v : zz0} (h : z4t v = true) : v.kind = 1 ∨ v.kind = 2 ∨ v.kind = 3 ∨ v.kind = 4 := by
 rw [z63] at h
 by_cases h1 : v.kind = 1; · exact .inl h1
 by_cases h2 : v.kind = 2; · exact .inr (.inl h2)
 by_cases h3 : v.kind = 3; · exact .inr (.inr (.inl h3))
 by_cases h4 : v.kind = 4; · exact .inr (.inr (.inr h4))
 rw [if_neg h1, if_neg h2, if_neg h3, if_neg h4] at h; cases h
theorem ymq {v : zz0} (h : z4t v = true) (hk : v.kind = 4) : v.num.num = 0 ∧ v.num.den = 0 ∧ v.truth = false ∧ v.str = [] := by
 rw [z63, if_neg (by omega), if_neg (by omega), if_neg (by omega), if_pos hk] at h
 simp only [Bool.and_eq_true, nul, beq_iff_eq, Bool.not_eq_true', List.isEmpty_iff] at h
 exact ⟨h.1.1, h.1.2, h.2.1, h.2.2.1⟩
theorem yhb {a b : zz0} (ha : a.wf) (hb : b.wf) (sa : a.size ≤ 8388608) (sb : b.size ≤ 8388608) : Ev (fun n => z7u n a b) (y0a a b) := by
 have l0 : ∀ a0 a1 a2 a3 a4 a5 a6 a7 a8 a9 a10 a11, Ev (fun n => z0u n a0 a1 a2 a3 a4 a5 a6 a7 a8 a9 a10 a11) (0, ⟨a5, ⟨a6, a7⟩, a8, a9, a11⟩) := fun a0 a1 a2 a3 a4 a5 a6 a7 a8 a9 a10 a11 => by rw [zrf, Ev.yz0]
 rw [y7g, zz0.zz3, zz0.zz3, Ev.kz0 (zvp ha hb sa sb)]
 unfold y0a
 by_cases h : zhv a b = 0
 case neg => rw [Ev.kz2 (by simpa using h), if_pos h, Ev.yz0]; rfl
 obtain ⟨c1, c2⟩ := zv7 h
 obtain ⟨f1, p1, _⟩ := z2d c1
 obtain ⟨f2, p2, _⟩ := z2d c2
 rw [Ev.yz2 (by simpa using h), if_neg (by simpa using h)]
 by_cases hk : a.kind = b.kind
 case neg => rw [Ev.kz2 (by simpa using hk), if_pos (.inl hk), Ev.yz0]; rfl
 rw [Ev.yz2 (by simpa using hk)]
 by_cases h1 : a.kind = 1
 ·rw [Ev.kz2 (by simpa using h1), if_neg (by omega), if_pos h1, Ev.kz0 (yhm (zeh ha) (zeh hb))]
  by_cases hr : (z7y zr6 a.num b.num).1 = 0
  ·rw [Ev.yz2 (by simpa using hr), if_neg (by simpa using hr)]
   exact (l0 _ _ _ _ _ _ _ _ _ _ _ _).to (by rw [h1])
  ·rw [Ev.kz2 (by simpa using hr), if_pos hr, Ev.yz0]; rfl
 rw [Ev.yz2 (by simpa using h1)]
 by_cases h3 : a.kind = 3
 ·rw [Ev.kz2 (by simpa using h3), if_neg (by omega), if_neg h1, if_pos h3]
  have s1 := zzr a; have s2 := zzr b
  rw [Ev.zz4 (ymv (by omega))]
  by_cases hl : a.str.length + b.str.length > 60
  ·rw [Ev.kz2 (by simp; omega), if_pos hl, Ev.yz0]; rfl
  ·rw [Ev.yz2 (by simp; omega), if_neg hl]
   exact (l0 _ _ _ _ _ _ _ _ _ _ _ _).to (by rw [h3])
 rw [Ev.yz2 (by simpa using h3)]
 by_cases h4 : a.kind = 4
 ·rw [Ev.kz2 (by simpa using h4), if_neg (by omega), if_neg h1, if_neg h3, Ev.kz0 (zes a sa), Ev.kz0 (zes b sb), wI (x := _ + _) (by simp only; omega), wI (x := _ - 1) (by simp only; omega)]
  have q1 := kzx a; have q2 := kzx b
  rw [if_pos h4] at q1
  rw [if_pos (by omega)] at q2
  by_cases hl : z2n a + z2n b - 1 > 100
  ·rw [Ev.kz2 (by simp; omega), if_pos hl, Ev.yz0]; rfl
  ·have s1 := zzr a; have s2 := zzr b
   have n1 := z3n a.list; have n2 := z3n b.list
   rw [Ev.yz2 (by simp; omega), if_neg hl, Ev.kz0 (zkq sa), Ev.kz0 (zkq sb), Ev.zz4 (ym1 (by simp only; omega))]
   exact (l0 _ _ _ _ _ _ _ _ _ _ _ _).to (by rw [h4])
 ·rw [Ev.yz2 (by simpa using h4), Ev.yz0]
  have := zls f1
  rw [if_pos (by omega)]; rfl
def zal (v : zz0) : Int × Int := if yz6 v ≠ 0 then (0, yz6 v) else if v.kind = 3 then (v.str.length, 0) else if v.kind = 4 then (v.list.length, 0) else (0, 20)
theorem zob {v : zz0} (hw : v.wf) (hs : v.size ≤ 8388608) : Ev (fun n => z47 n v) (zal v) := by
 rw [y3d, zz0.zz3, Ev.kz0 (z79 hw hs)]
 unfold zal
 by_cases h : yz6 v = 0
 ·rw [Ev.yz2 (by simpa using h), if_neg (by simpa using h)]
  by_cases h3 : v.kind = 3
  ·rw [Ev.kz2 (by simpa using h3), if_pos h3, Ev.yz0]
  rw [Ev.yz2 (by simpa using h3), if_neg h3]
  by_cases h4 : v.kind = 4
  ·rw [Ev.kz2 (by simpa using h4), if_pos h4, Ev.yz0]
  ·rw [Ev.yz2 (by simpa using h4), if_neg h4, Ev.yz0]
 ·rw [Ev.kz2 (by simpa using h), if_pos h, Ev.yz0]
def vat (v : zz0) (i : Int) : Int × zz0 :=
 if (zal v).2 ≠ 0 then ((zal v).2, v0)
 else if i < 0 ∨ i ≥ (zal v).1 then (2, v0)
 else if v.kind = 4 then (match v.list[i.toNat]? with | some x => (0, x) | none => (0, v0))
 else (0, ⟨3, ⟨0, 0⟩, false, (v.str.drop i.toNat).take 1, []⟩)
theorem yfv {v : zz0} (h : (zal v).2 = 0) : yz6 v = 0 ∧ ((v.kind = 3 ∧ (zal v).1 = v.str.length) ∨ (v.kind = 4 ∧ (zal v).1 = v.list.length)) := by
 unfold zal at h ⊢
 by_cases h0 : yz6 v = 0
 ·refine ⟨h0, ?_⟩
  rw [if_neg (by simpa using h0)] at h ⊢
  by_cases h3 : v.kind = 3
  ·rw [if_pos h3]; exact .inl ⟨h3, rfl⟩
  rw [if_neg h3] at h ⊢
  by_cases h4 : v.kind = 4
  ·rw [if_pos h4]; exact .inr ⟨h4, rfl⟩
  ·rw [if_neg h4] at h; cases h
 ·rw [if_pos h0] at h; exact (h0 h).elim
theorem sub_one {s : List UInt8} {i : Int} (h0 : 0 ≤ i) (h1 : i < s.length) : sub s i (i + 1) = some ((s.drop i.toNat).take 1) := by
 unfold sub
 rw [if_pos ⟨h0, by omega, by omega⟩, show (i + 1).toNat = i.toNat + 1 by omega, List.take_drop]
theorem yjl {v : zz0} {i : Int} (hw : v.wf) (hs : v.size ≤ 8388608) : Ev (fun n => z9p n v i) (vat v i) := by
 have bad : ∀ a2, Ev (fun n => z3p n i true a2 v) (2, v0) := fun a2 => by rw [ziw, Ev.kz2 (by rfl), Ev.yz0]; rfl
 rw [y9h, zz0.zz3, Ev.kz0 (zob hw hs)]
 unfold vat
 by_cases h : (zal v).2 = 0
 case neg => rw [Ev.kz2 (by simpa using h), if_pos h, Ev.yz0]; rfl
 rw [Ev.yz2 (by simpa using h), if_neg (by simpa using h)]
 by_cases c1 : i < 0
 ·rw [Ev.kz2 (by simpa using c1), if_pos (.inl c1)]; exact bad _
 rw [Ev.yz2 (by simpa using c1)]
 by_cases c2 : i ≥ (zal v).1
 ·rw [show decide (i ≥ (zal v).1) = true by simpa using c2, if_pos (.inr c2)]; exact bad _
 rw [show decide (i ≥ (zal v).1) = false by simpa using c2, if_neg (by omega), ziw, Ev.yz2 (by rfl)]
 have s1 := zzr v
 have n1 := z3n v.list
 obtain ⟨_, ⟨h3, e⟩ | ⟨h4, e⟩⟩ := yfv h
 ·rw [Ev.yz2 (by simp; omega), if_neg (by omega), wI (by omega), Ev.zz4 (sub_one (by omega) (by omega)), Ev.yz0]
 ·have hk : i.toNat < v.list.length := by omega
  obtain ⟨j, rfl⟩ : ∃ j : Nat, i = j := ⟨i.toNat, by omega⟩
  have hk : j < v.list.length := by simpa using hk
  have hx := z9c (List.getElem_mem hk)
  rw [Ev.kz2 (by simpa using h4), if_pos h4, Ev.zz4 (yzv hk), zz0.zz3, Ev.kz0 (zu4 (by omega)), Ev.yz0, zz0.zz3]
  simp [hk]
end Go.Proofs.YtfhpamcehnfhoaaGreatDoor


namespace Go.Proofs.YtfhpamcehnfhoaaGreatDoor
open Go Go.Ab
set_option linter.unusedVariables false
set_option linter.unusedSimpArgs false
theorem zuz {s : List UInt8} (hs : s.length ≤ 8388608) : Ev (fun n => z4p n s) (zb0 s) := by
 have l3t : ∀ q, Ev (fun n => yzh n true s q) false := fun q => by rw [zfq, Ev.kz2 (by rfl), Ev.yz0]
 have step : ∀ k (hk : k < s.length) (r : Bool), ((if k = 0 then isLet s[k] else z8w s[k]) = false → r = false) → ((if k = 0 then isLet s[k] else z8w s[k]) = true → Ev (fun n => kzm n s (k + 1)) r) → Ev (fun n => kzm n s k) r := fun k hk r hf ht => by
  have l3 : ∀ b, (if k = 0 then isLet s[k] else z8w s[k]) = !b → (b = false → (zbi s k).2 = 1) → Ev (fun n => yzh n b s (k + (zbi s k).2)) r := fun b hb h1 => by
   cases b
   ·rw [zfq, Ev.yz2 (by rfl), h1 rfl]; exact ht hb
   ·exact (l3t _).to (hf hb).symm
  rw [zg1, Ev.kz2 (by simpa using hk)]
  by_cases hlow : s[k].toNat < 128
  ·have hd := yky hk hlow
   rw [hd] at l3
   rw [hd]
   have l2 : ∀ b, b = isLet s[k] → Ev (fun n => z1e n (s[k].toNat : Int) (k : Int) b s (k + 1)) r := fun b hb => by
    subst hb
    rw [zfk]
    cases hl : isLet s[k]
    ·rw [Ev.kz2 (by rfl)]
     by_cases h0 : k = 0
     ·rw [Ev.kz2 (by simpa using h0)]
      exact l3 true (by rw [if_pos h0, hl]; rfl) (by simp)
     ·rw [Ev.yz2 (by simpa using h0)]
      by_cases h45 : s[k].toNat = 45
      ·have : s[k] = 45 := UInt8.toNat_inj.1 (by simpa using h45)
       rw [Ev.yz2 (by simp; omega)]
       exact l3 false (by rw [if_neg h0, z8w, this]; rfl) (fun _ => rfl)
      ·have hne : (s[k] == 45) = false := by
        simp only [beq_eq_false_iff_ne]; intro h; rw [h] at h45; exact h45 rfl
       rw [Ev.kz2 (by simp; omega)]
       by_cases c1 : s[k].toNat < 48
       ·rw [Ev.kz2 (by simp; omega)]
        refine l3 true ?_ (by simp)
        rw [if_neg h0, z8w, hl, hne, y1g]; simp; omega
       ·rw [Ev.yz2 (by simp; omega)]
        refine l3 _ ?_ (fun _ => rfl)
        rw [if_neg h0, z8w, hl, hne, y1g]
        have e1 : decide (48 ≤ s[k].toNat) = true := by rw [decide_eq_true_eq]; omega
        have e3 : decide ((s[k].toNat : Int) > 57) = !decide (s[k].toNat ≤ 57) := by
         by_cases c2 : s[k].toNat ≤ 57
         ·rw [show decide (s[k].toNat ≤ 57) = true by rw [decide_eq_true_eq]; exact c2]
          simp only [Bool.not_true, decide_eq_false_iff_not]; omega
         ·rw [show decide (s[k].toNat ≤ 57) = false by rw [decide_eq_false_iff_not]; exact c2]
          simp only [Bool.not_false, decide_eq_true_eq]; omega
        rw [e1, e3]; simp
    ·rw [Ev.yz2 (by rfl)]
     refine l3 false ?_ (fun _ => rfl)
     split
     ·exact hl
     ·rw [z8w, hl]; rfl
   simp only
   by_cases c1 : 97 ≤ s[k].toNat
   ·rw [Ev.kz2 (by simp; omega)]
    exact l2 _ (by simp [isLet, c1]; omega)
   ·rw [Ev.yz2 (by simp; omega)]
    exact l2 _ (by simp [isLet]; omega)
  ·obtain ⟨h1, h2⟩ := yht hk (by omega)
   have nl : isLet s[k] = false := by simp [isLet]; omega
   have nm : z8w s[k] = false := by
    rw [z8w, nl, y1g]
    have : (s[k] == 45) = false := by simp only [beq_eq_false_iff_ne]; intro h; rw [h] at hlow; exact hlow (by decide)
    rw [this]; simp; omega
   have bad : (if k = 0 then isLet s[k] else z8w s[k]) = false := by split <;> assumption
   rw [Ev.kz2 (by simp; omega), show decide (((zbi s k).1 : Int) ≤ 122) = false by simp; omega, zfk, Ev.kz2 (by rfl)]
   by_cases h0 : k = 0
   ·rw [Ev.kz2 (by simpa using h0)]; exact (l3t _).to (hf bad).symm
   ·rw [Ev.yz2 (by simpa using h0), Ev.kz2 (by simp; omega), Ev.yz2 (by simp; omega), show decide (((zbi s k).1 : Int) > 57) = true by simp; omega]
    exact (l3t _).to (hf bad).symm
 have rest : ∀ k, k ≤ s.length → 1 ≤ k → Ev (fun n => kzm n s k) ((s.drop k).all z8w) :=
  down (Q := fun k => 1 ≤ k → Ev (fun n => kzm n s k) ((s.drop k).all z8w)) (fun _ => by
   rw [zg1, Ev.yz2 (by simp), Ev.yz0]; simp) fun k hk ih h1 => by
   rw [← List.getElem_cons_drop (h := hk), List.all_cons]
   refine step k hk _ (fun h => ?_) fun h => ?_
   ·rw [if_neg (by omega)] at h; rw [h]; rfl
   ·rw [if_neg (by omega)] at h; rw [h]; exact ih (by omega)
 rw [zy3]
 cases s with
 | nil => rw [Ev.kz2 (by rfl), zfl, Ev.kz2 (by rfl), Ev.yz0]; rfl
 | cons c t =>
   rw [Ev.yz2 (by simp; omega), zfl]
   by_cases h40 : (c :: t).length ≤ 40
   · rw [Ev.yz2 (by simp at h40 ⊢; omega)]
     refine step 0 (by simp) _ (fun h => ?_) fun h => ?_
     · rw [if_pos rfl] at h; simp only [List.getElem_cons_zero] at h; simp [zb0, h]
     · rw [if_pos rfl] at h; simp only [List.getElem_cons_zero] at h
       refine (rest 1 (by simp) (Nat.le_refl _)).to ?_
       simp [zb0, h]; intro _; simpa using h40
   · rw [Ev.kz2 (by simp at h40 ⊢; omega), Ev.yz0]
     simp [zb0]; intro _ _; simpa using h40
theorem y5k {c : UInt8} : Ev (fun n => z3x n (c.toNat : Int)) (isLet c) := by
 rw [zr4]
 simp only [Ev.pif, Ev.yz0, isLet, decide_eq_true_eq]
 split
 ·have : 97 ≤ c.toNat := by omega
  simp [this]; omega
 ·have : ¬ 97 ≤ c.toNat := by omega
  simp [this]
theorem ybf {c : UInt8} : Ev (fun n => z5h n (c.toNat : Int)) (y1g c) := by
 rw [zs5]
 simp only [Ev.pif, Ev.yz0, y1g, decide_eq_true_eq]
 split
 ·have : 48 ≤ c.toNat := by omega
  simp [this]; omega
 ·have : ¬ 48 ≤ c.toNat := by omega
  simp [this]
theorem ymj {c : UInt8} : (((c.toNat : Nat) : Int) != 45) = !(c == 45) := by
 cases h : c == 45 with
 | true => have : c = 45 := by simpa using h
           subst this; rfl
 | false =>
   have : c.toNat ≠ 45 := fun hh => by
     have : c = 45 := UInt8.toNat_inj.1 (by simpa using hh)
     subst this; cases h
   simp; omega
theorem ye3 {s : List UInt8} (hs : s.length ≤ 8388608) : Ev (fun n => z6d n s) (zb0 s) := by
 have bad : ∀ k : Int, Ev (fun n => kzl n s k true) false := fun k => by rw [zfj, Ev.kz2 (by rfl), Ev.yz0]
 have step : ∀ k (hk : k < s.length) (r : Bool), ((if k = 0 then isLet s[k] else z8w s[k]) = false → r = false) → ((if k = 0 then isLet s[k] else z8w s[k]) = true → Ev (fun n => zzi n ((k + 1 : Nat) : Int) s) r) → Ev (fun n => zzi n (k : Int) s) r := fun k hk r hf ht => by
  have l1 : ∀ b, (if k = 0 then isLet s[k] else z8w s[k]) = !b → Ev (fun n => kzl n s (k : Int) b) r := fun b hb => by
   cases b
   ·rw [zfj, Ev.yz2 (by rfl), wrk (by omega)]; exact ht hb
   ·exact (bad _).to (hf hb).symm
  rw [zg7, Ev.kz2 (by simpa using hk), Ev.zz4 (yzv hk), Ev.kz0 y5k]
  cases hl : isLet s[k]
  ·rw [Ev.kz2 (by rfl)]
   by_cases h0 : k = 0
   ·rw [Ev.kz2 (by simpa using h0)]; exact l1 true (by rw [if_pos h0, hl]; rfl)
   ·rw [Ev.yz2 (by simpa using h0), Ev.zz4 (yzv hk), ymj]
    cases h45 : s[k] == 45
    ·rw [Ev.kz2 (by rfl), Ev.zz4 (yzv hk), Ev.kz0 ybf]
     exact l1 _ (by rw [if_neg h0, z8w, hl, h45]; simp)
    ·rw [Ev.yz2 (by rfl)]; exact l1 false (by rw [if_neg h0, z8w, hl, h45]; rfl)
  ·rw [Ev.yz2 (by rfl)]
   exact l1 false (by split; exact hl; rw [z8w, hl]; rfl)
 have fin : ∀ r : Bool, r = (decide (1 ≤ s.length) && decide (s.length ≤ 40)) → Ev (fun n => zzi n (s.length : Int) s) r := fun r hr => by
  rw [zg7, Ev.yz2 (by simp), hr]
  by_cases h1 : 1 ≤ s.length
  ·rw [Ev.kz2 (by simp; omega), Ev.yz0]; simp [h1]; omega
  ·rw [Ev.yz2 (by simp; omega), Ev.yz0]; simp [h1]
 have rest : ∀ k, k ≤ s.length → 1 ≤ k → Ev (fun n => zzi n (k : Int) s) ((s.drop k).all z8w && decide (s.length ≤ 40)) :=
  down (Q := fun k => 1 ≤ k → Ev (fun n => zzi n (k : Int) s) ((s.drop k).all z8w && decide (s.length ≤ 40))) (fun h1 => by
   refine fin _ ?_; simp [h1]) fun k hk ih h1 => by
   rw [← List.getElem_cons_drop (h := hk), List.all_cons]
   refine step k hk _ (fun h => ?_) fun h => ?_
   ·rw [if_neg (by omega)] at h; rw [h]; rfl
   ·rw [if_neg (by omega)] at h; rw [h]; exact ih (by omega)
 rw [zx4]
 cases s with
 | nil => exact fin _ rfl
 | cons c t =>
   refine step 0 (by simp) _ (fun h => ?_) fun h => ?_
   · rw [if_pos rfl] at h; simp only [List.getElem_cons_zero] at h; simp [zb0, h]
   · rw [if_pos rfl] at h; simp only [List.getElem_cons_zero] at h
     refine (rest 1 (by simp) (Nat.le_refl _)).to ?_
     simp [zb0, h]
def z6n (s : List UInt8) : Bool := zb0 s && (!(s == [116, 114, 117, 101]) && !(s == [102, 97, 108, 115, 101]))
theorem zv9 {s : List UInt8} (hs : s.length ≤ 8388608) : Ev (fun n => z4h n s) (z6n s) := by
 rw [y04, Ev.kz0 (zuz hs)]
 unfold z6n
 cases zb0 s <;> cases h : (s == [116, 114, 117, 101]) <;> simp [Ev.pif, Ev.yz0]
theorem yac {s : List UInt8} (hs : s.length ≤ 8388608) : Ev (fun n => z5j n s) (z6n s) := by
 rw [zsk, Ev.kz0 (ye3 hs)]
 unfold z6n
 cases zb0 s <;> cases h : (s == [116, 114, 117, 101]) <;> simp [Ev.pif, Ev.yz0]
end Go.Proofs.YtfhpamcehnfhoaaGreatDoor


namespace Go.Proofs.YtfhpamcehnfhoaaGreatDoor
open Go Go.Ab
set_option linter.unusedVariables false
set_option linter.unusedSimpArgs false
theorem zd7 {P : zz1 → Prop} (h : ∀ e : zz1, (∀ x, x ∈ e.args → P x) → P e) (e : zz1) : P e := h e fun x hx => zd7 h x
termination_by e
decreasing_by exact zz1.zmz hx
mutual
def z09 : zz1 → Nat
 | ⟨_, _, _, l⟩ => 1 + kzb l
def kzb : List zz1 → Nat
 | [] => 0
 | x :: l => z09 x + kzb l
end
mutual
def z92 : zz1 → Nat
 | ⟨_, _, _, l⟩ => max 1 (zcb l)
def zcb : List zz1 → Nat
 | [] => 0
 | x :: l => max (1 + z92 x) (zcb l)
end
theorem z3h (e : zz1) : z09 e = 1 + kzb e.args := by cases e; rw [z09]
theorem zve (e : zz1) : z92 e = max 1 (zcb e.args) := by cases e; rw [z92]
theorem ygv {l : List zz1} {x : zz1} (h : x ∈ l) : x.size ≤ (l.map zz1.size).sum := by
 induction l with
 | nil => cases h
 | cons y l ih =>
   rcases List.mem_cons.1 h with rfl | h
   · simp
   · have := ih h; simp; omega
theorem z4m (e : zz1) : (e.args.map zz1.size).sum + e.name.length + e.value.size + 4 ≤ e.size := by rw [zz1.size_eq]; omega
theorem zd8 {e x : zz1} (h : x ∈ e.args) : x.size ≤ e.size := by have := ygv h; have := z4m e; omega
theorem zaz (l : List zz1) : l.length ≤ (l.map zz1.size).sum := by
 induction l with
 | nil => simp
 | cons x l ih => have := z4m x; simp; omega
theorem zj4 : ∀ e : zz1, z09 e ≤ e.size := zd7 fun e ih => by
 have : ∀ l : List zz1, (∀ x, x ∈ l → x ∈ e.args) → kzb l ≤ (l.map zz1.size).sum := fun l => by
  induction l with
  | nil => intro _; simp [kzb]
  | cons x l ihl =>
    intro hl
    have := ih x (hl x List.mem_cons_self)
    have := ihl fun y hy => hl y (List.mem_cons_of_mem _ hy)
    simp [kzb]; omega
 have := this e.args fun _ h => h
 have := z4m e
 rw [z3h]; omega
theorem y9s : ∀ e : zz1, z92 e ≤ z09 e := zd7 fun e ih => by
 have : ∀ l : List zz1, (∀ x, x ∈ l → x ∈ e.args) → zcb l ≤ 1 + kzb l := fun l => by
  induction l with
  | nil => intro _; simp [kzb, zcb]
  | cons x l ihl =>
    intro hl
    have := ih x (hl x List.mem_cons_self)
    have := ihl fun y hy => hl y (List.mem_cons_of_mem _ hy)
    simp [kzb, zcb]; omega
 have := this e.args fun _ h => h
 rw [z3h, zve]; omega
theorem zso (l : List zz1) : kzb l ≤ (l.map zz1.size).sum := by
 induction l with
 | nil => simp [kzb]
 | cons x l ih => have := zj4 x; simp [kzb]; omega
theorem y4l : ∀ e : zz1, e.size ≤ 8388608 → Ev (fun n => z2s n e) ((z09 e : Int), (z92 e : Int)) := zd7 fun e ih hs => by
 have hsl := z4m e
 have hlen := zaz e.args
 have loop : ∀ k, k ≤ e.args.length → ∀ d p : Nat, p + kzb (e.args.drop k) ≤ 8388609 → d ≤ 8388609 → Ev (fun n => z00 n (k : Int) (d : Int) (p : Int) e.args (e.args.length : Int)) (((p + kzb (e.args.drop k) : Nat) : Int), ((max d (zcb (e.args.drop k)) : Nat) : Int)) :=
  down (fun d p hp hd => by
   rw [zd9, Ev.yz2 (by simp), Ev.yz0]
   simp [kzb, zcb]) fun k hk ihk d p hp hd => by
   have hx := List.getElem_mem hk
   have hsx := zd8 hx
   rw [← List.getElem_cons_drop (h := hk)] at hp ⊢
   simp only [kzb, zcb] at hp ⊢
   have hpl := zj4 e.args[k]
   have hdl := y9s e.args[k]
   rw [zd9, Ev.kz2 (by simpa using hk), Ev.zz4 (yzv hk), zz1.zz3, Ev.kz0 (ih _ hx (by omega)), wI (x := _ + 1) (by omega), wI (x := (z92 _ : Int) + 1) (by omega), wI (x := (p : Int) + _) (by omega)]
   have e1 : (k : Int) + 1 = ((k + 1 : Nat) : Int) := by omega
   have e2 : (z92 e.args[k] : Int) + 1 = ((1 + z92 e.args[k] : Nat) : Int) := by omega
   have e3 : (p : Int) + (z09 e.args[k] : Int) = ((p + z09 e.args[k] : Nat) : Int) := by omega
   rw [e1, e2, e3, zrn]
   refine (ihk (max d (1 + z92 e.args[k])) (p + z09 e.args[k]) (by omega) (by omega)).to ?_
   congr 2 <;> omega
 rw [zqu]
 have hv := zso e.args
 have := loop 0 (Nat.zero_le _) 1 1 (by simp; omega) (by omega)
 refine this.to ?_
 rw [z3h, zve, List.drop_zero]
theorem zpp : ∀ e : zz1, e.size ≤ 8388608 → Ev (fun n => z2c n e) (z09 e : Int) := zd7 fun e ih hs => by
 have hsl := z4m e
 have hlen := zaz e.args
 rw [zt7, zz1.zz3, z3h]
 have loop : ∀ k, k ≤ e.args.length → ∀ p : Nat, p + kzb (e.args.drop k) ≤ 8388609 → Ev (fun n => z0h n (k : Int) (p : Int) e) ((p + kzb (e.args.drop k) : Nat) : Int) :=
  down (fun p hp => by
   rw [zdy, Ev.yz2 (by simp), Ev.yz0]
   simp [kzb]) fun k hk ihk p hp => by
   have hx := List.getElem_mem hk
   have hsx := zd8 hx
   rw [← List.getElem_cons_drop (h := hk)] at hp ⊢
   simp only [kzb] at hp ⊢
   have hpl := zj4 e.args[k]
   rw [zdy, Ev.kz2 (by simpa using hk), Ev.zz4 (yzv hk), zz1.zz3, Ev.kz0 (ih _ hx (by omega)), wI (x := _ + 1) (by omega), wI (x := (p : Int) + _) (by omega)]
   have e1 : (k : Int) + 1 = ((k + 1 : Nat) : Int) := by omega
   have e3 : (p : Int) + (z09 e.args[k] : Int) = ((p + z09 e.args[k] : Nat) : Int) := by omega
   rw [e1, e3, zz1.zz3]
   refine (ihk (p + z09 e.args[k]) (by omega)).to ?_
   congr 1; omega
 have hv := zso e.args
 exact loop 0 (Nat.zero_le _) 1 (by simp; omega)
theorem yew : ∀ e : zz1, e.size ≤ 8388608 → Ev (fun n => z4f n e) (z92 e : Int) := zd7 fun e ih hs => by
 have hsl := z4m e
 have hlen := zaz e.args
 rw [zw5, zz1.zz3, zve]
 have loop : ∀ k, k ≤ e.args.length → ∀ p : Nat, p ≤ 8388609 → Ev (fun n => z1i n (k : Int) (p : Int) e) ((max p (zcb (e.args.drop k)) : Nat) : Int) :=
  down (fun p hp => by
   rw [zg6, Ev.yz2 (by simp), Ev.yz0]
   simp [zcb]) fun k hk ihk p hp => by
   have hx := List.getElem_mem hk
   have hsx := zd8 hx
   rw [← List.getElem_cons_drop (h := hk)]
   simp only [zcb]
   have hpl := zj4 e.args[k]
   have hdl := y9s e.args[k]
   rw [zg6, Ev.kz2 (by simpa using hk), Ev.zz4 (yzv hk), zz1.zz3, Ev.kz0 (ih _ hx (by omega)), wI (x := _ + 1) (by omega), wI (x := 1 + _) (by omega)]
   have e1 : (k : Int) + 1 = ((k + 1 : Nat) : Int) := by omega
   have e3 : 1 + (z92 e.args[k] : Int) = ((1 + z92 e.args[k] : Nat) : Int) := by omega
   rw [e1, e3, zz1.zz3, zrn]
   refine (ihk (max p (1 + z92 e.args[k])) (by omega)).to ?_
   congr 1; omega
 exact loop 0 (Nat.zero_le _) 1 (by omega)
def kzq (op : Int) : Int :=
 if op = 1 ∨ op = 2 then 0 else if (3 ≤ op ∧ op ≤ 10) ∨ op = 13 ∨ op = 14 ∨ op = 17 then 2 else if op = 11 ∨ op = 15 ∨ op = 16 then 1 else if op = 12 then 3 else if op = 18 then -1 else -2
theorem ops (op : Int) : op = 1 ∨ op = 2 ∨ op = 3 ∨ op = 4 ∨ op = 5 ∨ op = 6 ∨ op = 7 ∨ op = 8 ∨ op = 9 ∨ op = 10 ∨ op = 11 ∨ op = 12 ∨ op = 13 ∨ op = 14 ∨ op = 15 ∨ op = 16 ∨ op = 17 ∨ op = 18 ∨ (op < 1 ∨ 18 < op) := by omega
theorem ye6 {op : Int} : Ev (fun n => z6a n op) (kzq op) := by
 rcases ops op with rfl | rfl | rfl | rfl | rfl | rfl | rfl | rfl | rfl | rfl | rfl | rfl | rfl | rfl | rfl | rfl | rfl | rfl | h
 case inr.inr.inr.inr.inr.inr.inr.inr.inr.inr.inr.inr.inr.inr.inr.inr.inr.inr =>
  have e : kzq op = -2 := by unfold kzq; rw [if_neg (by omega), if_neg (by omega), if_neg (by omega), if_neg (by omega), if_neg (by omega)]
  rw [e]
  have n (j : Int) (h1 : 1 ≤ j) (h2 : j ≤ 18) : (op == j) = false := by simp; omega
  simp [zka, zfs, zf7, zfi, zey, zf0, zfd, Ev.pif, Ev.yz0, n]
 all_goals simp [zka, zfs, zf7, zfi, zey, zf0, zfd, Ev.pif, Ev.yz0, kzq]
theorem ycx {op : Int} : Ev (fun n => z6g n op) (kzq op) := by
 rcases ops op with rfl | rfl | rfl | rfl | rfl | rfl | rfl | rfl | rfl | rfl | rfl | rfl | rfl | rfl | rfl | rfl | rfl | rfl | h
 case inr.inr.inr.inr.inr.inr.inr.inr.inr.inr.inr.inr.inr.inr.inr.inr.inr.inr =>
  have e : kzq op = -2 := by unfold kzq; rw [if_neg (by omega), if_neg (by omega), if_neg (by omega), if_neg (by omega), if_neg (by omega)]
  rw [e]
  have n (j : Int) (h1 : 1 ≤ j) (h2 : j ≤ 18) : (op == j) = false := by simp; omega
  rw [zkn, Ev.yz2 (n 1 (by omega) (by omega)), n 2 (by omega) (by omega), zf8, Ev.yz2 (by rfl)]
  have l1 : Ev (fun m => yze m op false) (-2) := by simp [zfr, zez, Ev.pif, Ev.yz0, n]
  by_cases h3 : op ≥ 3
  ·rw [Ev.kz2 (by simpa using h3), Ev.yz2 (by simp; omega), Ev.yz2 (n 13 (by omega) (by omega)), Ev.yz2 (n 14 (by omega) (by omega)), n 17 (by omega) (by omega)]; exact l1
  ·rw [Ev.yz2 (by simpa using h3), Ev.yz2 (n 13 (by omega) (by omega)), Ev.yz2 (n 14 (by omega) (by omega)), n 17 (by omega) (by omega)]; exact l1
 all_goals simp [zkn, zf8, zfr, zez, Ev.pif, Ev.yz0, kzq]
noncomputable def zn9 (op : Int) (v : zz0) (nm : List UInt8) : Bool :=
 if op = 1 then yz6 v == 0 && (v.kind != 4 && nm.isEmpty) else if op = 2 then z6n nm && eqB v v0 else nm.isEmpty && eqB v v0
def zeg (op : Int) (k : Nat) : Bool := kzq op != -2 && (decide (kzq op < 0) || (k : Int) == kzq op)
mutual
noncomputable def z4x : zz1 → Bool
 | ⟨op, v, nm, l⟩ => zeg op l.length && (zn9 op v nm && z4r l)
noncomputable def z4r : List zz1 → Bool
 | [] => true
 | x :: l => z4x x && z4r l
end
theorem zbr (e : zz1) : z4x e = (zeg e.op e.args.length && (zn9 e.op e.value e.name && z4r e.args)) := by cases e; rw [z4x]
theorem zl1 (l : List zz1) : z4r l = l.all z4x := by
 induction l with
 | nil => rfl
 | cons x l ih => simp [z4r, ih]
noncomputable def kzr (e : zz1) : Int := if 100 < z09 e ∨ 12 < z92 e then 4 else if z4x e then 0 else 8
theorem ygk {e : zz1} (h : e.wf) : e.value.wf := by rw [zz1.z6p] at h; exact h.2.1
theorem ykm {e : zz1} (h : e.wf) : ∀ x ∈ e.args, x.wf := by rw [zz1.z6p] at h; exact h.2.2.2
theorem zq8 (s : List UInt8) : (!(s == [])) = !s.isEmpty := by cases s <;> rfl
theorem yi4 : ∀ e : zz1, e.wf → e.size ≤ 8388608 → Ev (fun n => z5s n e) (z4x e) := zd7 fun e ih hw hs => by
 have hsl := z4m e
 have hlen := zaz e.args
 have idx : ∀ k, k ≤ e.args.length → ∃ i : Int, Ev (fun n => kz5 n (k : Int) e.args (e.args.length : Int)) i ∧ decide (i ≥ 0) = !z4r (e.args.drop k) :=
  down ⟨-1, by rw [zzo, Ev.yz2 (by simp), Ev.yz0], by simp [z4r]⟩ fun k hk ihk => by
   have hx := List.getElem_mem hk
   have hsx := zd8 hx
   have hf1 : Ev (fun n => z50 n e.args[k]) (!z4x e.args[k]) := by
    rw [zur, zz1.zz3, Ev.kz0 (ih _ hx (ykm hw _ hx) (by omega)), Ev.yz0]
   obtain ⟨i, h1, h2⟩ := ihk
   rw [← List.getElem_cons_drop (h := hk), z4r]
   cases hf : z4x e.args[k]
   ·refine ⟨k, ?_, by simp⟩
    rw [zzo, Ev.kz2 (by simpa using hk), Ev.zz4 (yzv hk), zz1.zz3, Ev.kz0 hf1, Ev.kz2 (by rw [hf]; rfl), Ev.yz0]
   ·refine ⟨i, ?_, by rw [h2]; rfl⟩
    rw [zzo, Ev.kz2 (by simpa using hk), Ev.zz4 (yzv hk), zz1.zz3, Ev.kz0 hf1, Ev.yz2 (by rw [hf]; rfl), wrk (by omega)]
    exact h1
 have l4 : Ev (fun n => z0w n e) (z4r e.args) := by
  obtain ⟨i, h1, h2⟩ := idx 0 (Nat.zero_le _)
  have hi : Ev (fun n => zz9 n e.args) i := by rw [z86]; exact h1
  have hc : Ev (fun n => zz8 n e.args) (!z4r e.args) := by
   rw [z6l, Ev.kz0 hi, Ev.yz0, h2]; rfl
  rw [zr1, Ev.kz0 hc, Ev.yz0, Bool.not_not]
 have l1 : ∀ b, Ev (fun n => z0v n b e) (!b && z4r e.args) := fun b => by
  rw [zqo]; cases b
  ·rw [Ev.yz2 (by rfl), zz1.zz3]; exact l4
  ·rw [Ev.kz2 (by rfl), Ev.yz0]; rfl
 have l2 : ∀ b, Ev (fun n => z2t n b e) (!b && z4r e.args) := fun b => by
  rw [zql]; cases b
  ·rw [Ev.yz2 (by rfl), zz1.zz3]; exact l4
  ·rw [Ev.kz2 (by rfl), Ev.yz0]; rfl
 have l3 : ∀ b, Ev (fun n => z2l n b e) (!b && z4r e.args) := fun b => by
  rw [zr7]; cases b
  ·rw [Ev.yz2 (by rfl), zz1.zz3]; exact l4
  ·rw [Ev.kz2 (by rfl), Ev.yz0]; rfl
 have l0 : ∀ b, Ev (fun n => z0y n b e) (!b && (zn9 e.op e.value e.name && z4r e.args)) := fun b => by
  rw [zrb]; cases b
  case true => rw [Ev.kz2 (by rfl), Ev.yz0]; rfl
  rw [Ev.yz2 (by rfl)]
  have hsame : Ev (fun n => zzs n e.value (zz0.mk 0 (yz1.mk 0 0) false [] [])) (eqB e.value v0) := zlw e.value v0 (by omega)
  by_cases h1 : e.op = 1
  ·rw [Ev.kz2 (by simpa using h1), zz0.zz3, Ev.kz0 (z79 (ygk hw) (by omega)), zz1.zz3, zq8]
   simp only [zn9, if_pos h1]
   by_cases hc : yz6 e.value = 0
   ·rw [Ev.yz2 (by simpa using hc)]
    by_cases hk : e.value.kind = 4
    ·rw [Ev.kz2 (by simpa using hk)]
     refine (l1 true).to ?_; simp [hc, hk]
    ·rw [Ev.yz2 (by simpa using hk)]
     have hk' : (e.value.kind != 4) = true := by simpa using hk
     refine (l1 _).to ?_; simp [hc, hk']
   ·rw [Ev.kz2 (by simpa using hc)]
    refine (l1 true).to ?_; simp [hc]
  rw [Ev.yz2 (by simpa using h1)]
  by_cases h2 : e.op = 2
  ·rw [Ev.kz2 (by simpa using h2), Ev.kz0 (zv9 (by omega)), zz0.zz3, zz1.zz3]
   simp only [zn9, if_neg h1, if_pos h2]
   cases hn : z6n e.name
   ·rw [Ev.kz2 (by rfl)]
    exact (l2 true).to (by simp)
   ·rw [Ev.yz2 (by rfl), Ev.kz0 hsame]
    exact (l2 _).to (by simp)
  ·rw [Ev.yz2 (by simpa using h2), zq8, zz0.zz3, zz1.zz3]
   simp only [zn9, if_neg h1, if_neg h2]
   cases hn : e.name.isEmpty
   ·rw [Ev.kz2 (by rfl)]
    exact (l3 true).to (by simp)
   ·rw [Ev.yz2 (by rfl), Ev.kz0 hsame]
    exact (l3 _).to (by simp)
 rw [y6t, Ev.kz0 ye6, zbr, zz1.zz3]
 unfold zeg
 by_cases c1 : kzq e.op = -2
 ·rw [Ev.kz2 (by simpa using c1)]
  exact (l0 true).to (by simp [c1])
 rw [Ev.yz2 (by simpa using c1)]
 by_cases c2 : kzq e.op ≥ 0
 ·rw [Ev.kz2 (by simpa using c2)]
  refine (l0 _).to ?_
  rw [show decide (kzq e.op < 0) = false by simpa using c2, show (kzq e.op != -2) = true by simpa using c1]
  simp only [bne, Bool.not_not, Bool.true_and, Bool.false_or]
 ·rw [Ev.yz2 (by simpa using c2)]
  refine (l0 _).to ?_
  rw [show decide (kzq e.op < 0) = true by simp; omega, show (kzq e.op != -2) = true by simpa using c1]
  simp
theorem ydk : ∀ e : zz1, e.size ≤ 8388608 → Ev (fun n => z4q n e) (z4x e) := zd7 fun e ih hs => by
 have hsl := z4m e
 have hlen := zaz e.args
 have loop : ∀ k, k ≤ e.args.length → Ev (fun n => z13 n (k : Int) e) (z4r (e.args.drop k)) :=
  down (by rw [zfp, Ev.yz2 (by simp), Ev.yz0]; simp [z4r]) fun k hk ihk => by
   have hx := List.getElem_mem hk
   have hsx := zd8 hx
   rw [← List.getElem_cons_drop (h := hk), z4r]
   rw [zfp, Ev.kz2 (by simpa using hk), Ev.zz4 (yzv hk), zz1.zz3, Ev.kz0 (ih _ hx (by omega))]
   cases hf : z4x e.args[k]
   ·rw [Ev.kz2 (by rfl), Ev.yz0]; rfl
   ·rw [Ev.yz2 (by rfl), wrk (by omega), zz1.zz3, Bool.true_and]; exact ihk
 have l2 : ∀ b, Ev (fun n => zzn n b e) (!b && z4r e.args) := fun b => by
  rw [zos]; cases b
  ·rw [Ev.yz2 (by rfl), zz1.zz3]; exact loop 0 (Nat.zero_le _)
  ·rw [Ev.kz2 (by rfl), Ev.yz0]; rfl
 have hgn : decide ((e.name.length : Int) > 0) = !e.name.isEmpty := by cases e.name <;> simp
 have l1 : ∀ b, Ev (fun n => zzh n b e) (!b && ((if e.op = 2 then z6n e.name else e.name.isEmpty) && z4r e.args)) := fun b => by
  rw [zo8]; cases b
  case true => rw [Ev.kz2 (by rfl), Ev.yz0]; rfl
  rw [Ev.yz2 (by rfl), zz1.zz3, hgn]
  by_cases h2 : e.op = 2
  ·rw [Ev.kz2 (by simpa using h2), if_pos h2, Ev.kz0 (yac (by omega))]
   cases hn : z6n e.name
   ·rw [Ev.kz2 (by rfl)]; exact (l2 true).to (by simp)
   ·rw [Ev.yz2 (by rfl), Ev.yz2 (by simpa using h2)]; exact (l2 false).to (by simp)
  ·rw [Ev.yz2 (by simpa using h2), Ev.kz2 (by simpa using h2), if_neg h2]; exact (l2 _).to (by simp)
 have l0 : ∀ b, Ev (fun n => z03 n b e) (!b && (zn9 e.op e.value e.name && z4r e.args)) := fun b => by
  rw [zo0]; cases b
  case true => rw [Ev.kz2 (by rfl), Ev.yz0]; rfl
  rw [Ev.yz2 (by rfl), zz0.zz3, zz1.zz3]
  have hsame : Ev (fun n => zzy n e.value (zz0.mk 0 (yz1.mk 0 0) false [] [])) (eqB e.value v0) := ztw e.value v0 (by omega)
  by_cases h1 : e.op = 1
  ·rw [Ev.kz2 (by simpa using h1), Ev.kz0 (yby (by omega))]
   simp only [zn9, if_pos h1]
   by_cases hc : yz6 e.value = 0
   ·rw [Ev.yz2 (by simpa using hc)]
    by_cases hk : e.value.kind = 4
    ·rw [Ev.kz2 (by simpa using hk)]
     refine (l1 true).to ?_; simp [hc, hk]
    ·rw [Ev.yz2 (by simpa using hk), Ev.yz2 (by simpa using h1)]
     have hk' : (e.value.kind != 4) = true := by simpa using hk
     refine (l1 _).to ?_; simp [hc, hk', h1]
   ·rw [Ev.kz2 (by simpa using hc)]
    refine (l1 true).to ?_; simp [hc]
  ·rw [Ev.yz2 (by simpa using h1), Ev.kz2 (by simpa using h1), Ev.kz0 hsame]
   refine (l1 _).to ?_
   simp only [zn9, if_neg h1]
   split
   ·cases eqB e.value v0 <;> cases z6n e.name <;> simp
   ·cases eqB e.value v0 <;> cases e.name.isEmpty <;> simp
 rw [zwo, Ev.kz0 ycx, zbr, zz1.zz3]
 unfold zeg
 by_cases c1 : kzq e.op = -2
 ·rw [Ev.kz2 (by simpa using c1)]
  exact (l0 true).to (by simp [c1])
 rw [Ev.yz2 (by simpa using c1)]
 by_cases c2 : kzq e.op ≥ 0
 ·rw [Ev.kz2 (by simpa using c2)]
  refine (l0 _).to ?_
  rw [show decide (kzq e.op < 0) = false by simpa using c2, show (kzq e.op != -2) = true by simpa using c1]
  simp only [bne, Bool.not_not, Bool.true_and, Bool.false_or]
 ·rw [Ev.yz2 (by simpa using c2)]
  refine (l0 _).to ?_
  rw [show decide (kzq e.op < 0) = true by simp; omega, show (kzq e.op != -2) = true by simpa using c1]
  simp
theorem zgl {e : zz1} (hw : e.wf) (hs : e.size ≤ 8388608) : Ev (fun n => z1w n e) (kzr e) := by
 have l0 : ∀ b, Ev (fun n => z16 n b e) (if b then 4 else if z4x e then 0 else 8) := fun b => by
  rw [zp1]
  cases b
  ·rw [Ev.yz2 (by rfl), zz1.zz3, Ev.kz0 (yi4 e hw hs)]
   cases z4x e
   ·rw [Ev.kz2 (by rfl), Ev.yz0]; rfl
   ·rw [Ev.yz2 (by rfl), Ev.yz0]; rfl
  ·rw [Ev.kz2 (by rfl), Ev.yz0]; rfl
 rw [y0q, zz1.zz3, Ev.kz0 (y4l e hs)]
 unfold kzr
 simp only [Ev.pif]
 by_cases h1 : 100 < z09 e
 ·rw [if_pos (by simp; omega), if_pos (.inl h1)]; exact l0 true
 ·rw [if_neg (by simp; omega)]
  by_cases h2 : 12 < z92 e
  ·rw [if_pos (.inr h2), show decide ((z92 e : Int) > 12) = true by simp; omega]; exact l0 true
  ·rw [if_neg (by omega), show decide ((z92 e : Int) > 12) = false by simp; omega]; exact l0 false
theorem zq1 {e : zz1} (hs : e.size ≤ 8388608) : Ev (fun n => z4y n e) (kzr e) := by
 have l0 : ∀ b, Ev (fun n => z0d n b e) (if b then 4 else if z4x e then 0 else 8) := fun b => by
  rw [zm2]
  cases b
  ·rw [Ev.yz2 (by rfl), zz1.zz3, Ev.kz0 (ydk e hs)]
   cases z4x e
   ·rw [Ev.kz2 (by rfl), Ev.yz0]; rfl
   ·rw [Ev.yz2 (by rfl), Ev.yz0]; rfl
  ·rw [Ev.kz2 (by rfl), Ev.yz0]; rfl
 rw [zsm, zz1.zz3, Ev.kz0 (zpp e hs)]
 unfold kzr
 by_cases h1 : 100 < z09 e
 ·rw [Ev.kz2 (by simp; omega), if_pos (.inl h1)]; exact l0 true
 ·rw [Ev.yz2 (by simp; omega), Ev.kz0 (yew e hs)]
  by_cases h2 : 12 < z92 e
  ·rw [if_pos (.inr h2), show decide ((z92 e : Int) > 12) = true by simp; omega]; exact l0 true
  ·rw [if_neg (by omega), show decide ((z92 e : Int) > 12) = false by simp; omega]; exact l0 false
theorem z74 {e : zz1} (h : kzr e = 0) : z4x e = true ∧ z09 e ≤ 100 ∧ z92 e ≤ 12 := by
 unfold kzr at h
 split at h
 ·cases h
 ·split at h
  ·exact ⟨‹_›, by omega, by omega⟩
  ·cases h
theorem ybn : ∀ e : zz1, e.size ≤ 8388608 → ∀ d : Int, ∃ b, Ev (fun n => z3q n e d) b := zd7 fun e ih hs d => by
 have hsl := z4m e
 have hlen := zaz e.args
 have loop : ∀ k, k ≤ e.args.length → ∀ d : Int, ∃ b, Ev (fun n => z0i n (k : Int) d e) b :=
  down (fun d => ⟨false, by rw [zdx, Ev.yz2 (by simp), Ev.yz0]⟩) fun k hk ihk d => by
   have hx := List.getElem_mem hk
   have hsx := zd8 hx
   obtain ⟨b, hb⟩ := ih _ hx (by omega) (IntKind.i64.wrap (d - 1))
   obtain ⟨c, hc⟩ := ihk d
   refine ⟨if b then true else c, ?_⟩
   rw [zdx, Ev.kz2 (by simpa using hk), Ev.zz4 (yzv hk), zz1.zz3, Ev.kz0 hb, zz1.zz3, wrk (by omega)]
   cases b
   ·rw [Ev.yz2 (by rfl)]; exact hc
   ·rw [Ev.kz2 (by rfl), Ev.yz0]; rfl
 have l0 : ∀ d b, ∃ c, Ev (fun n => yzp n d b e) c := fun d b => by
  cases b
  ·obtain ⟨c, hc⟩ := loop 0 (Nat.zero_le _) d
   exact ⟨c, by rw [zdt, Ev.yz2 (by rfl), zz1.zz3]; exact hc⟩
  ·exact ⟨true, by rw [zdt, Ev.kz2 (by rfl), Ev.yz0]⟩
 obtain ⟨g, hg⟩ := zho (v := e.value) (by omega)
 simp only [zsz, zz1.zz3, zz0.zz3, Ev.pif, Ev.kz0 hg]
 split
 ·exact l0 _ _
 split
 ·exact l0 _ _
 split
 ·exact l0 _ _
 ·exact l0 _ _
theorem yaf {e : zz1} (hs : e.size ≤ 8388608) : ∃ b, Ev (fun n => z54 n e) b := by
 obtain ⟨b, hb⟩ := ybn e hs 16
 cases b
 ·exact ⟨_, by rw [zi7, zz1.zz3, Ev.kz0 hb, Ev.yz2 (by rfl), Ev.kz0 (zpp e hs)]; exact Ev.yz0.2 rfl⟩
 ·exact ⟨true, by rw [zi7, zz1.zz3, Ev.kz0 hb, Ev.kz2 (by rfl), Ev.yz0]⟩
end Go.Proofs.YtfhpamcehnfhoaaGreatDoor


namespace Go.Proofs.YtfhpamcehnfhoaaGreatDoor
open Go Go.Ab
set_option linter.unusedVariables false
set_option linter.unusedSimpArgs false
theorem yfb : ∀ v : zz0, z4t v = true → v.size ≤ 68 * z2n v := zg0 fun v ih h => by
 have hl : ∀ l : List zz0, (∀ x ∈ l, x ∈ v.list) → (l.map zz0.size).sum ≤ 68 * zzj l := fun l => by
  induction l with
  | nil => intro _; simp
  | cons x l ihl =>
    intro hm
    have h1 := ih x (hm x List.mem_cons_self) (z9k h x (hm x List.mem_cons_self))
    have h2 := ihl fun y hy => hm y (List.mem_cons_of_mem _ hy)
    simp [zzj]; omega
 have hl := hl v.list fun _ h => h
 rw [zz0.size_eq, yz1.size_eq, kzx]
 rw [z63] at h
 split at h
 ·rename_i hk
  simp only [Bool.and_eq_true, List.isEmpty_iff] at h
  rw [if_neg (by omega), h.2.2.1, h.2.2.2]; simp
 split at h
 ·simp only [Bool.and_eq_true, List.isEmpty_iff] at h
  rw [if_neg (by omega), h.2.1, h.2.2]; simp
 split at h
 ·simp only [Bool.and_eq_true, List.isEmpty_iff, decide_eq_true_eq] at h
  rw [if_neg (by omega), h.2.2.1]
  have := h.2.2.2.1
  simp; omega
 split at h
 ·rename_i hk
  simp only [Bool.and_eq_true, List.isEmpty_iff] at h
  rw [if_pos hk, h.2.2.1]
  simp; omega
 ·cases h
theorem yfc {r : yz1} (h : nul r = true) : r.wf := by
 simp only [nul, Bool.and_eq_true, beq_iff_eq] at h
 rw [yz1.z6p, h.1, h.2]; decide
theorem ymm {r : yz1} (h : rok r = true) : r.wf := by
 rw [z6o] at h
 rw [yz1.z6p, show IntKind.i64.min = -9223372036854775808 from by decide, show IntKind.i64.max = 9223372036854775807 from by decide]
 omega
theorem yk0 : ∀ v : zz0, z4t v = true → v.wf := zg0 fun v ih h => by
 have hl : ∀ x ∈ v.list, x.wf := fun x hx => ih x hx (z9k h x hx)
 have hk := zls h
 have hn : v.num.wf := by
  rw [z63] at h
  split at h
  ·simp only [Bool.and_eq_true] at h; exact ymm h.1
  split at h
  ·simp only [Bool.and_eq_true] at h; exact yfc h.1
  split at h
  ·simp only [Bool.and_eq_true] at h; exact yfc h.1
  split at h
  ·simp only [Bool.and_eq_true] at h; exact yfc h.1
  ·cases h
 rw [zz0.z6p]
 refine ⟨?_, hn, trivial, trivial, hl⟩
 simp only [IntKind.min, IntKind.max, IntKind.signed, IntKind.bits]
 rcases hk with h | h | h | h <;> rw [h] <;> decide
theorem vok {v : zz0} (h : yz6 v = 0) : v.wf ∧ v.size ≤ 6800 := by
 obtain ⟨h1, h2, _⟩ := z2d h
 have := yfb v h1
 exact ⟨yk0 v h1, by omega⟩
theorem zjn {v : zz0} (h1 : z4t v = true) (h2 : z2n v ≤ 100) (h3 : z7f v ≤ 6) : yz6 v = 0 := by
 unfold yz6; rw [if_neg (by omega), if_pos h1]
def zbq (r : Int × zz0) : Res (Int × Unit) zz0 := if r.1 = 0 then .ok r.2 else .pan (r.1, ())
theorem z7i {r : Int × zz0} (h : r.1 = 0) : zbq r = .ok r.2 := by unfold zbq; rw [if_pos h]
theorem z14 {r : Int × zz0} (h : r.1 ≠ 0) : zbq r = .pan (r.1, ()) := by unfold zbq; rw [if_neg h]
theorem zgm : Ev (fun n => yzg n 0) (.ok ()) := by rw [zmb, Ev.yz2 (by rfl), Ev.yz0]
theorem z90 {e : Int} (h : e ≠ 0) : Ev (fun n => yzg n e) (.pan (e, ())) := by rw [zmb, Ev.kz2 (by simpa using h), Ev.yz0]
theorem zcw {k : Int} {l : List zz0} (hl : l.length ≤ 8388608) : Ev (fun n => zzd n k l) (if l.all (fun v => v.kind == k) then .ok () else .pan (20, ())) := by
 have loop : ∀ j, j ≤ l.length → Ev (fun n => z2q n (j : Int) k l (l.length : Int)) (if (l.drop j).all (fun v => v.kind == k) then .ok () else .pan (20, ())) :=
  down (by rw [zh3, Ev.yz2 (by simp), Ev.yz0]; simp) fun j hj ih => by
   rw [← List.getElem_cons_drop (h := hj), List.all_cons]
   rw [zh3, Ev.kz2 (by simpa using hj), Ev.zz4 (yzv hj)]
   by_cases h : l[j].kind = k
   ·rw [Ev.yz2 (by simpa using h), zqt, wrk (by omega)]
    simp only [h, beq_self_eq_true, Bool.true_and]; exact ih
   ·rw [Ev.kz2 (by simpa using h), Ev.kz0 (z90 (by decide)), Ev.kzy, Ev.yz0]
    have : (l[j].kind == k) = false := by simpa using h
    rw [this]; rfl
 rw [y3l]; exact loop 0 (Nat.zero_le _)
def ye7 (r : yz1) : zz0 := ⟨1, r, false, [], []⟩
def zep (b : Bool) : zz0 := ⟨2, ⟨0, 0⟩, b, [], []⟩
def zg4 (l : List zz0) : zz0 := ⟨4, ⟨0, 0⟩, false, [], l⟩
def zg9 (r : Int × yz1) : Int × zz0 := if r.1 = 0 then (0, ye7 r.2) else (r.1, v0)
theorem zi5 {r : Int × yz1} : Ev (fun n => yzr n r.2 r.1) (zbq (zg9 r)) := by
 unfold zg9
 rw [zsl]
 by_cases h : r.1 = 0
 ·rw [h, Ev.kz0 zgm, Ev.z30, Ev.yz0, if_pos rfl, z7i rfl]; rfl
 ·rw [Ev.kz0 (z90 h), Ev.kzy, Ev.yz0, if_neg h, z14 h]
theorem z9i {b : Bool} : Ev (fun n => yzs n b) (zep b) := by rw [zxg, Ev.yz0]; rfl
theorem y2e {n : Int} (h : -1000000000 ≤ n ∧ n ≤ 1000000000) : zku n 1 = (0, ⟨n, 1⟩) := by
 unfold zku
 rw [if_neg (by decide)]
 simp only [Int.natAbs_one, Nat.gcd_one_right, Nat.div_one]
 rw [if_pos (by omega)]
 by_cases h0 : n < 0
 ·simp [h0]; omega
 ·simp [h0]; omega
noncomputable def z5n (op : Int) (l : List zz0) : Int × zz0 :=
 if op = 3 then y0a (l.getD 0 v0) (l.getD 1 v0)
 else if op = 4 then (if l.all (fun v => v.kind == 1) then zg9 (z7y ydh (l.getD 0 v0).num (l.getD 1 v0).num) else (20, v0))
 else if op = 5 then (if l.all (fun v => v.kind == 1) then zg9 (z7y yen (l.getD 0 v0).num (l.getD 1 v0).num) else (20, v0))
 else if op = 6 then (if l.all (fun v => v.kind == 1) then zg9 (z7y fdiv (l.getD 0 v0).num (l.getD 1 v0).num) else (20, v0))
 else if op = 8 then (0, zep (eqB (l.getD 0 v0) (l.getD 1 v0)))
 else if op = 7 ∨ op = 13 ∨ op = 14 then
  (if (z4w (l.getD 0 v0) (l.getD 1 v0)).2 ≠ 0 then ((z4w (l.getD 0 v0) (l.getD 1 v0)).2, v0)
  else if op = 7 then (0, zep (decide ((z4w (l.getD 0 v0) (l.getD 1 v0)).1 < 0)))
  else if op = 13 then (0, if (z4w (l.getD 0 v0) (l.getD 1 v0)).1 > 0 then l.getD 1 v0 else l.getD 0 v0)
  else (0, if (z4w (l.getD 0 v0) (l.getD 1 v0)).1 < 0 then l.getD 1 v0 else l.getD 0 v0))
 else if op = 9 then (if l.all (fun v => v.kind == 2) then (0, zep ((l.getD 0 v0).truth && (l.getD 1 v0).truth)) else (20, v0))
 else if op = 10 then (if l.all (fun v => v.kind == 2) then (0, zep ((l.getD 0 v0).truth || (l.getD 1 v0).truth)) else (20, v0))
 else if op = 11 then (if l.all (fun v => v.kind == 2) then (0, zep (!(l.getD 0 v0).truth)) else (20, v0))
 else if op = 15 then (if l.all (fun v => v.kind == 1) then (0, ye7 ⟨(zeo (l.getD 0 v0).num).1, 1⟩) else (20, v0))
 else if op = 16 then (if (zal (l.getD 0 v0)).2 ≠ 0 then ((zal (l.getD 0 v0)).2, v0) else (0, ye7 ⟨(zal (l.getD 0 v0)).1, 1⟩))
 else if op = 17 then
  (if (zal (l.getD 0 v0)).2 ≠ 0 then ((zal (l.getD 0 v0)).2, v0)
  else if (l.getD 1 v0).kind ≠ 1 then (20, v0)
  else if (l.getD 1 v0).num.den ≠ 1 then (2, v0)
  else vat (l.getD 0 v0) (l.getD 1 v0).num.num)
 else (if yz6 (zg4 l) ≠ 0 then (yz6 (zg4 l), v0) else (0, zg4 l))
theorem yap {r : yz1} : -1000000000 ≤ (zeo r).1 ∧ (zeo r).1 ≤ 1000000000 := by
 unfold zeo
 split
 ·rename_i h
  obtain ⟨h1, _, h3⟩ := zh1 h
  exact y2d h1 h3
 ·decide
theorem yl0 {v : zz0} (hs : v.size ≤ 6800) : 0 ≤ (zal v).1 ∧ (zal v).1 ≤ 6800 := by
 have h1 := zzr v; have h2 := z3n v.list
 unfold zal
 split
 ·exact ⟨by simp, by simp⟩
 split
 ·exact ⟨by simp, by simp only; omega⟩
 split
 ·exact ⟨by simp, by simp only; omega⟩
 ·exact ⟨by simp, by simp⟩
theorem ztu : ∀ {l : List zz0}, (∀ x ∈ l, yz6 x = 0) → (l.map zz0.size).sum ≤ 6800 * l.length
 | [], _ => by simp
 | x :: l, h => by
   have h1 := (vok (h x List.mem_cons_self)).2
   have h2 := ztu (l := l) fun y hy => h y (List.mem_cons_of_mem _ hy)
   simp; omega
theorem yjx {l : List zz0} (h : ∀ x ∈ l, yz6 x = 0) (hl : l.length ≤ 100) : (zg4 l).wf ∧ (zg4 l).size ≤ 8388608 := by
 have h2 := ztu h
 constructor
 ·rw [zz0.z6p]
  refine ⟨(by decide : IntKind.u8.min ≤ (4 : Int) ∧ (4 : Int) ≤ IntKind.u8.max), ?_, trivial, trivial, fun x hx => (vok (h x hx)).1⟩
  exact (by rw [yz1.z6p]; decide : (⟨0, 0⟩ : yz1).wf)
 ·rw [zz0.size_eq, yz1.size_eq]; simp only [zg4, List.length_nil]; omega
theorem ops2 {op : Int} (h : kzq op = 2) : (3 ≤ op ∧ op ≤ 10) ∨ op = 13 ∨ op = 14 ∨ op = 17 := by
 unfold kzq at h
 split at h
 ·cases h
 ·split at h
  ·assumption
  ·split at h
   ·cases h
   ·split at h
    ·cases h
    ·split at h <;> cases h
theorem ops1 {op : Int} (h : kzq op = 1) : op = 11 ∨ op = 15 ∨ op = 16 := by
 unfold kzq at h
 split at h
 ·cases h
 ·split at h
  ·cases h
  ·split at h
   ·assumption
   ·split at h
    ·cases h
    ·split at h <;> cases h
theorem yaw {op : Int} {a b : zz0} (hop : kzq op = 2) (ha : yz6 a = 0) (hb : yz6 b = 0) : Ev (fun n => z1v n op [a, b]) (zbq (z5n op [a, b])) := by
 obtain ⟨wa, sa⟩ := vok ha
 obtain ⟨wb, sb⟩ := vok hb
 have i0 : ix [a, b] 0 = some a := rfl
 have i1 : ix [a, b] 1 = some b := rfl
 have n (i j : Int) (h : i ≠ j) : (i == j) = false := by simpa using h
 have kok : ∀ k : Int, [a, b].all (fun v => v.kind == k) = true → Ev (fun n => zzd n k [a, b]) (.ok ()) := fun k h => by have := zcw (k := k) (l := [a, b]) (by simp); rwa [if_pos h] at this
 have kpan : ∀ k : Int, [a, b].all (fun v => v.kind == k) = false → Ev (fun n => zzd n k [a, b]) (.pan (20, ())) := fun k h => by have := zcw (k := k) (l := [a, b]) (by simp); rwa [if_neg (by rw [h]; simp)] at this
 unfold z5n
 simp only [List.getD_cons_zero, List.getD_cons_succ]
 rw [zef]
 by_cases h3 : op = 3
 ·rw [Ev.kz2 (by simpa using h3), if_pos h3, Ev.zz4 i0, Ev.zz4 i1, zz0.zz3, zz0.zz3, Ev.kz0 (yhb wa wb (by omega) (by omega))]
  by_cases hz : (y0a a b).1 = 0
  ·rw [hz, Ev.kz0 zgm, Ev.z30, Ev.yz0, zz0.zz3, z7i hz]
  ·rw [Ev.kz0 (z90 hz), Ev.kzy, Ev.yz0, z14 hz]
 rw [Ev.yz2 (by simpa using h3), if_neg h3]
 have tail : ∀ {op : Int → Prop} {y : Int × zz0}, True := fun {_ _} => trivial
 have num : ∀ {go : Nat → Option (Int × yz1)} {f : yz1 → yz1 → Int × Int}, Ev go (z7y f a.num b.num) →
   Ev (fun n => (go n).bind fun y10 => (yzr n y10.2 y10.1).bind fun y11 => z6s y11 (fun r12 => some (Res.ok r12.re)) (fun e13 => some (Res.pan (e13.1, ())))) (zbq (zg9 (z7y f a.num b.num))) := fun {go f} h => by
  rw [Ev.kz0 h, Ev.kz0 zi5]
  by_cases hz : (zg9 (z7y f a.num b.num)).1 = 0
  ·rw [z7i hz, Ev.z30, Ev.yz0, zz0.zz3]
  ·rw [z14 hz, Ev.kzy, Ev.yz0]
 have pan20 : zbq (20, v0) = .pan (20, ()) := rfl
 by_cases h4 : op = 4
 ·rw [Ev.kz2 (by simpa using h4), if_pos h4]
  cases hk : [a, b].all (fun v => v.kind == 1)
  ·rw [Ev.kz0 (kpan 1 hk), Ev.kzy, Ev.yz0]; rfl
  ·rw [Ev.kz0 (kok 1 hk), Ev.z30, if_pos rfl, Ev.zz4 i0, Ev.zz4 i1]
   exact num (yi1 (zeh wa) (zeh wb))
 rw [Ev.yz2 (by simpa using h4), if_neg h4]
 by_cases h5 : op = 5
 ·rw [Ev.kz2 (by simpa using h5), if_pos h5]
  cases hk : [a, b].all (fun v => v.kind == 1)
  ·rw [Ev.kz0 (kpan 1 hk), Ev.kzy, Ev.yz0]; rfl
  ·rw [Ev.kz0 (kok 1 hk), Ev.z30, if_pos rfl, Ev.zz4 i0, Ev.zz4 i1]
   exact num (yi5 (zeh wa) (zeh wb))
 rw [Ev.yz2 (by simpa using h5), if_neg h5]
 by_cases h6 : op = 6
 ·rw [Ev.kz2 (by simpa using h6), if_pos h6]
  cases hk : [a, b].all (fun v => v.kind == 1)
  ·rw [Ev.kz0 (kpan 1 hk), Ev.kzy, Ev.yz0]; rfl
  ·rw [Ev.kz0 (kok 1 hk), Ev.z30, if_pos rfl, Ev.zz4 i0, Ev.zz4 i1]
   exact num (yhe (zeh wa) (zeh wb))
 rw [Ev.yz2 (by simpa using h6), if_neg h6]
 by_cases h8 : op = 8
 ·rw [Ev.kz2 (by simpa using h8), if_pos h8, Ev.zz4 i0, Ev.zz4 i1, zz0.zz3, zz0.zz3, Ev.kz0 (zlw a b (by omega)), Ev.kz0 z9i, Ev.yz0, zz0.zz3]; rfl
 rw [Ev.yz2 (by simpa using h8), if_neg h8]
 have l1 : ∀ c z, Ev (fun n => z11 n [a, b] c z) (.ok (if c then a else b)) := fun c z => by
  rw [zo5]; cases c
  ·rw [Ev.yz2 (by rfl), Ev.zz4 i1, Ev.yz0, zz0.zz3]; rfl
  ·rw [Ev.kz2 (by rfl), Ev.zz4 i0, Ev.yz0, zz0.zz3]; rfl
 have ord : (op = 7 ∨ op = 13 ∨ op = 14) → ∀ z, Ev (fun n => z06 n [a, b] op op true z) (zbq (if (z4w a b).2 ≠ 0 then ((z4w a b).2, v0)
  else if op = 7 then (0, zep (decide ((z4w a b).1 < 0)))
  else if op = 13 then (0, if (z4w a b).1 > 0 then b else a)
  else (0, if (z4w a b).1 < 0 then b else a))) := fun h z => by
  rw [z7p, Ev.kz2 (by rfl), Ev.zz4 i0, Ev.zz4 i1, zz0.zz3, zz0.zz3, Ev.kz0 (y0d wa wb (by omega) (by omega))]
  generalize z4w a b = c
  by_cases hz : c.2 = 0
  ·rw [hz, Ev.kz0 zgm, Ev.z30, if_neg (by simp)]
   by_cases h7 : op = 7
   ·rw [Ev.kz2 (by simpa using h7), if_pos h7, Ev.kz0 z9i, Ev.yz0, zz0.zz3]; rfl
   ·rw [Ev.yz2 (by simpa using h7), if_neg h7, zz0.zz3]
    by_cases h13 : op = 13
    ·rw [show (op == 13) = true by simpa using h13, if_pos h13]
     by_cases hc : c.1 ≤ 0
     ·rw [Ev.kz2 (by simp [hc])]
      exact (l1 _ _).to (by rw [if_neg (c := c.1 > 0) (by omega)]; rfl)
     ·rw [Ev.yz2 (by simp [hc]), show (c.1 == 0) = false by simp; omega]
      exact (l1 _ _).to (by rw [if_pos (c := c.1 > 0) (by omega)]; rfl)
    ·rw [show (op == 13) = false by simpa using h13, if_neg h13]
     by_cases hc : c.1 ≤ 0
     ·rw [Ev.yz2 (by simp [hc])]
      by_cases hc0 : c.1 = 0
      ·rw [show (c.1 == 0) = true by simpa using hc0]
       exact (l1 _ _).to (by rw [if_neg (c := c.1 < 0) (by omega)]; rfl)
      ·rw [show (c.1 == 0) = false by simpa using hc0]
       exact (l1 _ _).to (by rw [if_pos (c := c.1 < 0) (by omega)]; rfl)
     ·rw [Ev.kz2 (by simp [hc])]
      exact (l1 _ _).to (by rw [if_neg (c := c.1 < 0) (by omega)]; rfl)
  ·rw [Ev.kz0 (z90 hz), Ev.kzy, Ev.yz0, if_pos hz, z14 (by exact hz)]
 by_cases h7 : op = 7
 ·rw [Ev.kz2 (by simpa using h7), if_pos (.inl h7)]; exact ord (.inl h7) _
 rw [Ev.yz2 (by simpa using h7)]
 by_cases h13 : op = 13
 ·rw [Ev.kz2 (by simpa using h13), if_pos (.inr (.inl h13))]; exact ord (.inr (.inl h13)) _
 rw [Ev.yz2 (by simpa using h13)]
 by_cases h14 : op = 14
 ·rw [show (op == 14) = true by simpa using h14, if_pos (.inr (.inr h14))]; exact ord (.inr (.inr h14)) _
 rw [show (op == 14) = false by simpa using h14, if_neg (by omega), z7p, Ev.yz2 (by rfl)]
 by_cases h9 : op = 9
 ·rw [Ev.kz2 (by simpa using h9), if_pos h9]
  cases hk : [a, b].all (fun v => v.kind == 2)
  ·rw [Ev.kz0 (kpan 2 hk), Ev.kzy, Ev.yz0]; rfl
  ·rw [Ev.kz0 (kok 2 hk), Ev.z30, if_pos rfl, Ev.zz4 i0]
   cases ht : a.truth
   ·rw [Ev.yz2 (by rfl), Ev.kz0 z9i, Ev.yz0, zz0.zz3]; rfl
   ·rw [Ev.kz2 (by rfl), Ev.zz4 i1, Ev.kz0 z9i, Ev.yz0, zz0.zz3]; rfl
 rw [Ev.yz2 (by simpa using h9), if_neg h9]
 by_cases h10 : op = 10
 ·rw [Ev.kz2 (by simpa using h10), if_pos h10]
  cases hk : [a, b].all (fun v => v.kind == 2)
  ·rw [Ev.kz0 (kpan 2 hk), Ev.kzy, Ev.yz0]; rfl
  ·rw [Ev.kz0 (kok 2 hk), Ev.z30, if_pos rfl, Ev.zz4 i0]
   cases ht : a.truth
   ·rw [Ev.yz2 (by rfl), Ev.zz4 i1, Ev.kz0 z9i, Ev.yz0, zz0.zz3]; rfl
   ·rw [Ev.kz2 (by rfl), Ev.kz0 z9i, Ev.yz0, zz0.zz3]; rfl
 rw [Ev.yz2 (by simpa using h10), if_neg h10]
 have h17 : op = 17 := by have := ops2 hop; omega
 rw [Ev.yz2 (by simp; omega), Ev.yz2 (by simp; omega), Ev.yz2 (by simp; omega), Ev.kz2 (by simpa using h17), if_neg (by omega), if_neg (by omega), if_neg (by omega), if_pos h17]
 rw [Ev.zz4 i0, zz0.zz3, Ev.kz0 (zob wa (by omega))]
 by_cases hz : (zal a).2 = 0
 case neg => rw [Ev.kz0 (z90 hz), Ev.kzy, Ev.yz0, if_pos hz, z14 (by exact hz)]
 rw [hz, Ev.kz0 zgm, Ev.z30, if_neg (by simp), Ev.zz4 i1, zz0.zz3]
 have k1 : Ev (fun n => zzd n 1 [b]) (if [b].all (fun v => v.kind == 1) then .ok () else .pan (20, ())) := zcw (by simp)
 by_cases hk : b.kind = 1
 case neg =>
  rw [if_neg (by simpa using hk)] at k1
  rw [Ev.kz0 k1, Ev.kzy, Ev.yz0, if_pos hk]; rfl
 rw [if_pos (by simpa using hk)] at k1
 rw [Ev.kz0 k1, Ev.z30, Ev.zz4 i1, if_neg (by simpa using hk)]
 by_cases hd : b.num.den = 1
 case neg => rw [Ev.kz2 (by simpa using hd), Ev.kz0 (z90 (by decide)), Ev.kzy, Ev.yz0, if_pos hd]; rfl
 rw [Ev.yz2 (by simpa using hd), if_neg (by simpa using hd), zod, Ev.zz4 i0, Ev.zz4 i1, zz0.zz3, Ev.kz0 (yjl wa (by omega))]
 by_cases hv : (vat a b.num.num).1 = 0
 ·rw [hv, Ev.kz0 zgm, Ev.z30, Ev.yz0, zz0.zz3, z7i hv]
 ·rw [Ev.kz0 (z90 hv), Ev.kzy, Ev.yz0, z14 hv]
theorem ya2 {op : Int} {a : zz0} (hop : kzq op = 1) (ha : yz6 a = 0) : Ev (fun n => z1v n op [a]) (zbq (z5n op [a])) := by
 obtain ⟨wa, sa⟩ := vok ha
 have i0 : ix [a] 0 = some a := rfl
 have kok : ∀ k : Int, [a].all (fun v => v.kind == k) = true → Ev (fun n => zzd n k [a]) (.ok ()) := fun k h => by have := zcw (k := k) (l := [a]) (by simp); rwa [if_pos h] at this
 have kpan : ∀ k : Int, [a].all (fun v => v.kind == k) = false → Ev (fun n => zzd n k [a]) (.pan (20, ())) := fun k h => by have := zcw (k := k) (l := [a]) (by simp); rwa [if_neg (by rw [h]; simp)] at this
 have ho := ops1 hop
 unfold z5n
 simp only [List.getD_cons_zero]
 rw [zef, Ev.yz2 (by simp; omega), Ev.yz2 (by simp; omega), Ev.yz2 (by simp; omega), Ev.yz2 (by simp; omega), Ev.yz2 (by simp; omega), Ev.yz2 (by simp; omega), Ev.yz2 (by simp; omega), show (op == 14) = false by simp; omega, z7p, Ev.yz2 (by rfl), Ev.yz2 (by simp; omega), Ev.yz2 (by simp; omega)]
 rw [if_neg (by omega), if_neg (by omega), if_neg (by omega), if_neg (by omega), if_neg (by omega), if_neg (by omega), if_neg (by omega), if_neg (by omega)]
 by_cases h11 : op = 11
 ·rw [Ev.kz2 (by simpa using h11), if_pos h11]
  cases hk : [a].all (fun v => v.kind == 2)
  ·rw [Ev.kz0 (kpan 2 hk), Ev.kzy, Ev.yz0]; rfl
  ·rw [Ev.kz0 (kok 2 hk), Ev.z30, if_pos rfl, Ev.zz4 i0, Ev.kz0 z9i, Ev.yz0, zz0.zz3]; rfl
 rw [Ev.yz2 (by simpa using h11), if_neg h11]
 by_cases h15 : op = 15
 ·rw [Ev.kz2 (by simpa using h15), if_pos h15]
  cases hk : [a].all (fun v => v.kind == 1)
  ·rw [Ev.kz0 (kpan 1 hk), Ev.kzy, Ev.yz0]; rfl
  ·have hb := yap (r := a.num)
   have hm : Ev (fun n => z0c n (zeo a.num).1 1) (0, ⟨(zeo a.num).1, 1⟩) := by
    have := zln (num := (zeo a.num).1) (den := 1) (by unfold I64; omega) (by unfold I64; omega)
    rwa [y2e hb] at this
   rw [Ev.kz0 (kok 1 hk), Ev.z30, if_pos rfl, Ev.zz4 i0, Ev.kz0 (yb8 (zeh wa)), Ev.kz0 hm, Ev.kz0 (zi5 (r := (0, ⟨(zeo a.num).1, 1⟩)))]
   rw [z7i (by rfl), Ev.z30, Ev.yz0, zz0.zz3]; rfl
 have h16 : op = 16 := by omega
 rw [Ev.yz2 (by simpa using h15), if_neg h15, Ev.kz2 (by simpa using h16), if_pos h16, Ev.zz4 i0, zz0.zz3, Ev.kz0 (zob wa (by omega))]
 have hb := yl0 sa
 by_cases hz : (zal a).2 = 0
 ·have hm : Ev (fun n => z0c n (zal a).1 1) (0, ⟨(zal a).1, 1⟩) := by
   have := zln (num := (zal a).1) (den := 1) (by unfold I64; omega) (by unfold I64; omega)
   rwa [y2e (by omega)] at this
  rw [hz, Ev.kz0 zgm, Ev.z30, Ev.kz0 hm, Ev.kz0 (zi5 (r := (0, ⟨(zal a).1, 1⟩)))]
  rw [z7i (by rfl), Ev.z30, Ev.yz0, zz0.zz3, if_neg (by simp)]; rfl
 ·rw [Ev.kz0 (z90 hz), Ev.kzy, Ev.yz0, if_pos hz, z14 (by exact hz)]
theorem ya5 {l : List zz0} (hl : l.length ≤ 100) (h : ∀ x ∈ l, yz6 x = 0) : Ev (fun n => z1v n 18 l) (zbq (z5n 18 l)) := by
 obtain ⟨w, s⟩ := yjx h hl
 have hc : Ev (fun n => kzh n (zz0.mk 4 (yz1.mk 0 0) false [] l)) (yz6 (zg4 l)) := z79 w s
 rw [zef]
 iterate 7 rw [Ev.yz2 (by rfl)]
 rw [show ((18 : Int) == 14) = false from rfl, z7p]
 iterate 7 rw [Ev.yz2 (by rfl)]
 rw [Ev.kz0 hc]
 have e : z5n 18 l = if yz6 (zg4 l) ≠ 0 then (yz6 (zg4 l), v0) else (0, zg4 l) := by unfold z5n; simp
 rw [e]
 by_cases hz : yz6 (zg4 l) = 0
 ·rw [hz, Ev.kz0 zgm, Ev.z30, Ev.yz0]; rfl
 ·rw [Ev.kz0 (z90 hz), Ev.kzy, Ev.yz0, if_pos hz, z14 (by exact hz)]
end Go.Proofs.YtfhpamcehnfhoaaGreatDoor


namespace Go.Proofs.YtfhpamcehnfhoaaGreatDoor
open Go Go.Ab
set_option linter.unusedVariables false
set_option linter.unusedSimpArgs false
theorem zga (b : Bool) : yz6 (zep b) = 0 := by cases b <;> decide
theorem zl8 {r : yz1} (h : rok r = true) : yz6 (ye7 r) = 0 := by
 refine zjn ?_ ?_ ?_
 ·rw [z63]; simp [ye7, h]
 ·rw [kzx]; simp [ye7]
 ·rw [z8s]; simp [ye7]
theorem ygf {n : Int} (h : -1000000000 ≤ n ∧ n ≤ 1000000000) : rok ⟨n, 1⟩ = true := by
 rw [z6o]; simp; omega
theorem zsq {s : List UInt8} (h1 : s.length ≤ 60) (h2 : s.all zf6 = true) : yz6 ⟨3, ⟨0, 0⟩, false, s, []⟩ = 0 := by
 refine zjn ?_ ?_ ?_
 ·rw [z63]; simp only [nul]; simp [h1]; simpa using h2
 ·rw [kzx]; simp
 ·rw [z8s]; simp
theorem yd1 {v : zz0} (h : z4t v = true) (hk : v.kind = 3) : v.str.length ≤ 60 ∧ v.str.all zf6 = true := by
 rw [z63, if_neg (by omega), if_neg (by omega), if_pos hk] at h
 simp only [Bool.and_eq_true, decide_eq_true_eq] at h
 exact h.2.2.2
theorem yfq {f : yz1 → yz1 → Int × Int} {a b : yz1} (h : (zg9 (z7y f a b)).1 = 0) : yz6 (zg9 (z7y f a b)).2 = 0 := by
 unfold zg9 at h ⊢
 split at h
 ·rename_i hz
  rw [if_pos hz]
  refine zl8 ?_
  unfold z7y at hz ⊢
  split at hz
  ·rename_i hr; rw [if_pos hr]; exact ykn hz
  ·cases hz
 ·rename_i hz; exact (hz h).elim
theorem ybw {l : List zz0} {x : zz0} (h : x ∈ l) : z2n x ≤ zzj l ∧ 1 + z7f x ≤ z5e l := by
 induction l with
 | nil => cases h
 | cons y l ih =>
   rcases List.mem_cons.1 h with rfl | h
   · simp [zzj, z5e]; omega
   · have := ih h; simp [zzj, z5e]; omega
theorem zvd {v x : zz0} (h : yz6 v = 0) (hk : v.kind = 4) (hx : x ∈ v.list) : yz6 x = 0 := by
 obtain ⟨h1, h2, h3⟩ := z2d h
 obtain ⟨h4, h5⟩ := ybw hx
 rw [kzx, if_pos hk] at h2
 rw [z8s, if_pos hk] at h3
 exact zjn (z9k h1 x hx) (by omega) (by omega)
theorem ylg {a b : zz0} (h : (y0a a b).1 = 0) : yz6 (y0a a b).2 = 0 := by
 unfold y0a at h ⊢
 split at h
 ·rename_i hz; exact (hz h).elim
 rename_i hz
 rw [if_neg hz]
 have hz : zhv a b = 0 := by simpa using hz
 obtain ⟨c1, c2⟩ := zv7 hz
 obtain ⟨f1, p1, d1⟩ := z2d c1
 obtain ⟨f2, p2, d2⟩ := z2d c2
 split at h
 ·cases h
 rename_i hk
 rw [if_neg hk]
 split at h
 ·rename_i h1
  rw [if_pos h1]
  split at h
  ·rename_i hr; exact (hr h).elim
  ·rename_i hr
   rw [if_neg hr]
   have hr : (z7y zr6 a.num b.num).1 = 0 := by simpa using hr
   have := yfq (f := zr6) (a := a.num) (b := b.num) (by unfold zg9; rw [if_pos hr])
   unfold zg9 at this
   rw [if_pos hr] at this
   exact this
 rename_i h1
 rw [if_neg h1]
 split at h
 ·rename_i h3
  rw [if_pos h3]
  split at h
  ·cases h
  ·rename_i hl
   rw [if_neg hl]
   refine zsq (by simp; omega) ?_
   rw [List.all_append, (yd1 f1 h3).2, (yd1 f2 (by omega)).2]; rfl
 rename_i h3
 rw [if_neg h3]
 split at h
 ·cases h
 rename_i hl
 rw [if_neg hl]
 have k4 : a.kind = 4 := by have := zls f1; omega
 have k4b : b.kind = 4 := by omega
 have app : ∀ l m : List zz0, zzj (l ++ m) = zzj l + zzj m ∧ z5e (l ++ m) = max (z5e l) (z5e m) := fun l m => by
  induction l with
  | nil => simp [zzj, z5e]
  | cons x l ih => simp [zzj, z5e, ih]; omega
 obtain ⟨e1, e2⟩ := app a.list b.list
 rw [kzx, if_pos k4] at p1; rw [kzx, if_pos k4b] at p2
 rw [z8s, if_pos k4] at d1; rw [z8s, if_pos k4b] at d2
 rw [kzx, kzx b, if_pos k4, if_pos k4b] at hl
 refine zjn ?_ ?_ ?_
 ·rw [z63]
  have : za1 (a.list ++ b.list) = true := by
   rw [zv5, List.all_append, Bool.and_eq_true, List.all_eq_true, List.all_eq_true]
   exact ⟨z9k f1, z9k f2⟩
  simp [nul, this]
 ·rw [kzx, if_pos rfl, e1]; omega
 ·rw [z8s, if_pos rfl, e2]; omega
theorem ymg {v : zz0} {i : Int} (h : (vat v i).1 = 0) : yz6 (vat v i).2 = 0 := by
 unfold vat at h ⊢
 split at h
 ·rename_i hz; exact (hz h).elim
 rename_i hz
 rw [if_neg hz]
 obtain ⟨c, hk⟩ := yfv (by simpa using hz)
 split at h
 ·cases h
 rename_i hi
 rw [if_neg hi]
 split at h
 ·rename_i k4
  rw [if_pos k4]
  have e : (zal v).1 = v.list.length := by rcases hk with ⟨h3, _⟩ | ⟨_, e⟩; omega; exact e
  have hlt : i.toNat < v.list.length := by omega
  rw [List.getElem?_eq_getElem hlt]
  exact zvd c k4 (List.getElem_mem hlt)
 ·rename_i k4
  rw [if_neg k4]
  have k3 : v.kind = 3 := by rcases hk with ⟨h3, _⟩ | ⟨h4, _⟩; exact h3; exact (k4 h4).elim
  obtain ⟨f1, _, _⟩ := z2d c
  obtain ⟨s1, s2⟩ := yd1 f1 k3
  refine zsq ?_ ?_
  ·rw [List.length_take]; omega
  ·rw [List.all_eq_true] at s2 ⊢
   intro x hx
   exact s2 x (List.mem_of_mem_drop (List.mem_of_mem_take hx))
theorem yh9 {op : Int} {l : List zz0} (hl : ∀ x ∈ l, yz6 x = 0) (hop : kzq op = l.length ∧ (l.length = 1 ∨ l.length = 2) ∨ op = 18) (h : (z5n op l).1 = 0) : yz6 (z5n op l).2 = 0 := by
 have g0 : 1 ≤ l.length → yz6 (l.getD 0 v0) = 0 := fun hh => by
  rw [List.getD_eq_getElem?_getD, List.getElem?_eq_getElem (by omega)]; exact hl _ (List.getElem_mem _)
 have g1 : 2 ≤ l.length → yz6 (l.getD 1 v0) = 0 := fun hh => by
  rw [List.getD_eq_getElem?_getD, List.getElem?_eq_getElem (by omega)]; exact hl _ (List.getElem_mem _)
 have hc2 : (3 ≤ op ∧ op ≤ 10) ∨ op = 13 ∨ op = 14 ∨ op = 17 → l.length = 2 := fun hh => by
  rcases hop with ⟨h1, h2⟩ | h1
  ·rcases h2 with h2 | h2
   ·rw [h2] at h1; have := ops1 h1; omega
   ·exact h2
  ·omega
 have hc1 : op = 11 ∨ op = 15 ∨ op = 16 → l.length = 1 := fun hh => by
  rcases hop with ⟨h1, h2⟩ | h1
  ·rcases h2 with h2 | h2
   ·exact h2
   ·rw [h2] at h1; have := ops2 h1; omega
  ·omega
 unfold z5n at h ⊢
 by_cases h3 : op = 3
 ·rw [if_pos h3] at h ⊢; exact ylg h
 rw [if_neg h3] at h ⊢
 have num : ∀ {f : yz1 → yz1 → Int × Int} {c : Bool} {a b : yz1}, (if c = true then zg9 (z7y f a b) else (20, v0)).1 = 0 → yz6 (if c = true then zg9 (z7y f a b) else (20, v0)).2 = 0 := fun {f c a b} h => by
  cases c
  ·cases h
  ·rw [if_pos rfl] at h ⊢; exact yfq h
 by_cases h4 : op = 4
 ·rw [if_pos h4] at h ⊢; exact num h
 rw [if_neg h4] at h ⊢
 by_cases h5 : op = 5
 ·rw [if_pos h5] at h ⊢; exact num h
 rw [if_neg h5] at h ⊢
 by_cases h6 : op = 6
 ·rw [if_pos h6] at h ⊢; exact num h
 rw [if_neg h6] at h ⊢
 by_cases h8 : op = 8
 ·rw [if_pos h8]; exact zga _
 rw [if_neg h8] at h ⊢
 by_cases h7 : op = 7 ∨ op = 13 ∨ op = 14
 ·rw [if_pos h7] at h ⊢
  have hlen := hc2 (by omega)
  split at h
  ·rename_i hz; exact (hz h).elim
  rename_i hz
  rw [if_neg hz]
  split
  ·exact zga _
  split
  ·simp only; split
   ·exact g1 (by omega)
   ·exact g0 (by omega)
  ·simp only; split
   ·exact g1 (by omega)
   ·exact g0 (by omega)
 rw [if_neg h7] at h ⊢
 have tr : ∀ {c b : Bool}, (if c = true then ((0 : Int), zep b) else (20, v0)).1 = 0 → yz6 (if c = true then ((0 : Int), zep b) else (20, v0)).2 = 0 := fun {c b} h => by
  cases c
  ·cases h
  ·exact zga _
 by_cases h9 : op = 9
 ·rw [if_pos h9] at h ⊢; exact tr h
 rw [if_neg h9] at h ⊢
 by_cases h10 : op = 10
 ·rw [if_pos h10] at h ⊢; exact tr h
 rw [if_neg h10] at h ⊢
 by_cases h11 : op = 11
 ·rw [if_pos h11] at h ⊢; exact tr h
 rw [if_neg h11] at h ⊢
 by_cases h15 : op = 15
 ·rw [if_pos h15] at h ⊢
  split at h
  ·rename_i hk; rw [if_pos hk]; exact zl8 (ygf yap)
  ·cases h
 rw [if_neg h15] at h ⊢
 by_cases h16 : op = 16
 ·rw [if_pos h16] at h ⊢
  have := yl0 (vok (g0 (by have := hc1 (by omega); omega))).2
  split at h
  ·rename_i hz; exact (hz h).elim
  ·rename_i hz; rw [if_neg hz]; exact zl8 (ygf (by omega))
 rw [if_neg h16] at h ⊢
 by_cases h17 : op = 17
 ·rw [if_pos h17] at h ⊢
  split at h
  ·rename_i hz; exact (hz h).elim
  rename_i hz
  rw [if_neg hz]
  split at h
  ·cases h
  rename_i hk
  rw [if_neg hk]
  split at h
  ·cases h
  rename_i hd
  rw [if_neg hd]
  exact ymg h
 rw [if_neg h17] at h ⊢
 split at h
 ·rename_i hz; exact (hz h).elim
 ·rename_i hz; rw [if_neg hz]; simpa using hz
end Go.Proofs.YtfhpamcehnfhoaaGreatDoor


namespace Go.Proofs.YtfhpamcehnfhoaaGreatDoor
open Go Go.Ab
set_option linter.unusedVariables false
set_option linter.unusedSimpArgs false
def look (env : List yz4) (nm : List UInt8) : Option zz0 := (env.find? fun b => b.name == nm).map (·.value)
mutual
noncomputable def eev (env : List yz4) : zz1 → Int × zz0
 | ⟨op, v, nm, l⟩ =>
   if op = 1 then (0, v)
   else if op = 2 then (match look env nm with | some x => (0, x) | none => (6, v0))
   else if op = 12 then ze9 env l
   else if (z9x env l).1 = 0 then z5n op (z9x env l).2 else ((z9x env l).1, v0)
noncomputable def ze9 (env : List yz4) : List zz1 → Int × zz0
 | [] => (0, v0)
 | c :: l => if (eev env c).1 ≠ 0 then ((eev env c).1, v0) else if (eev env c).2.kind ≠ 2 then (20, v0) else if (eev env c).2.truth then z69 env l 0 else z69 env l 1
noncomputable def z69 (env : List yz4) : List zz1 → Nat → Int × zz0
 | [], _ => (0, v0)
 | x :: _, 0 => eev env x
 | _ :: l, k + 1 => z69 env l k
noncomputable def z9x (env : List yz4) : List zz1 → Int × List zz0
 | [] => (0, [])
 | x :: l => if (eev env x).1 ≠ 0 then ((eev env x).1, []) else ((z9x env l).1, (eev env x).2 :: (z9x env l).2)
end
theorem zjb (b : yz4) (l : List yz4) (nm : List UInt8) : look (b :: l) nm = if b.name = nm then some b.value else look l nm := by
 unfold look
 by_cases h : b.name = nm
 ·rw [List.find?_cons_of_pos (by simpa using h), if_pos h]; rfl
 ·rw [List.find?_cons_of_neg (by simpa using h), if_neg h]
theorem znr (env : List yz4) (e : zz1) : eev env e =
  if e.op = 1 then ((0 : Int), e.value)
  else if e.op = 2 then (match look env e.name with | some x => (0, x) | none => (6, v0))
  else if e.op = 12 then ze9 env e.args
  else if (z9x env e.args).1 = 0 then z5n e.op (z9x env e.args).2 else ((z9x env e.args).1, v0) := by cases e; rw [eev]
theorem y1u (env : List yz4) : ∀ (l : List zz1) (k : Nat) (h : k < l.length), z69 env l k = eev env l[k]
 | x :: l, 0, h => by rw [z69]; rfl
 | x :: l, k + 1, h => by rw [z69, y1u env l k (by simpa using h)]; rfl
theorem zgn {e : zz1} (h : z4x e = true) : ∀ x ∈ e.args, z4x x = true := by
 rw [zbr] at h
 simp only [Bool.and_eq_true, zl1, List.all_eq_true] at h
 exact h.2.2
theorem zdw {e : zz1} (h : z4x e = true) : zeg e.op e.args.length = true := by
 rw [zbr] at h
 simp only [Bool.and_eq_true] at h
 exact h.1
theorem zno {e : zz1} (h : z4x e = true) : zn9 e.op e.value e.name = true := by
 rw [zbr] at h
 simp only [Bool.and_eq_true] at h
 exact h.2.1
theorem ziy (l : List zz1) : l.length ≤ kzb l := by
 induction l with
 | nil => simp
 | cons x l ih => have := z3h x; simp [kzb]; omega
theorem ya9 {l : List zz1} {x : zz1} (h : x ∈ l) : z09 x ≤ kzb l := by
 induction l with
 | nil => cases h
 | cons y l ih =>
   rcases List.mem_cons.1 h with rfl | h
   · simp [kzb]
   · have := ih h; simp [kzb]; omega
theorem zq7 {op : Int} {k : Nat} (h : zeg op k = true) : ((op = 1 ∨ op = 2) ∧ k = 0) ∨ (kzq op = 2 ∧ k = 2) ∨ (kzq op = 1 ∧ k = 1) ∨ (op = 12 ∧ k = 3) ∨ op = 18 := by
 unfold zeg at h
 simp only [Bool.and_eq_true, bne_iff_ne, ne_eq, Bool.or_eq_true, decide_eq_true_eq, beq_iff_eq] at h
 unfold kzq at h ⊢
 by_cases h1 : op = 1 ∨ op = 2
 ·rw [if_pos h1] at h; exact .inl ⟨h1, by omega⟩
 rw [if_neg h1] at h ⊢
 by_cases h2 : (3 ≤ op ∧ op ≤ 10) ∨ op = 13 ∨ op = 14 ∨ op = 17
 ·rw [if_pos h2] at h ⊢; exact .inr (.inl ⟨rfl, by omega⟩)
 rw [if_neg h2] at h ⊢
 by_cases h3 : op = 11 ∨ op = 15 ∨ op = 16
 ·rw [if_pos h3] at h ⊢; exact .inr (.inr (.inl ⟨rfl, by omega⟩))
 rw [if_neg h3] at h ⊢
 by_cases h4 : op = 12
 ·rw [if_pos h4] at h; exact .inr (.inr (.inr (.inl ⟨h4, by omega⟩)))
 rw [if_neg h4] at h
 by_cases h5 : op = 18
 ·exact .inr (.inr (.inr (.inr h5)))
 ·rw [if_neg h5] at h; omega
def y18 (env : List yz4) : Prop := (∀ b ∈ env, yz6 b.value = 0) ∧ env.length ≤ 8388608
theorem yls {env : List yz4} (h : y18 env) {nm : List UInt8} {v : zz0} (hv : look env nm = some v) : yz6 v = 0 := by
 unfold look at hv
 rw [Option.map_eq_some_iff] at hv
 obtain ⟨b, hb, rfl⟩ := hv
 exact h.1 b (List.mem_of_find?_eq_some hb)
theorem yal (env : List yz4) : ∀ l : List zz1, (z9x env l).1 = 0 → (z9x env l).2.length = l.length
 | [], _ => by rw [z9x]; rfl
 | x :: l, h => by
   rw [z9x] at h ⊢
   split at h
   · rename_i hz; exact (hz h).elim
   · rename_i hz; rw [if_neg hz]; simp [yal env l h]
theorem yeg {env : List yz4} (henv : y18 env) : ∀ e : zz1, z4x e = true → (eev env e).1 = 0 → yz6 (eev env e).2 = 0 := zd7 fun e ih hf hz => by
 have hfa := zgn hf
 have hL : ∀ l : List zz1, (∀ x ∈ l, x ∈ e.args) → (z9x env l).1 = 0 → ∀ v ∈ (z9x env l).2, yz6 v = 0 := fun l => by
  induction l with
  | nil => intro _ _ v hv; rw [z9x] at hv; cases hv
  | cons x l ihl =>
    intro hm h v hv
    rw [z9x] at h hv
    split at h
    · rename_i hz; exact (hz h).elim
    · rename_i hx
      rw [if_neg hx] at hv
      have hx : (eev env x).1 = 0 := by simpa using hx
      rcases List.mem_cons.1 hv with rfl | hv
      · exact ih x (hm x List.mem_cons_self) (hfa x (hm x List.mem_cons_self)) hx
      · exact ihl (fun y hy => hm y (List.mem_cons_of_mem _ hy)) h v hv
 rw [znr] at hz ⊢
 by_cases h1 : e.op = 1
 ·rw [if_pos h1]
  have := zno hf
  unfold zn9 at this
  rw [if_pos h1] at this
  simp only [Bool.and_eq_true, beq_iff_eq] at this
  exact this.1
 rw [if_neg h1] at hz ⊢
 by_cases h2 : e.op = 2
 ·rw [if_pos h2] at hz ⊢
  cases hl : look env e.name with
  | none => rw [hl] at hz; cases hz
  | some x => exact yls henv hl
 rw [if_neg h2] at hz ⊢
 have har := zq7 (zdw hf)
 by_cases h12 : e.op = 12
 ·rw [if_pos h12] at hz ⊢
  have hlen : e.args.length = 3 := by
   rcases har with ⟨h, _⟩ | ⟨h, _⟩ | ⟨h, _⟩ | ⟨_, h⟩ | h
   ·omega
   ·rw [h12] at h; cases h
   ·rw [h12] at h; cases h
   ·exact h
   ·omega
  match hargs : e.args, hlen with
  | [c, a, b], _ =>
    rw [hargs, ze9] at hz
    rw [ze9]
    split at hz
    · rename_i h; exact (h hz).elim
    rename_i hc
    rw [if_neg hc]
    split at hz
    · cases hz
    rename_i hk
    rw [if_neg hk]
    split at hz
    · rename_i ht
      rw [if_pos ht]
      rw [z69] at hz ⊢
      have ha : a ∈ e.args := by rw [hargs]; simp
      exact ih a ha (hfa a ha) hz
    · rename_i ht
      rw [if_neg ht]
      rw [z69, z69] at hz ⊢
      have hb : b ∈ e.args := by rw [hargs]; simp
      exact ih b hb (hfa b hb) hz
 rw [if_neg h12] at hz ⊢
 split at hz
 ·rename_i hl
  rw [if_pos hl]
  have hlen := yal env e.args hl
  refine yh9 (hL e.args (fun _ h => h) hl) ?_ hz
  rcases har with ⟨h, _⟩ | ⟨h, h'⟩ | ⟨h, h'⟩ | ⟨h, _⟩ | h
  ·omega
  ·exact .inl ⟨by rw [h, hlen, h']; rfl, .inr (by omega)⟩
  ·exact .inl ⟨by rw [h, hlen, h']; rfl, .inl (by omega)⟩
  ·omega
  ·exact .inr h
 ·rename_i hl; exact (hl hz).elim
theorem ykv {env : List yz4} (hb : env.length ≤ 8388608) {a3 a4 a5 a6 : Int} {a7 : Bool} {a8 : List UInt8} {a9 : List zz0} {nm : List UInt8} {a11 : List zz1} :
  ∃ i : Int, Ev (fun n => yz9 n env a3 a4 a5 a6 a7 a8 a9 nm a11) (i, a3, a4, a5, a6, a7, a8, a9, nm, a11) ∧ ((i < 0 ∧ look env nm = none) ∨ ∃ j : Nat, ∃ hj : j < env.length, i = j ∧ look env nm = some env[j].value) := by
 have loop : ∀ k, k ≤ env.length → ∃ i : Int, Ev (fun n => zz6 n (k : Int) env (env.length : Int) a3 a4 a5 a6 a7 a8 a9 nm a11) (i, a3, a4, a5, a6, a7, a8, a9, nm, a11) ∧ ((i < 0 ∧ look (env.drop k) nm = none) ∨ ∃ j : Nat, ∃ hj : j < env.length, i = j ∧ look (env.drop k) nm = some env[j].value) :=
  down ⟨-1, by rw [kzn, Ev.yz2 (by simp), Ev.yz0], .inl ⟨by decide, by simp [look]⟩⟩ fun k hk ih => by
   obtain ⟨i, h1, h2⟩ := ih
   have h1' : Ev (fun n => z5a n env[k] a3 a4 a5 a6 a7 a8 a9 nm a11) ((env[k].name == nm), a3, a4, a5, a6, a7, a8, a9, nm, a11) := by rw [ztb, Ev.yz0]
   by_cases he : env[k].name = nm
   ·refine ⟨k, ?_, .inr ⟨k, hk, rfl, ?_⟩⟩
    ·rw [kzn, Ev.kz2 (by simpa using hk), Ev.zz4 (yzv hk), yz4.zz3, Ev.kz0 h1', Ev.kz2 (by simpa using he), Ev.yz0]
    ·rw [← List.getElem_cons_drop (h := hk), zjb, if_pos he]
   ·refine ⟨i, ?_, ?_⟩
    ·rw [kzn, Ev.kz2 (by simpa using hk), Ev.zz4 (yzv hk), yz4.zz3, Ev.kz0 h1', Ev.yz2 (by simpa using he), wrk (by omega)]; exact h1
    ·have : look (env.drop k) nm = look (env.drop (k + 1)) nm := by rw [← List.getElem_cons_drop (h := hk), zjb, if_neg he]
     rw [this]; exact h2
 obtain ⟨i, h1, h2⟩ := loop 0 (Nat.zero_le _)
 exact ⟨i, by rw [z8a]; exact h1, h2⟩
theorem y1d {env : List yz4} (henv : y18 env) : ∀ e : zz1, z4x e = true → z09 e ≤ 100 → Ev (fun n => zzu n e env) (zbq (eev env e)) := zd7 fun e ih hf hp => by
 have hfa := zgn hf
 have hok := fun x (hx : x ∈ e.args) => yeg henv x (hfa x hx)
 rw [z3h] at hp
 have hpl := ziy e.args
 have ihx : ∀ x ∈ e.args, Ev (fun n => zzu n x env) (zbq (eev env x)) := fun x hx => ih x hx (hfa x hx) (by have := ya9 hx; omega)
 have har := zq7 (zdw hf)
 rw [y3p, znr]
 by_cases h1 : e.op = 1
 ·rw [Ev.kz2 (by simpa using h1), if_pos h1, Ev.yz0, zz0.zz3]; rfl
 rw [Ev.yz2 (by simpa using h1), if_neg h1]
 by_cases h2 : e.op = 2
 ·rw [Ev.kz2 (by simpa using h2), if_pos h2]
  obtain ⟨i, hi1, hi2⟩ := ykv henv.2 (nm := e.name) (a3 := e.op) (a4 := e.value.kind) (a5 := e.value.num.num) (a6 := e.value.num.den) (a7 := e.value.truth) (a8 := e.value.str) (a9 := e.value.list) (a11 := e.args)
  rw [Ev.kz0 hi1]
  rcases hi2 with ⟨hneg, hl⟩ | ⟨j, hj, rfl, hl⟩
  ·rw [Ev.kz2 (by simpa using hneg), Ev.kz0 (z90 (by decide)), Ev.kzy, Ev.yz0, hl]; rfl
  ·rw [Ev.yz2 (by simp), zqd, Ev.zz4 (yzv hj), Ev.yz0, zz0.zz3, hl]; rfl
 rw [Ev.yz2 (by simpa using h2), if_neg h2]
 by_cases h12 : e.op = 12
 ·rw [Ev.kz2 (by simpa using h12), if_pos h12]
  have hlen : e.args.length = 3 := by
   rcases har with ⟨h, _⟩ | ⟨h, _⟩ | ⟨h, _⟩ | ⟨_, h⟩ | h
   ·omega
   ·rw [h12] at h; cases h
   ·rw [h12] at h; cases h
   ·exact h
   ·omega
  match hargs : e.args, hlen with
  | [c, a, b], _ =>
    have hc := ihx c (by rw [hargs]; simp)
    have ha := ihx a (by rw [hargs]; simp)
    have hb := ihx b (by rw [hargs]; simp)
    rw [Ev.zz4 (show ix [c, a, b] 0 = some c from rfl), zz1.zz3, Ev.kz0 hc, ze9]
    by_cases hz : (eev env c).1 = 0
    case neg => rw [z14 hz, Ev.kzy, Ev.yz0, if_pos hz, z14 (by exact hz)]
    rw [z7i hz, Ev.z30, zz0.zz3, if_neg (by simpa using hz)]
    have hk := zcw (k := 2) (l := [(eev env c).2]) (by simp)
    by_cases hk2 : (eev env c).2.kind = 2
    case neg =>
      rw [if_neg (by simpa using hk2)] at hk
      rw [Ev.kz0 hk, Ev.kzy, Ev.yz0, if_pos hk2]; rfl
    rw [if_pos (by simpa using hk2)] at hk
    rw [Ev.kz0 hk, Ev.z30, if_neg (by simpa using hk2)]
    have fin : ∀ x : zz1, Ev (fun n => zzu n x env) (zbq (eev env x)) → Ev (fun n => (zzu n x env).bind fun y10 => z6s y10 (fun r11 => some (Res.ok r11.re)) (fun e12 => some (Res.pan (e12.1, ())))) (zbq (eev env x)) := fun x hx => by
      rw [Ev.kz0 hx]
      by_cases hz : (eev env x).1 = 0
      · rw [z7i hz, Ev.z30, Ev.yz0, zz0.zz3]
      · rw [z14 hz, Ev.kzy, Ev.yz0]
    cases ht : (eev env c).2.truth
    · rw [Ev.yz2 (by rfl), Ev.zz4 (show ix [c, a, b] 2 = some b from rfl), zz1.zz3, if_neg (by simp), z69, z69]
      exact fin b hb
    · rw [Ev.kz2 (by rfl), Ev.zz4 (show ix [c, a, b] 1 = some a from rfl), zz1.zz3, if_pos rfl, z69]
      exact fin a ha
 rw [Ev.yz2 (by simpa using h12), if_neg h12]
 have loop : ∀ k, k ≤ e.args.length → ∀ acc : List zz0, acc.length = k → (∀ v ∈ acc, yz6 v = 0) → ∀ a5 a6 a7 a8 a9 a11, Ev (fun n => z2u n (k : Int) env e.args (e.args.length : Int) acc a5 a6 a7 a8 a9 e a11) (zbq (if (z9x env (e.args.drop k)).1 = 0 then z5n e.op (acc ++ (z9x env (e.args.drop k)).2) else ((z9x env (e.args.drop k)).1, v0))) :=
  down (fun acc hacc hval a5 a6 a7 a8 a9 a11 => by
   have happ : Ev (fun n => z1v n e.op acc) (zbq (z5n e.op acc)) := by
    rcases har with ⟨h, _⟩ | ⟨h, h'⟩ | ⟨h, h'⟩ | ⟨h, _⟩ | h
    ·omega
    ·match acc, (show acc.length = 2 by omega) with
     | [x, y], _ => exact yaw h (hval x (by simp)) (hval y (by simp))
    ·match acc, (show acc.length = 1 by omega) with
     | [x], _ => exact ya2 h (hval x (by simp))
    ·omega
    ·rw [h]; exact ya5 (by omega) hval
   rw [zh7, Ev.yz2 (by simp), Ev.kz0 happ, List.drop_length, z9x]
   simp only [if_true, List.append_nil]
   by_cases hz : (z5n e.op acc).1 = 0
   ·rw [z7i hz, Ev.z30, Ev.yz0, zz0.zz3]
   ·rw [z14 hz, Ev.kzy, Ev.yz0]) fun k hk ihk acc hacc hval a5 a6 a7 a8 a9 a11 => by
   have hx := List.getElem_mem hk
   rw [← List.getElem_cons_drop (h := hk), z9x]
   rw [zh7, Ev.kz2 (by simpa using hk), Ev.zz4 (yzv hk), zz1.zz3, Ev.kz0 (ihx _ hx)]
   by_cases hz : (eev env e.args[k]).1 = 0
   ·rw [z7i hz, Ev.z30, zz0.zz3, Ev.zz4 (zgb (by simp; omega)), wrk (by omega), zz1.zz3, if_neg (c := (eev env e.args[k]).1 ≠ 0) (by simpa using hz)]
    have := ihk (acc ++ [(eev env e.args[k]).2]) (by simp [hacc]) (fun v hv => by
     rcases List.mem_append.1 hv with hv | hv
     ·exact hval v hv
     ·rw [List.mem_singleton.1 hv]; exact hok _ hx hz) a5 a6 a7 a8 a9 a11
    refine this.to ?_
    simp only [List.append_assoc, List.singleton_append]
   ·rw [z14 hz, Ev.kzy, Ev.yz0, if_pos (c := (eev env e.args[k]).1 ≠ 0) hz]
    simp only
    rw [if_neg hz, z14 (by exact hz)]
 have := loop 0 (Nat.zero_le _) [] rfl (by simp) 0 0 0 false [] []
 rw [zz1.zz3]
 simpa using this
def bok (b : yz4) : Bool := zb0 b.name && (yz6 b.value == 0)
def z6m (env : List yz4) : Int := if 40 < env.length then 4 else if env.all bok then 0 else 8
noncomputable def zhk (e : zz1) (env : List yz4) : Int × zz0 := if kzr e ≠ 0 then (kzr e, v0) else if z6m env ≠ 0 then (z6m env, v0) else eev env e
theorem y1k {l : List yz4} {x : yz4} (h : x ∈ l) : x.size ≤ (l.map yz4.size).sum := by
 induction l with
 | nil => cases h
 | cons y l ih =>
   rcases List.mem_cons.1 h with rfl | h
   · simp
   · have := ih h; simp; omega
theorem znv (l : List yz4) : l.length ≤ (l.map yz4.size).sum := by
 induction l with
 | nil => simp
 | cons x l ih => have := yz4.size_eq x; simp; omega
theorem ykd {env : List yz4} (h : z6m env = 0) : y18 env := by
 unfold z6m at h
 split at h
 ·cases h
 ·split at h
  ·rename_i h1 h2
   rw [List.all_eq_true] at h2
   refine ⟨fun b hb => ?_, by omega⟩
   have := h2 b hb
   simp only [bok, Bool.and_eq_true, beq_iff_eq] at this
   exact this.2
  ·cases h
theorem yf3 {e : zz1} {env : List yz4} (henv : y18 env) (hf : z4x e = true) (hp : z09 e ≤ 100) : Ev (fun n => z33 n e env) ((eev env e).2, (eev env e).1) ∨ ((eev env e).1 ≠ 0 ∧ Ev (fun n => z33 n e env) (v0, (eev env e).1)) := by
 by_cases hz : (eev env e).1 = 0
 ·left
  have hs := (vok (yeg henv e hf hz)).2
  rw [zkr, zz1.zz3, Ev.kz0 (y1d henv e hf hp), z7i hz, Ev.z30, zz0.zz3, Ev.kz0 (zu4 (by omega)), zz0.zz3]
  simp only [z9y, Option.bind_some]
  rw [Ev.yz0, hz]
 ·right
  refine ⟨hz, ?_⟩
  rw [zkr, zz1.zz3, Ev.kz0 (y1d henv e hf hp), z14 hz, Ev.kzy]
  simp only [z6q, pIf, Bool.not_false, Option.bind_some]
  rw [Ev.yz0]; rfl
theorem yf7 {op : Int} {l : List zz0} (h : (z5n op l).1 ≠ 0) : (z5n op l).2 = v0 := by
 have hadd : ∀ a b, (y0a a b).1 ≠ 0 → (y0a a b).2 = v0 := fun a b h => by
  unfold y0a at h ⊢
  repeat' split
  all_goals first
   | rfl
   | (exfalso; simp_all; done)
 have hat : ∀ v i, (vat v i).1 ≠ 0 → (vat v i).2 = v0 := fun v i h => by
  unfold vat at h ⊢
  repeat' split
  all_goals first
   | rfl
   | (exfalso; simp_all; done)
 have hnum : ∀ r, (zg9 r).1 ≠ 0 → (zg9 r).2 = v0 := fun r h => by
  unfold zg9 at h ⊢
  split
  ·rename_i hz; rw [if_pos hz] at h; exact (h rfl).elim
  ·rfl
 have num : ∀ {f : yz1 → yz1 → Int × Int} {c : Bool} {a b : yz1}, (if c = true then zg9 (z7y f a b) else (20, v0)).1 ≠ 0 → (if c = true then zg9 (z7y f a b) else (20, v0)).2 = v0 := fun {f c a b} h => by
  cases c
  ·rfl
  ·rw [if_pos rfl] at h ⊢; exact hnum _ h
 have tr : ∀ {c : Bool} {v : zz0}, (if c = true then ((0 : Int), v) else (20, v0)).1 ≠ 0 → (if c = true then ((0 : Int), v) else (20, v0)).2 = v0 := fun {c v} h => by
  cases c
  ·rfl
  ·exact (h rfl).elim
 unfold z5n at h ⊢
 by_cases h3 : op = 3
 ·rw [if_pos h3] at h ⊢; exact hadd _ _ h
 rw [if_neg h3] at h ⊢
 by_cases h4 : op = 4
 ·rw [if_pos h4] at h ⊢; exact num h
 rw [if_neg h4] at h ⊢
 by_cases h5 : op = 5
 ·rw [if_pos h5] at h ⊢; exact num h
 rw [if_neg h5] at h ⊢
 by_cases h6 : op = 6
 ·rw [if_pos h6] at h ⊢; exact num h
 rw [if_neg h6] at h ⊢
 by_cases h8 : op = 8
 ·rw [if_pos h8] at h; exact (h rfl).elim
 rw [if_neg h8] at h ⊢
 by_cases h7 : op = 7 ∨ op = 13 ∨ op = 14
 ·rw [if_pos h7] at h ⊢
  split at h
  ·rename_i hz; rw [if_pos hz]
  ·split at h
   ·exact (h rfl).elim
   ·split at h <;> exact (h rfl).elim
 rw [if_neg h7] at h ⊢
 by_cases h9 : op = 9
 ·rw [if_pos h9] at h ⊢; exact tr h
 rw [if_neg h9] at h ⊢
 by_cases h10 : op = 10
 ·rw [if_pos h10] at h ⊢; exact tr h
 rw [if_neg h10] at h ⊢
 by_cases h11 : op = 11
 ·rw [if_pos h11] at h ⊢; exact tr h
 rw [if_neg h11] at h ⊢
 by_cases h15 : op = 15
 ·rw [if_pos h15] at h ⊢; exact tr h
 rw [if_neg h15] at h ⊢
 by_cases h16 : op = 16
 ·rw [if_pos h16] at h ⊢
  split at h
  ·rename_i hz; rw [if_pos hz]
  ·exact (h rfl).elim
 rw [if_neg h16] at h ⊢
 by_cases h17 : op = 17
 ·rw [if_pos h17] at h ⊢
  split at h
  ·rename_i hz; rw [if_pos hz]
  rename_i hz
  rw [if_neg hz]
  split at h
  ·rename_i hk; rw [if_pos hk]
  rename_i hk
  rw [if_neg hk]
  split at h
  ·rename_i hd; rw [if_pos hd]
  rename_i hd
  rw [if_neg hd]
  exact hat _ _ h
 rw [if_neg h17] at h ⊢
 split at h
 ·rename_i hz; rw [if_pos hz]
 ·exact (h rfl).elim
theorem yfg {env : List yz4} : ∀ e : zz1, (eev env e).1 ≠ 0 → (eev env e).2 = v0 := zd7 fun e ih h => by
 rw [znr] at h ⊢
 split at h
 ·exact (h rfl).elim
 rename_i h1
 rw [if_neg h1]
 split at h
 ·rename_i h2
  rw [if_pos h2]
  cases hl : look env e.name with
  | none => rfl
  | some x => rw [hl] at h; exact (h rfl).elim
 rename_i h2
 rw [if_neg h2]
 split at h
 ·rename_i h12
  rw [if_pos h12]
  cases hargs : e.args with
  | nil => rw [ze9]
  | cons c l =>
    rw [hargs, ze9] at h
    rw [ze9]
    have hat : ∀ k, (z69 env l k).1 ≠ 0 → (z69 env l k).2 = v0 := fun k hk => by
      by_cases hlt : k < l.length
      · rw [y1u env l k hlt] at hk ⊢
        exact ih _ (by rw [hargs]; exact List.mem_cons_of_mem _ (List.getElem_mem hlt)) hk
      · have : ∀ (l : List zz1) (k : Nat), ¬ k < l.length → z69 env l k = (0, v0) := fun l => by
          induction l with
          | nil => intro k _; rw [z69]
          | cons x l ihl =>
            intro k hk
            cases k with
            | zero => simp at hk
            | succ k => rw [z69]; exact ihl k (by simpa using hk)
        rw [this l k hlt]
    split at h
    · rename_i hc; rw [if_pos hc]
    rename_i hc
    rw [if_neg hc]
    split at h
    · rename_i hk; rw [if_pos hk]
    rename_i hk
    rw [if_neg hk]
    split at h
    · rename_i ht; rw [if_pos ht]; exact hat _ h
    · rename_i ht; rw [if_neg ht]; exact hat _ h
 rename_i h12
 rw [if_neg h12]
 split at h
 ·rename_i hl; rw [if_pos hl]; exact yf7 h
 ·rename_i hl; rw [if_neg hl]
theorem y9u {e : zz1} {env : List yz4} (henv : y18 env) (hf : z4x e = true) (hp : z09 e ≤ 100) : Ev (fun n => z33 n e env) ((eev env e).2, (eev env e).1) := by
 rcases yf3 henv hf hp with h | ⟨h1, h2⟩
 ·exact h
 ·rw [yfg e h1]; exact h2
theorem y23 {e : zz1} {env : List yz4} (hw : e.wf) (hs : e.size ≤ 8388608) (hbw : ∀ b ∈ env, b.value.wf) (hbs : (env.map yz4.size).sum ≤ 8388608) : Ev (fun n => z5w n e env) (zhk e env) := by
 have hbl := znv env
 rw [y5o, zz1.zz3, Ev.kz0 (zgl hw hs)]
 unfold zhk
 by_cases hc : kzr e = 0
 case neg => rw [Ev.kz2 (by simpa using hc), Ev.yz0, if_pos hc]; rfl
 rw [Ev.yz2 (by simpa using hc), if_neg (by simpa using hc)]
 obtain ⟨hf, hp, _⟩ := z74 hc
 by_cases h40 : 40 < env.length
 ·have : z6m env = 4 := by unfold z6m; rw [if_pos h40]
  rw [Ev.kz2 (by simp; omega), Ev.yz0, this]; rfl
 rw [Ev.yz2 (by simp; omega)]
 have hbe : z6m env = if env.all bok then 0 else 8 := by unfold z6m; rw [if_neg h40]
 have bad : ∀ k z, Ev (fun n => z2p n env env (env.length : Int) k true z e) (8, v0) := fun k z => by rw [zh5, Ev.kz2 (by rfl), Ev.yz0]; rfl
 have loop : ∀ k, k ≤ env.length → (∀ j (hj : j < env.length), j < k → bok env[j] = true) → ∀ z, Ev (fun n => z2r n (k : Int) env env (env.length : Int) z e) (if z6m env ≠ 0 then (z6m env, v0) else eev env e) :=
  down (fun hall z => by
   have h0 : z6m env = 0 := by
    rw [hbe, if_pos]
    rw [List.all_eq_true]
    intro b hb
    obtain ⟨j, hj, rfl⟩ := List.mem_iff_getElem.1 hb
    exact hall j hj hj
   rw [zh0, Ev.yz2 (by simp), zz1.zz3, Ev.kz0 (y9u (ykd h0) hf hp), Ev.yz0, zz0.zz3, h0]
   rfl) fun k hk ih hall z => by
   have hm := List.getElem_mem hk
   have hsz := y1k hm
   have hsb := yz4.size_eq env[k]
   have hno : bok env[k] = false → z6m env = 8 := fun hb => by
    rw [hbe, if_neg]
    rw [List.all_eq_true]
    intro h
    rw [h _ hm] at hb; cases hb
   rw [zh0, Ev.kz2 (by simpa using hk), Ev.zz4 (yzv hk), Ev.kz0 (zuz (by omega)), zz0.zz3, zz1.zz3]
   cases hn : zb0 env[k].name
   ·rw [Ev.kz2 (by rfl)]
    refine (bad _ _).to ?_
    rw [hno (by simp [bok, hn])]; rfl
   ·rw [Ev.yz2 (by rfl), zz0.zz3, Ev.kz0 (z79 (hbw _ hm) (by omega))]
    by_cases hv : yz6 env[k].value = 0
    ·rw [show (yz6 env[k].value != 0) = false by simpa using hv, zh5, Ev.yz2 (by rfl), wrk (by omega), zz0.zz3, zz1.zz3]
     refine ih (fun j hj hjk => ?_) _
     by_cases hjk' : j < k
     ·exact hall j hj hjk'
     ·have : j = k := by omega
      subst this; simp [bok, hn, hv]
    ·rw [show (yz6 env[k].value != 0) = true by simpa using hv]
     refine (bad _ _).to ?_
     rw [hno (by simp [bok, hn, hv])]; rfl
 have := loop 0 (Nat.zero_le _) (fun j hj h => absurd h (Nat.not_lt_zero _)) (zz0.mk 0 (yz1.mk 0 0) false [] [])
 exact this
theorem zo3 {env : List yz4} (hbs : (env.map yz4.size).sum ≤ 8388608) : ∃ b, Ev (fun n => z0r n env) b := by
 have hbl := znv env
 have fin : ∀ k : Int, ∃ b, Ev (fun n => zzf n env k false) b := fun k => ⟨_, by rw [zad, Ev.yz2 (by rfl)]; exact Ev.yz0.2 rfl⟩
 have loop : ∀ k, k ≤ env.length → ∃ b, Ev (fun n => kzj n (k : Int) env) b :=
  down (by
   obtain ⟨b, hb⟩ := fin (env.length : Int)
   exact ⟨b, by rw [zak, Ev.yz2 (by simp)]; exact hb⟩) fun k hk ih => by
   have hm := List.getElem_mem hk
   have hsz := y1k hm
   have hsb := yz4.size_eq env[k]
   obtain ⟨c, hc⟩ := ih
   have l2 : ∀ b, ∃ d, Ev (fun n => zzk n env (k : Int) b) d := fun b => by
    cases b
    ·exact ⟨c, by rw [zaf, Ev.yz2 (by rfl), wrk (by omega)]; exact hc⟩
    ·exact ⟨true, by rw [zaf, Ev.kz2 (by rfl), Ev.yz0]⟩
   have l1 : ∀ b, ∃ d, Ev (fun n => zzf n env (k : Int) b) d := fun b => by
    cases b
    ·exact fin _
    ·obtain ⟨g, hg⟩ := zho (v := env[k].value) (by omega)
     simp only [zad, Ev.pif, if_true, Ev.zz4 (yzv hk), zz0.zz3, Ev.kz0 hg]
     split
     ·exact l2 _
     ·exact l2 _
   simp only [zak, Ev.pif]
   split
   ·exact l1 _
   ·exact l1 _
 obtain ⟨b, hb⟩ := loop 0 (Nat.zero_le _)
 exact ⟨b, by rw [zjw]; exact hb⟩
end Go.Proofs.YtfhpamcehnfhoaaGreatDoor


namespace Go.Proofs.YtfhpamcehnfhoaaGreatDoor
open Go Go.Ab
set_option linter.unusedVariables false
set_option linter.unusedSimpArgs false
mutual
def zc1 : zz1 → List (List UInt8) → List (List UInt8)
 | ⟨op, _, nm, l⟩, acc => z3s l (if op = 2 ∧ nm ∉ acc then acc ++ [nm] else acc)
def z3s : List zz1 → List (List UInt8) → List (List UInt8)
 | [], acc => acc
 | x :: l, acc => z3s l (zc1 x acc)
end
theorem zja (e : zz1) (acc : List (List UInt8)) : zc1 e acc = z3s e.args (if e.op = 2 ∧ e.name ∉ acc then acc ++ [e.name] else acc) := by cases e; rw [zc1]
mutual
def zcy : zz1 → List (List UInt8) → List (List UInt8)
 | ⟨op, _, nm, l⟩, acc => zd3 l (if op = 2 then ins acc nm else acc)
def zd3 : List zz1 → List (List UInt8) → List (List UInt8)
 | [], acc => acc
 | x :: l, acc => zd3 l (zcy x acc)
end
theorem yb9 (e : zz1) (acc : List (List UInt8)) : zcy e acc = zd3 e.args (if e.op = 2 then ins acc e.name else acc) := by cases e; rw [zcy]
theorem zq2 : ∀ (e : zz1) (a b : List (List UInt8)), a.Nodup → z9h b → (∀ x, x ∈ a ↔ x ∈ b) → (zc1 e a).Nodup ∧ z9h (zcy e b) ∧ (∀ x, x ∈ zc1 e a ↔ x ∈ zcy e b) ∧ (zc1 e a).length ≤ a.length + z09 e ∧ (zcy e b).length ≤ b.length + z09 e := zd7 fun e ih a b ha hb hab => by
 have hL : ∀ (l : List zz1), (∀ x ∈ l, x ∈ e.args) → ∀ a b : List (List UInt8), a.Nodup → z9h b → (∀ x, x ∈ a ↔ x ∈ b) → (z3s l a).Nodup ∧ z9h (zd3 l b) ∧ (∀ x, x ∈ z3s l a ↔ x ∈ zd3 l b) ∧ (z3s l a).length ≤ a.length + kzb l ∧ (zd3 l b).length ≤ b.length + kzb l := fun l => by
  induction l with
  | nil => intro _ a b ha hb hab; simp only [z3s, zd3, kzb]; exact ⟨ha, hb, hab, Nat.le_refl _, Nat.le_refl _⟩
  | cons x l ihl =>
    intro hm a b ha hb hab
    obtain ⟨h1, h2, h3, h4, h5⟩ := ih x (hm x List.mem_cons_self) a b ha hb hab
    obtain ⟨k1, k2, k3, k4, k5⟩ := ihl (fun y hy => hm y (List.mem_cons_of_mem _ hy)) _ _ h1 h2 h3
    simp only [z3s, zd3, kzb]
    exact ⟨k1, k2, k3, by omega, by omega⟩
 rw [zja, yb9, z3h]
 by_cases h2 : e.op = 2
 ·rw [if_pos h2]
  by_cases hn : e.name ∈ a
  ·rw [if_neg (by simp [hn])]
   obtain ⟨k1, k2, k3, k4, k5⟩ := hL e.args (fun _ h => h) a (ins b e.name) ha (zlc hb) (fun x => by
    rw [zrr, ← hab]
    exact ⟨.inl, fun h => h.elim id fun h => by rw [h]; exact hn⟩)
   have := zrq e.name b
   exact ⟨k1, k2, k3, by omega, by omega⟩
  ·rw [if_pos ⟨h2, hn⟩]
   obtain ⟨k1, k2, k3, k4, k5⟩ := hL e.args (fun _ h => h) (a ++ [e.name]) (ins b e.name) (by
    rw [List.nodup_append]
    refine ⟨ha, by simp, fun x hx y hy => ?_⟩
    rw [List.mem_singleton.1 hy]; intro h; subst h; exact hn hx) (zlc hb) (fun x => by
    rw [zrr, ← hab, List.mem_append, List.mem_singleton])
   have := zrq e.name b
   rw [List.length_append, List.length_singleton] at k4
   exact ⟨k1, k2, k3, by omega, by omega⟩
 ·rw [if_neg h2, if_neg (fun h => h2 h.1)]
  obtain ⟨k1, k2, k3, k4, k5⟩ := hL e.args (fun _ h => h) a b ha hb hab
  exact ⟨k1, k2, k3, by omega, by omega⟩
theorem yax (e : zz1) : z1u (zc1 e []) = zcy e [] := by
 obtain ⟨h1, h2, h3, _⟩ := zq2 e [] [] (by simp) (by simp [z9h]) (by simp)
 exact zkc (y5a h1) h2 fun x => by rw [(zgw _).mem_iff, h3]
theorem zt6 : ∀ (e : zz1) (a : List (List UInt8)), (zc1 e a).length ≤ a.length + z09 e := zd7 fun e ih a => by
 have hL : ∀ (l : List zz1), (∀ x ∈ l, x ∈ e.args) → ∀ a : List (List UInt8), (z3s l a).length ≤ a.length + kzb l := fun l => by
  induction l with
  | nil => intro _ a; simp [z3s, kzb]
  | cons x l ihl =>
    intro hm a
    have h1 := ih x (hm x List.mem_cons_self) a
    have h2 := ihl (fun y hy => hm y (List.mem_cons_of_mem _ hy)) (zc1 x a)
    simp only [z3s, kzb]; omega
 rw [zja, z3h]
 have := hL e.args (fun _ h => h) (if e.op = 2 ∧ e.name ∉ a then a ++ [e.name] else a)
 have h2 : (if e.op = 2 ∧ e.name ∉ a then a ++ [e.name] else a).length ≤ a.length + 1 := by split <;> simp
 omega
theorem ygu : ∀ (e : zz1) (a : List (List UInt8)), (zcy e a).length ≤ a.length + z09 e := zd7 fun e ih a => by
 have hL : ∀ (l : List zz1), (∀ x ∈ l, x ∈ e.args) → ∀ a : List (List UInt8), (zd3 l a).length ≤ a.length + kzb l := fun l => by
  induction l with
  | nil => intro _ a; simp [zd3, kzb]
  | cons x l ihl =>
    intro hm a
    have h1 := ih x (hm x List.mem_cons_self) a
    have h2 := ihl (fun y hy => hm y (List.mem_cons_of_mem _ hy)) (zcy x a)
    simp only [zd3, kzb]; omega
 rw [yb9, z3h]
 have hi := zrq e.name a
 have := hL e.args (fun _ h => h) (if e.op = 2 then ins a e.name else a)
 split at this
 ·rename_i h; rw [if_pos h]; omega
 ·rename_i h; rw [if_neg h]; omega
theorem yh0 {l : List (List UInt8)} (hl : l.length ≤ 8388608) {s : List UInt8} : ∃ i : Int, Ev (fun n => kzd n s l) (i, l) ∧ decide (i ≥ 0) = decide (s ∈ l) := by
 have loop : ∀ k, k ≤ l.length → ∃ i : Int, Ev (fun n => kz9 n (k : Int) s (l.length : Int) l) (i, l) ∧ decide (i ≥ 0) = decide (s ∈ l.drop k) :=
  down ⟨-1, by rw [z0l, Ev.yz2 (by simp), Ev.yz0], by simp⟩ fun k hk ih => by
   obtain ⟨i, h1, h2⟩ := ih
   by_cases he : s = l[k]
   ·refine ⟨k, ?_, ?_⟩
    ·rw [z0l, Ev.kz2 (by simpa using hk), Ev.zz4 (yzv hk), Ev.kz2 (by simpa using he), Ev.yz0]
    ·have : s ∈ l.drop k := by rw [← List.getElem_cons_drop (h := hk), he]; exact List.mem_cons_self
     simp [this]
   ·refine ⟨i, ?_, ?_⟩
    ·rw [z0l, Ev.kz2 (by simpa using hk), Ev.zz4 (yzv hk), Ev.yz2 (by simpa using he), wrk (by omega)]; exact h1
    ·rw [h2]
     have : (s ∈ l.drop k) ↔ (s ∈ l.drop (k + 1)) := by
      rw [← List.getElem_cons_drop (h := hk), List.mem_cons]
      exact ⟨fun h => h.elim (fun h => (he h).elim) id, .inr⟩
     exact decide_eq_decide.2 this.symm
 obtain ⟨i, h1, h2⟩ := loop 0 (Nat.zero_le _)
 exact ⟨i, by rw [zbz]; exact h1, by simpa using h2⟩
theorem yde : ∀ (e : zz1) (acc : List (List UInt8)), acc.length + z09 e ≤ 8388608 → Ev (fun n => z4j n e acc) (zc1 e acc) := zd7 fun e ih acc hb => by
 rw [z3h] at hb
 have loop : ∀ k, k ≤ e.args.length → ∀ acc : List (List UInt8), acc.length + kzb (e.args.drop k) ≤ 8388608 → Ev (fun n => z18 n (k : Int) e.args (e.args.length : Int) acc) (z3s (e.args.drop k) acc) :=
  down (fun acc hb => by rw [zfz, Ev.yz2 (by simp), Ev.yz0]; simp [z3s]) fun k hk ihk acc hb => by
   have hx := List.getElem_mem hk
   have hlen := ziy e.args
   rw [← List.getElem_cons_drop (h := hk)] at hb ⊢
   simp only [z3s, kzb] at hb ⊢
   have := zt6 e.args[k] acc
   have hk2 : k ≤ 8388609 := by
    have := ziy e.args; omega
   rw [zfz, Ev.kz2 (by simpa using hk), Ev.zz4 (yzv hk), zz1.zz3, Ev.kz0 (ih _ hx _ (by omega)), wrk (by omega)]
   exact ihk _ (by omega)
 have l1 : ∀ acc : List (List UInt8), acc.length + kzb e.args ≤ 8388608 → Ev (fun n => z1k n acc e) (z3s e.args acc) := fun acc hb => by
  rw [zo6]; simpa using loop 0 (Nat.zero_le _) acc (by simpa using hb)
 rw [zw1, zja]
 by_cases h2 : e.op = 2
 ·obtain ⟨i, h3, h4⟩ := yh0 (l := acc) (by omega) (s := e.name)
  have hc : Ev (fun n => zzc n e.name acc) (decide (e.name ∈ acc), acc) := by
   rw [za4, Ev.kz0 h3, Ev.yz0, h4]
  rw [Ev.kz2 (by simpa using h2), Ev.kz0 hc, zz1.zz3, zfn]
  by_cases hn : e.name ∈ acc
  ·rw [Ev.yz2 (by simpa using hn), if_neg (by simp [hn]), zz1.zz3]
   exact l1 acc (by omega)
  ·rw [Ev.kz2 (by simpa using hn), if_pos ⟨h2, hn⟩, Ev.zz4 (zgb (by simp; omega)), zz1.zz3]
   exact l1 _ (by simp; omega)
 ·rw [Ev.yz2 (by simpa using h2), if_neg (fun h => h2 h.1), zz1.zz3, zfn, Ev.yz2 (by rfl), zz1.zz3]
  exact l1 _ (by omega)
noncomputable def y55 (e : zz1) : List (List UInt8) × Int := if kzr e ≠ 0 then ([], kzr e) else (zcy e [], 0)
theorem ydz {e : zz1} (hw : e.wf) (hs : e.size ≤ 8388608) : Ev (fun n => z6h n e) (y55 e) := by
 rw [zvz, zz1.zz3, Ev.kz0 (zgl hw hs)]
 unfold y55
 by_cases hc : kzr e = 0
 case neg => rw [Ev.kz2 (by simpa using hc), Ev.yz0, if_pos hc]
 obtain ⟨_, hp, _⟩ := z74 hc
 have hl := zt6 e []
 have hsort : Ev (fun n => yzz n (zc1 e [])) (zcy e []) := by
  refine .same (fun n => ?_) (.pure rfl)
  unfold yzz
  rw [if_pos (by simp at hl; omega), yax]
 rw [Ev.yz2 (by simpa using hc), if_neg (by simpa using hc), Ev.kz0 (yde e [] (by simp; omega)), Ev.kz0 hsort, Ev.yz0]
end Go.Proofs.YtfhpamcehnfhoaaGreatDoor


namespace Go.Proofs.YtfhpamcehnfhoaaGreatDoor
open Go Go.Ab
set_option linter.unusedVariables false
set_option linter.unusedSimpArgs false
theorem yla : Ev (fun n => zzp n) true := ⟨0, fun _ _ => rfl⟩
theorem alv : Ev (fun n => (zzp n).bind fun y => some y) true := by rw [Ev.kz0 yla, Ev.yz0]
theorem yks {e : zz1} (hs : e.size ≤ 8388608) : (Ev (fun n => kzo n e) true ∧ kzr e = 0) ∨ Ev (fun n => kzo n e) false := by
 obtain ⟨g, hg⟩ := yaf (e := e) hs
 cases g
 ·by_cases hc : kzr e = 0
  ·left; refine ⟨?_, hc⟩
   rw [z6k, zz1.zz3, Ev.kz0 hg, Ev.kz2 (by rfl), Ev.kz0 (zq1 hs), Ev.yz0, hc]; rfl
  ·right
   rw [z6k, zz1.zz3, Ev.kz0 hg, Ev.kz2 (by rfl), Ev.kz0 (zq1 hs), Ev.yz0]; simpa using hc
 ·right; rw [z6k, zz1.zz3, Ev.kz0 hg, Ev.yz2 (by rfl), Ev.yz0]
theorem yg7 : v0.size ≤ 8388608 := by rw [zz0.size_eq, yz1.size_eq]; simp [v0]
theorem ykf {env : List yz4} {e : zz1} (hc : kzr e = 0) (hb : z6m env = 0) : (eev env e).2.size ≤ 8388608 := by
 by_cases hz : (eev env e).1 = 0
 ·have := (vok (yeg (ykd hb) e (z74 hc).1 hz)).2; omega
 ·rw [yfg e hz]; exact yg7
theorem yl2 {env : List yz4} {e : zz1} (hc : kzr e = 0) (hb : z6m env = 0) : zhk e env = eev env e := by
 unfold zhk; rw [if_neg (by simpa using hc), if_neg (by simpa using hb)]
theorem yme : v0.wf := by
 rw [zz0.z6p, yz1.z6p]
 refine ⟨?_, ⟨?_, ?_⟩, trivial, trivial, by simp [v0]⟩
 ·show IntKind.u8.min ≤ 0 ∧ 0 ≤ IntKind.u8.max; decide
 ·show IntKind.i64.min ≤ 0 ∧ 0 ≤ IntKind.i64.max; decide
 ·show IntKind.i64.min ≤ 0 ∧ 0 ≤ IntKind.i64.max; decide
end Go.Proofs.YtfhpamcehnfhoaaGreatDoor


namespace Go.Proofs.YtfhpamcehnfhoaaGreatDoor
open Go Go.Ab
set_option linter.unusedVariables false
set_option linter.unusedSimpArgs false
end Go.Proofs.YtfhpamcehnfhoaaGreatDoor


namespace Go.Proofs.YtfhpamcehnfhoaaGreatDoor
open Go Go.Ab
set_option linter.unusedVariables false
set_option linter.unusedSimpArgs false
mutual
def yex (nm : List UInt8) : zz1 → Prop
 | ⟨op, _, n, l⟩ => (op = 2 ∧ n = nm) ∨ zng nm l
def zng (nm : List UInt8) : List zz1 → Prop
 | [] => False
 | x :: l => yex nm x ∨ zng nm l
end
theorem zrl (nm : List UInt8) (e : zz1) : yex nm e = ((e.op = 2 ∧ e.name = nm) ∨ zng nm e.args) := by cases e; rw [yex]
theorem zje {nm : List UInt8} : ∀ {l : List zz1}, zng nm l ↔ ∃ x ∈ l, yex nm x
 | [] => by simp [zng]
 | x :: l => by rw [zng, zje (l := l)]; simp
theorem yfe (nm : List UInt8) : ∀ (e : zz1) (acc : List (List UInt8)), nm ∈ zc1 e acc ↔ nm ∈ acc ∨ yex nm e := zd7 fun e ih acc => by
 have hL : ∀ (l : List zz1), (∀ x ∈ l, x ∈ e.args) → ∀ acc : List (List UInt8), nm ∈ z3s l acc ↔ nm ∈ acc ∨ zng nm l := fun l => by
  induction l with
  | nil => intro _ acc; simp [z3s, zng]
  | cons x l ihl =>
    intro hm acc
    rw [z3s, ihl (fun y hy => hm y (List.mem_cons_of_mem _ hy)), ih x (hm x List.mem_cons_self), zng, or_assoc]
 rw [zja, hL _ (fun _ h => h), zrl]
 by_cases h2 : e.op = 2
 ·by_cases hn : e.name ∈ acc
  ·rw [if_neg (by simp [hn])]
   constructor
   ·rintro (h | h)
    ·exact .inl h
    ·exact .inr (.inr h)
   ·rintro (h | ⟨_, h⟩ | h)
    ·exact .inl h
    ·exact .inl (h ▸ hn)
    ·exact .inr h
  ·rw [if_pos ⟨h2, hn⟩, List.mem_append, List.mem_singleton, or_assoc]
   simp only [h2, true_and, eq_comm]
 ·rw [if_neg (fun h => h2 h.1)]
  simp only [h2, false_and, false_or]
mutual
def zdg : zz0 → zz1
 | ⟨k, q, t, s, l⟩ => if k = 4 then ⟨18, v0, [], yg9 l⟩ else ⟨1, ⟨k, q, t, s, l⟩, [], []⟩
def yg9 : List zz0 → List zz1
 | [] => []
 | x :: l => zdg x :: yg9 l
end
theorem y2k : ∀ l : List zz0, yg9 l = l.map zdg
 | [] => rfl
 | x :: l => by rw [yg9, y2k l]; rfl
theorem yga (v : zz0) : zdg v = if v.kind = 4 then ⟨18, v0, [], v.list.map zdg⟩ else ⟨1, v, [], []⟩ := by cases v; rw [zdg, y2k]
theorem zu1 {v : zz0} (h : v.kind = 4) : zdg v = ⟨18, v0, [], v.list.map zdg⟩ := by rw [yga, if_pos h]
theorem zs9 {v : zz0} (h : v.kind ≠ 4) : zdg v = ⟨1, v, [], []⟩ := by rw [yga, if_neg h]
theorem yk8 : ∀ (v : zz0) (nm : List UInt8), ¬ yex nm (zdg v) := zg0 fun v ih nm => by
 by_cases hk : v.kind = 4
 ·rw [zu1 hk, zrl, zje]
  rintro (⟨h, _⟩ | ⟨x, hx, h⟩)
  ·exact absurd h (by show ¬ ((18 : Int) = 2); decide)
  ·obtain ⟨y, hy, rfl⟩ := List.mem_map.1 hx
   exact ih y hy nm h
 ·rw [zs9 hk, zrl, zje]
  rintro (⟨h, _⟩ | ⟨x, hx, h⟩)
  ·exact absurd h (by show ¬ ((1 : Int) = 2); decide)
  ·cases hx
theorem yh3 : ∀ v : zz0, yz6 v = 0 → z4x (zdg v) = true := zg0 fun v ih hv => by
 by_cases hk : v.kind = 4
 ·rw [zu1 hk, zbr]
  simp only [zl1, zeg, kzq, zn9, List.all_map]
  simp
  intro x hx
  exact ih x hx (zvd hv hk hx)
 ·rw [zs9 hk, zbr]
  simp [z4r, zeg, kzq, zn9, hv, hk]
theorem v4_eq {v : zz0} (h : z4t v = true) (hk : v.kind = 4) : v = zg4 v.list := by
 obtain ⟨h1, h2, h3, h4⟩ := ymq h hk
 exact vext hk h1 h2 h3 h4 rfl
theorem ykx (env : List yz4) : ∀ v : zz0, yz6 v = 0 → eev env (zdg v) = (0, v) := zg0 fun v ih hv => by
 by_cases hk : v.kind = 4
 ·have hl : ∀ l : List zz0, (∀ x ∈ l, x ∈ v.list) → z9x env (l.map zdg) = (0, l) := fun l => by
   induction l with
   | nil => intro _; rw [List.map_nil, z9x]
   | cons x l ihl =>
     intro hm
     rw [List.map_cons, z9x, ih x (hm x List.mem_cons_self) (zvd hv hk (hm x List.mem_cons_self)), ihl fun y hy => hm y (List.mem_cons_of_mem _ hy)]
     simp
  rw [zu1 hk, eev]
  rw [if_neg (by decide), if_neg (by decide), if_neg (by decide), hl v.list fun _ h => h]
  have e := v4_eq (z2d hv).1 hk
  have hc : yz6 (zg4 v.list) = 0 := by rw [← e]; exact hv
  simp only [if_true]
  unfold z5n
  rw [if_neg (by decide), if_neg (by decide), if_neg (by decide), if_neg (by decide), if_neg (by decide), if_neg (by decide), if_neg (by decide), if_neg (by decide), if_neg (by decide), if_neg (by decide), if_neg (by decide), if_neg (by decide), if_neg (by simpa using hc)]
  rw [← e]
 ·rw [zs9 hk, eev, if_pos rfl]
end Go.Proofs.YtfhpamcehnfhoaaGreatDoor


namespace Go.Proofs.YtfhpamcehnfhoaaGreatDoor
open Go Go.Ab
set_option linter.unusedVariables false
set_option linter.unusedSimpArgs false
def within (e : zz1) (l : List zz1) : zz1 := ⟨e.op, e.value, e.name, l⟩
theorem three {l : List zz1} (h : l.length = 3) : ∃ a b c, l = [a, b, c] := by
 match l, h with
 | [a, b, c], _ => exact ⟨a, b, c, rfl⟩
theorem y8k : ∀ e : zz1, z4x e = true → e.wf ∧ e.size ≤ 7000 * z09 e := zd7 fun e ih hf => by
 have hL : ∀ l : List zz1, (∀ x ∈ l, x ∈ e.args) → (∀ x ∈ l, x.wf) ∧ (l.map zz1.size).sum ≤ 7000 * kzb l := fun l => by
  induction l with
  | nil => intro _; exact ⟨fun x hx => (by cases hx), by simp⟩
  | cons x l ihl =>
    intro hm
    obtain ⟨h1, h2⟩ := ihl fun y hy => hm y (List.mem_cons_of_mem _ hy)
    obtain ⟨h3, h4⟩ := ih x (hm x List.mem_cons_self) (zgn hf x (hm x List.mem_cons_self))
    refine ⟨fun y hy => ?_, by simp only [List.map_cons, List.sum_cons, kzb]; omega⟩
    rcases List.mem_cons.1 hy with rfl | hy
    · exact h3
    · exact h1 y hy
 obtain ⟨h1, h2⟩ := hL e.args fun _ h => h
 have hop : 1 ≤ e.op ∧ e.op ≤ 18 := by
  have ha := zdw hf
  unfold zeg at ha
  simp only [Bool.and_eq_true, bne_iff_ne, ne_eq] at ha
  rcases ops e.op with h | h | h | h | h | h | h | h | h | h | h | h | h | h | h | h | h | h | h
  all_goals first | (exact ⟨by omega, by omega⟩) | skip
  exfalso
  apply ha.1
  unfold kzq; rw [if_neg (by omega), if_neg (by omega), if_neg (by omega), if_neg (by omega), if_neg (by omega)]
 have hv : e.value.wf ∧ e.value.size ≤ 6800 ∧ e.name.length ≤ 40 := by
  have ho := zno hf
  have hv0 : v0.size ≤ 6800 := by rw [zz0.size_eq, yz1.size_eq]; simp [v0]
  unfold zn9 at ho
  split at ho
  ·simp only [Bool.and_eq_true, beq_iff_eq] at ho
   obtain ⟨a, b⟩ := vok ho.1
   have := ho.2.2
   simp only [List.isEmpty_iff] at this
   exact ⟨a, b, by rw [this]; simp⟩
  ·split at ho
   ·simp only [Bool.and_eq_true, z98] at ho
    refine ⟨by rw [ho.2]; exact yme, by rw [ho.2]; exact hv0, ?_⟩
    have := ho.1
    unfold z6n at this
    simp only [Bool.and_eq_true] at this
    have hn := this.1
    unfold zb0 at hn
    split at hn
    ·cases hn
    ·simp only [Bool.and_eq_true, decide_eq_true_eq] at hn; exact hn.2
   ·simp only [Bool.and_eq_true, z98, List.isEmpty_iff] at ho
    exact ⟨by rw [ho.2]; exact yme, by rw [ho.2]; exact hv0, by rw [ho.1]; simp⟩
 refine ⟨?_, ?_⟩
 ·rw [zz1.z6p]
  exact ⟨by have : IntKind.u8.min = 0 := rfl; have : IntKind.u8.max = 255 := rfl; omega, hv.1, trivial, h1⟩
 ·rw [zz1.size_eq, z3h]; omega
end Go.Proofs.YtfhpamcehnfhoaaGreatDoor


namespace Go.Proofs.YtfhpamcehnfhoaaGreatDoor
open Go Go.Ab
set_option linter.unusedVariables false
set_option linter.unusedSimpArgs false
theorem zkk {α β : Type} {f : α → β} {l : List α} {k : Nat} (h : k < l.length) : (l.take k).map f ++ [f l[k]] = (l.take (k + 1)).map f := by
 rw [← zed h, List.map_append]; rfl
theorem ykq : ∀ v : zz0, v.size ≤ 8388608 → Ev (fun n => z6y n v) (zdg v) := zg0 fun v ih hs => by
 rw [ycr]
 by_cases hk : v.kind = 4
 case neg => rw [Ev.kz2 (by simpa using hk), Ev.yz0, zz0.zz3, zs9 hk]
 rw [Ev.yz2 (by simpa using hk), zu1 hk]
 have hl : v.list.length ≤ (v.list.map zz0.size).sum := by
  have : ∀ l : List zz0, l.length ≤ (l.map zz0.size).sum := fun l => by
   induction l with
   | nil => simp
   | cons x l ih => have := zz0.size_eq x; simp; omega
  exact this _
 have hsz := zz0.size_eq v
 have loop : ∀ k, k ≤ v.list.length → Ev (fun n => z3o n (k : Int) v.list (v.list.length : Int) 18 0 0 0 false [] [] [] 0 0 0 0 false [] [] [] ((v.list.take k).map zdg) []) ⟨18, v0, [], v.list.map zdg⟩ :=
  down (by rw [zhr, Ev.yz2 (by simp), Ev.yz0, List.take_length]; rfl) fun k hk ihk => by
   have hm := List.getElem_mem hk
   have hx := yc1 hm
   rw [zhr, Ev.kz2 (by simpa using hk), Ev.zz4 (yzv hk), zz0.zz3, Ev.kz0 (ih _ hm (by omega)), zz1.zz3, Ev.zz4 (zgb (by simp; omega)), wrk (by omega), zkk hk]
   exact ihk
 exact loop 0 (Nat.zero_le _)
end Go.Proofs.YtfhpamcehnfhoaaGreatDoor


namespace Go.Proofs.YtfhpamcehnfhoaaGreatDoor
open Go Go.Ab
set_option linter.unusedVariables false
set_option linter.unusedSimpArgs false
noncomputable def yhq (nm : List UInt8) (v : zz0) (e : zz1) : zz1 := if e.op = 2 ∧ e.name = nm then zdg v else e
mutual
noncomputable def z3v (nm : List UInt8) (v : zz0) : zz1 → zz1
 | ⟨op, w, n, l⟩ => yhq nm v ⟨op, w, n, yc3 nm v l⟩
noncomputable def yc3 (nm : List UInt8) (v : zz0) : List zz1 → List zz1
 | [] => []
 | x :: l => z3v nm v x :: yc3 nm v l
end
theorem y2a (nm : List UInt8) (v : zz0) : ∀ l : List zz1, yc3 nm v l = l.map (z3v nm v)
 | [] => by rw [yc3]; rfl
 | x :: l => by rw [yc3, y2a nm v l]; rfl
theorem y3f (nm : List UInt8) (v : zz0) (e : zz1) : z3v nm v e = yhq nm v (within e (e.args.map (z3v nm v))) := by cases e; rw [z3v, y2a]; rfl
theorem zne {nm : List UInt8} {v : zz0} {e : zz1} (h : e.op = 2 ∧ e.name = nm) : z3v nm v e = zdg v := by rw [y3f]; exact if_pos h
theorem zj6 {nm : List UInt8} {v : zz0} {e : zz1} (h : ¬ (e.op = 2 ∧ e.name = nm)) : z3v nm v e = within e (e.args.map (z3v nm v)) := by rw [y3f]; exact if_neg h
theorem y97 {f : zz1 → zz1} {env env' : List yz4} : ∀ l : List zz1, (∀ x ∈ l, eev env (f x) = eev env' x) → z9x env (l.map f) = z9x env' l
 | [], h => by rw [List.map_nil, z9x, z9x]
 | x :: l, h => by rw [List.map_cons, z9x, z9x, h x List.mem_cons_self, y97 l fun y hy => h y (List.mem_cons_of_mem _ hy)]
theorem zot {f : zz1 → zz1} {env env' : List yz4} : ∀ (l : List zz1) (k : Nat), (∀ x ∈ l, eev env (f x) = eev env' x) → z69 env (l.map f) k = z69 env' l k
 | [], k, h => by rw [List.map_nil, z69, z69]
 | x :: l, 0, h => by rw [List.map_cons, z69, z69, h x List.mem_cons_self]
 | x :: l, k + 1, h => by rw [List.map_cons, z69, z69, zot l k fun y hy => h y (List.mem_cons_of_mem _ hy)]
theorem yib {f : zz1 → zz1} {env env' : List yz4} (l : List zz1) (h : ∀ x ∈ l, eev env (f x) = eev env' x) : ze9 env (l.map f) = ze9 env' l := by
 cases l with
 | nil => rw [List.map_nil, ze9, ze9]
 | cons c l =>
   have hl : ∀ x ∈ l, eev env (f x) = eev env' x := fun x hx => h x (List.mem_cons_of_mem _ hx)
   rw [List.map_cons, ze9, ze9, h c List.mem_cons_self, zot l 0 hl, zot l 1 hl]
theorem yk3 {nm : List UInt8} {v : zz0} (hv : yz6 v = 0) (env : List yz4) : ∀ e : zz1, eev env (z3v nm v e) = eev (⟨nm, v⟩ :: env) e := zd7 fun e ih => by
 by_cases h : e.op = 2 ∧ e.name = nm
 ·rw [zne h, ykx env v hv, znr, if_neg (by omega), if_pos h.1, zjb, if_pos h.2.symm]
 ·rw [zj6 h, znr, znr (⟨nm, v⟩ :: env) e]
  simp only [within, yib e.args ih, y97 e.args ih]
  by_cases h2 : e.op = 2
  ·have hn : ¬ nm = e.name := fun q => h ⟨h2, q.symm⟩
   rw [zjb, if_neg hn]
  ·simp only [h2, if_false]
theorem yl9 {nm : List UInt8} {v : zz0} : ∀ e : zz1, ¬ yex nm (z3v nm v e) := zd7 fun e ih hn => by
 by_cases h : e.op = 2 ∧ e.name = nm
 ·rw [zne h] at hn; exact yk8 v nm hn
 ·rw [zj6 h, zrl, zje] at hn
  rcases hn with hn | ⟨x, hx, hn⟩
  ·exact h hn
  ·obtain ⟨y, hy, rfl⟩ := List.mem_map.1 (show x ∈ e.args.map (z3v nm v) from hx)
   exact ih y hy hn
theorem y1w {nm : List UInt8} {v : zz0} (hv : yz6 v = 0) : ∀ e : zz1, z4x e = true → z4x (z3v nm v e) = true := zd7 fun e ih hf => by
 by_cases h : e.op = 2 ∧ e.name = nm
 ·rw [zne h]; exact yh3 v hv
 ·rw [zj6 h, zbr]
  simp only [within, List.length_map, zl1, Bool.and_eq_true, List.all_eq_true, List.mem_map]
  refine ⟨zdw hf, zno hf, ?_⟩
  rintro x ⟨y, hy, rfl⟩
  exact ih y hy (zgn hf y hy)
theorem yhh : ∀ v : zz0, (zdg v).size ≤ v.size + 40 * z2n v := zg0 fun v ih => by
 by_cases hk : v.kind = 4
 ·have hl : ∀ l : List zz0, (∀ x ∈ l, x ∈ v.list) → ((l.map zdg).map zz1.size).sum ≤ (l.map zz0.size).sum + 40 * zzj l := fun l => by
   induction l with
   | nil => intro _; exact Nat.le_refl _
   | cons x l ihl =>
     intro hm
     have h1 := ihl fun y hy => hm y (List.mem_cons_of_mem _ hy)
     have h2 := ih x (hm x List.mem_cons_self)
     simp only [List.map_cons, List.sum_cons, zzj]; omega
  have := hl v.list fun _ h => h
  have h0 : v0.size ≤ 20 := by rw [zz0.size_eq, yz1.size_eq]; simp [v0]
  rw [zu1 hk, zz1.size_eq, zz0.size_eq v, kzx, if_pos hk]
  show 1 + v0.size + (([] : List UInt8).length + 1) + (((v.list.map zdg).map zz1.size).sum + 1) + 1 ≤ _
  simp only [List.length_nil]; omega
 ·rw [zs9 hk, zz1.size_eq, kzx, if_neg hk]
  show 1 + v.size + (([] : List UInt8).length + 1) + ((([] : List zz1).map zz1.size).sum + 1) + 1 ≤ _
  simp
  omega
theorem yhy {nm : List UInt8} {v : zz0} : ∀ e : zz1, (z3v nm v e).size ≤ e.size + z09 e * (zdg v).size := zd7 fun e ih => by
 by_cases h : e.op = 2 ∧ e.name = nm
 ·rw [zne h, z3h, Nat.add_mul]; omega
 ·have hl : ∀ l : List zz1, (∀ x ∈ l, x ∈ e.args) → ((l.map (z3v nm v)).map zz1.size).sum ≤ (l.map zz1.size).sum + kzb l * (zdg v).size := fun l => by
   induction l with
   | nil => intro _; exact Nat.zero_le _
   | cons x l ihl =>
     intro hm
     have h1 := ihl fun y hy => hm y (List.mem_cons_of_mem _ hy)
     have h2 := ih x (hm x List.mem_cons_self)
     simp only [List.map_cons, List.sum_cons, kzb, Nat.add_mul]; omega
  have := hl e.args fun _ h => h
  rw [zj6 h, zz1.size_eq, zz1.size_eq e, z3h, Nat.add_mul]
  show 1 + e.value.size + (e.name.length + 1) + (((e.args.map (z3v nm v)).map zz1.size).sum + 1) + 1 ≤ _
  omega
theorem yf2 {nm : List UInt8} {v : zz0} {e : zz1} (hv : yz6 v = 0) (hp : z09 e ≤ 100) (hs : e.size ≤ 1048776) : (z3v nm v e).size ≤ 8388608 := by
 have h1 := yhy (nm := nm) (v := v) e
 have h2 := yhh v
 have h3 := (z2d hv).2.1
 have h4 := (vok hv).2
 have h5 : z09 e * (zdg v).size ≤ 100 * 10800 := Nat.mul_le_mul hp (by omega)
 omega
abbrev Cap := (List UInt8) × Int × Int × Int × Bool × (List UInt8) × (List zz0) × zz1
def cap (nm : List UInt8) (v : zz0) (e : zz1) : Cap := (nm, v.kind, v.num.num, v.num.den, v.truth, v.str, v.list, e)
theorem yir (v : zz0) : zz0.mk v.kind (yz1.mk v.num.num v.num.den) v.truth v.str v.list = v := by
 cases v with
 | mk k q t s l2 => cases q; rfl
theorem yc9 {nm : List UInt8} {v : zz0} {e : zz1} (hs : v.size ≤ 8388608) : Ev (fun n => z57 n e nm v.kind v.num.num v.num.den v.truth v.str v.list) (cap nm v (yhq nm v e)) := by
 have l0 : ∀ b : Bool, (b = true ↔ e.op = 2 ∧ e.name = nm) → Ev (fun n => z0j n b nm v.kind v.num.num v.num.den v.truth v.str v.list (zz1.mk 0 (zz0.mk 0 (yz1.mk 0 0) false [] []) [] []) e) (cap nm v (yhq nm v e)) := fun b hb => by
  rw [zm3, yir]
  cases b
  ·have : ¬ (e.op = 2 ∧ e.name = nm) := fun h => by have := hb.2 h; cases this
   rw [Ev.yz2 (by rfl), Ev.yz0, zz1.zz3]; unfold yhq; rw [if_neg this]; rfl
  ·rw [Ev.kz2 (by rfl), Ev.kz0 (ykq v hs), Ev.yz0, zz1.zz3]; unfold yhq; rw [if_pos (hb.1 rfl)]; rfl
 rw [zsr, zz1.zz3]
 by_cases h2 : e.op = 2
 ·rw [Ev.kz2 (by simpa using h2)]; exact l0 _ (by simp [h2])
 ·rw [Ev.yz2 (by simpa using h2)]; exact l0 _ (by simp [h2])
theorem y6a {nm : List UInt8} {v : zz0} (hv : v.size ≤ 8388608) : ∀ e : zz1, e.size ≤ 8388608 → Ev (fun n => z3k n e nm v.kind v.num.num v.num.den v.truth v.str v.list) (cap nm v (z3v nm v e)) := zd7 fun e ih hs => by
 have hsz := z4m e
 have hln := zaz e.args
 have hwi : zz1.mk e.op (zz0.mk e.value.kind (yz1.mk e.value.num.num e.value.num.den) e.value.truth e.value.str e.value.list) e.name (e.args.map (z3v nm v)) = within e (e.args.map (z3v nm v)) := by rw [yir]; rfl
 have loop : ∀ k, k ≤ e.args.length → Ev (fun n => z0f n (k : Int) e.args (e.args.length : Int) nm v.kind v.num.num v.num.den v.truth v.str v.list e.op e.value.kind e.value.num.num e.value.num.den e.value.truth e.value.str e.value.list e.name 0 0 0 0 false [] [] [] ((e.args.take k).map (z3v nm v)) []) (cap nm v (z3v nm v e)) :=
  down (by
   rw [ze7, Ev.yz2 (by simp), List.take_length]
   rw [hwi, Ev.kz0 (yc9 hv), Ev.yz0, y3f]
   simp only [cap, zz1.zz3]) fun k hk ihk => by
   have hm := List.getElem_mem hk
   rw [ze7, Ev.kz2 (by simpa using hk), Ev.zz4 (yzv hk), zz1.zz3, Ev.kz0 (ih _ hm (by have := zd8 hm; omega))]
   simp only [cap, zz1.zz3]
   rw [Ev.zz4 (zgb (by simp; omega)), wrk (by omega), zkk hk]
   exact ihk
 rw [zuf]
 exact loop 0 (Nat.zero_le _)
noncomputable def y17 (e : zz1) (nm : List UInt8) (v : zz0) : Int × zz1 :=
 if kzr e ≠ 0 then (kzr e, ⟨0, v0, [], []⟩) else if z6n nm = false ∨ yz6 v ≠ 0 then (8, ⟨0, v0, [], []⟩)
 else if kzr (z3v nm v e) ≠ 0 then (kzr (z3v nm v e), ⟨0, v0, [], []⟩) else (0, z3v nm v e)
theorem yi7 {e : zz1} {nm : List UInt8} {v : zz0} (hw : e.wf) (hs' : e.size ≤ 1048776) (hn : nm.length ≤ 8388608) (hvw : v.wf) (hvs : v.size ≤ 8388608) : Ev (fun n => z7q n e nm v) (y17 e nm v) := by
 have hs : e.size ≤ 8388608 := by omega
 have l0 : ∀ b : Bool, kzr e = 0 → (b = false → yz6 v = 0) → Ev (fun n => z2m n b (zz1.mk 0 (zz0.mk 0 (yz1.mk 0 0) false [] []) [] []) nm v e) (if b then (8, ⟨0, v0, [], []⟩) else if kzr (z3v nm v e) ≠ 0 then (kzr (z3v nm v e), ⟨0, v0, [], []⟩) else (0, z3v nm v e)) := fun b hc hb => by
  rw [zr3]
  cases b
  case true => rw [Ev.kz2 (by rfl), Ev.yz0]; rfl
  have hv := hb rfl
  have hf := y1w (nm := nm) hv e (z74 hc).1
  obtain ⟨ow, os⟩ := y8k _ hf
  have os : (z3v nm v e).size ≤ 8388608 := yf2 hv (z74 hc).2.1 hs'
  rw [Ev.yz2 (by rfl)]
  simp only [zz1.zz3]
  rw [Ev.kz0 (y6a hvs e hs)]
  simp only [cap, zz1.zz3]
  rw [Ev.kz0 (zgl ow os)]
  by_cases h : kzr (z3v nm v e) = 0
  ·rw [Ev.yz2 (by simpa using h), Ev.yz0]; simp [h]
  ·rw [Ev.kz2 (by simpa using h), Ev.yz0]; simp [h, v0]
 unfold y17
 rw [y6p]
 simp only [zz1.zz3, zz0.zz3]
 rw [Ev.kz0 (zgl hw hs)]
 by_cases hc : kzr e = 0
 case neg => rw [Ev.kz2 (by simpa using hc), Ev.yz0, if_pos hc]; rfl
 rw [Ev.yz2 (by simpa using hc), if_neg (by simpa using hc), Ev.kz0 (zv9 hn)]
 cases hm : z6n nm
 ·rw [Ev.kz2 (by rfl), if_pos (.inl rfl)]
  exact l0 true hc (fun h => by cases h)
 ·rw [Ev.yz2 (by rfl), Ev.kz0 (z79 hvw hvs)]
  by_cases hv : yz6 v = 0
  ·rw [if_neg (by simp [hv]), show (yz6 v != 0) = false by simpa using hv]
   exact l0 false hc (fun _ => hv)
  ·rw [if_pos (.inr hv), show (yz6 v != 0) = true by simpa using hv]
   exact l0 true hc (fun h => by cases h)
end Go.Proofs.YtfhpamcehnfhoaaGreatDoor


namespace Go.Proofs.YtfhpamcehnfhoaaGreatDoor
open Go Go.Ab
set_option linter.unusedVariables false
set_option linter.unusedSimpArgs false
theorem y3k (e : zz1) : kzr e = 0 ∨ kzr e = 4 ∨ kzr e = 8 := by
 unfold kzr; split
 ·exact .inr (.inl rfl)
 ·split
  ·exact .inl rfl
  ·exact .inr (.inr rfl)
theorem y8n {b : yz4} {env : List yz4} (h : env.length < 40) (hb : bok b = true) : z6m (b :: env) = z6m env := by
 have h1 : ¬ 40 < (b :: env).length := by rw [List.length_cons]; omega
 have h2 : ¬ 40 < env.length := by omega
 unfold z6m; rw [if_neg h1, if_neg h2, List.all_cons, hb, Bool.true_and]
theorem y9g (e : zz1) (nm : List UInt8) (v : zz0) (hc : kzr e = 0) : ((y17 e nm v).1 = 4 ∨ (y17 e nm v).1 = 8) ∨ (y17 e nm v = (0, z3v nm v e) ∧ kzr (z3v nm v e) = 0 ∧ z6n nm = true ∧ yz6 v = 0) := by
 unfold y17
 rw [if_neg (by simpa using hc)]
 by_cases h1 : z6n nm = false ∨ yz6 v ≠ 0
 ·rw [if_pos h1]; exact .inl (.inr rfl)
 rw [if_neg h1]
 have h2 : z6n nm = true ∧ yz6 v = 0 := by
  constructor
  ·cases h : z6n nm
   ·exact (h1 (.inl h)).elim
   ·rfl
  ·by_cases h : yz6 v = 0
   ·exact h
   ·exact (h1 (.inr h)).elim
 by_cases h3 : kzr (z3v nm v e) = 0
 ·rw [if_neg (by simpa using h3)]; exact .inr ⟨rfl, h3, h2⟩
 ·rw [if_pos h3]
  rcases y3k (z3v nm v e) with h | h | h
  ·exact (h3 h).elim
  ·exact .inl (.inl h)
  ·exact .inl (.inr h)
theorem yi2 {e : zz1} {nm : List UInt8} {v : zz0} {env : List yz4} (hc : kzr e = 0) (ho : kzr (z3v nm v e) = 0) (hn : z6n nm = true) (hv : yz6 v = 0) (hl : env.length < 40) : zhk (z3v nm v e) env = zhk e (⟨nm, v⟩ :: env) := by
 have hb : bok ⟨nm, v⟩ = true := by
  unfold z6n at hn
  simp only [Bool.and_eq_true] at hn
  simp [bok, hn.1, hv]
 unfold zhk
 rw [hc, ho, y8n hl hb, yk3 hv]
theorem zst {e : zz1} {nm : List UInt8} {v : zz0} : z9h (zcy (z3v nm v e) []) ∧ nm ∉ zcy (z3v nm v e) [] := by
 obtain ⟨_, h2, h3, _⟩ := zq2 (z3v nm v e) [] [] (by simp) (by simp [z9h]) (by simp)
 refine ⟨h2, fun h => ?_⟩
 rcases (yfe nm (z3v nm v e) []).1 ((h3 nm).2 h) with h' | h'
 ·cases h'
 ·exact yl9 e h'
end Go.Proofs.YtfhpamcehnfhoaaGreatDoor


namespace Go.Proofs.YtfhpamcehnfhoaaGreatDoor
open Go Go.Ab
set_option linter.unusedVariables false
set_option linter.unusedSimpArgs false
theorem yk7 {nm : List UInt8} {l : List (List UInt8)} (hs : z9h l) (hn : nm ∉ l) (hl : l.length ≤ 8388608) : Ev (fun n => yza n 0 l nm 0) true := by
 have loop : ∀ k, k ≤ l.length → Ev (fun n => yza n (k : Int) l nm 0) true :=
  down (by rw [z62, Ev.yz2 (by simp), Ev.kz2 (by rfl)]; exact alv) fun k hk ih => by
   have hne : l[k] ≠ nm := fun h => hn (h ▸ List.getElem_mem hk)
   have l3 : Ev (fun n => kza n l nm 0 (k : Int) false) true := by
    rw [zc7, Ev.yz2 (by rfl), wrk (by omega)]; exact ih
   rw [z62, Ev.kz2 (by simpa using hk), Ev.zz4 (yzv hk), Ev.yz2 (by simpa using hne)]
   by_cases h0 : 0 < k
   ·have hk1 : k - 1 < l.length := by omega
    have hlt : Op.bytesLess l[k - 1] l[k] = true := List.pairwise_iff_getElem.1 hs (k - 1) k hk1 hk (by omega)
    rw [Ev.kz2 (by simpa using h0), show IntKind.i64.wrap ((k : Int) - 1) = ((k - 1 : Nat) : Int) by rw [wI (by omega)]; omega, Ev.zz4 (yzv hk1), Ev.zz4 (yzv hk), hlt]
    exact l3
   ·rw [Ev.yz2 (by simpa using h0)]; exact l3
 exact loop 0 (Nat.zero_le _)
theorem y90 (e : zz1) (env : List yz4) (nm : List UInt8) (v : zz0) (hw : e.wf) (hbw : ∀ b ∈ env, b.wf) (hvw : v.wf) (hs : e.size + (env.map yz4.size).sum + nm.length + v.size ≤ 1048576) : ∃ n, zze n e env nm v = some true := by
 have hbw' : ∀ b ∈ env, b.value.wf := fun b hb => by have := hbw b hb; rw [yz4.z6p] at this; exact this.2
 refine Ev.get (r := true) ?_
 have hbl := znv env
 have lt : Ev (fun n => yz7 n nm env true v e) true := by rw [z67, Ev.kz2 (by rfl)]; exact alv
 have lf (hc : kzr e = 0) : Ev (fun n => yz7 n nm env false v e) true := by
  rw [z67, Ev.yz2 (by rfl)]
  simp only [zz1.zz3, zz0.zz3]
  rw [Ev.kz0 (yi7 hw (by omega) (by omega) hvw (by omega))]
  rcases y9g e nm v hc with (h | h) | ⟨h, ho, hn, hv⟩
  ·rw [h, Ev.kz2 (by rfl), Ev.yz2 (by rfl), Ev.kz2 (by rfl)]; exact alv
  ·rw [h, Ev.kz2 (by rfl), Ev.kz2 (by rfl)]; exact alv
  rw [h, Ev.yz2 (by rfl)]
  have hf := y1w (nm := nm) hv e (z74 hc).1
  obtain ⟨ow, os⟩ := y8k _ hf
  have hop := (z74 ho).2.1
  have os : (z3v nm v e).size ≤ 8388608 := by omega
  have hx : ext [yz4.mk nm v] env = some (⟨nm, v⟩ :: env) := zgb (by simp; omega)
  have hbw2 : ∀ b ∈ (⟨nm, v⟩ :: env : List yz4), b.value.wf := fun b hb => by
   rcases List.mem_cons.1 hb with rfl | hb
   ·exact hvw
   ·exact hbw' b hb
  have hbs2 : ((⟨nm, v⟩ :: env : List yz4).map yz4.size).sum ≤ 8388608 := by
   rw [List.map_cons, List.sum_cons, yz4.size_eq]; simp only; omega
  have hnames : y55 (z3v nm v e) = (zcy (z3v nm v e) [], 0) := by unfold y55; rw [if_neg (by simpa using ho)]
  have l1 : Ev (fun n => zza n nm false (z3v nm v e)) true := by
   rw [zc2, Ev.yz2 (by rfl)]
   simp only [zz1.zz3]
   rw [Ev.kz0 (ydz ow os), hnames]
   have hle := ygu (z3v nm v e) []
   rw [List.length_nil] at hle
   exact yk7 (l := zcy (z3v nm v e) []) zst.1 zst.2 (by omega)
  simp only
  rw [Ev.kz0 (y23 ow os hbw' (by omega)), Ev.zz4 hx, Ev.kz0 (y23 hw (by omega) hbw2 hbs2)]
  by_cases hl : env.length < 40
  ·have hsz : (zhk e (⟨nm, v⟩ :: env)).2.size ≤ 8388608 := by
    by_cases hb : z6m (⟨nm, v⟩ :: env) = 0
    ·rw [yl2 hc hb]; exact ykf hc hb
    ·unfold zhk; rw [if_neg (by simpa using hc), if_pos hb]; exact yg7
   rw [Ev.kz2 (by simp; omega), yi2 hc ho hn hv hl, Ev.yz2 (by simp), Ev.kz0 (ztw _ _ hsz), show (!eqB (zhk e (⟨nm, v⟩ :: env)).2 (zhk e (⟨nm, v⟩ :: env)).2) = false by simp]
   exact l1
  ·rw [Ev.yz2 (by simp; omega)]; exact l1
 rw [zdo]
 simp only [zz1.zz3, zz0.zz3]
 rcases yks (e := e) (by omega) with ⟨h1, hc⟩ | h1
 case inr => rw [Ev.kz0 h1, Ev.kz2 (by rfl)]; exact lt
 rw [Ev.kz0 h1, Ev.yz2 (by rfl)]
 obtain ⟨g, hg⟩ := zo3 (env := env) (by omega)
 rw [Ev.kz0 hg]
 cases g
 case true => rw [Ev.kz2 (by rfl)]; exact lt
 rw [Ev.yz2 (by rfl)]
 by_cases h2 : (nm.length : Int) > 200
 ·rw [Ev.kz2 (by simpa using h2)]; exact lt
 rw [Ev.yz2 (by simpa using h2)]
 obtain ⟨k, hk⟩ := zho (v := v) (by omega)
 rw [Ev.kz0 hk]
 cases k
 ·exact lf hc
 ·exact lt
end Go.Proofs.YtfhpamcehnfhoaaGreatDoor

