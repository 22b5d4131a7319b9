/-
  THE PROGRAM READS BACK WHAT IT WRITES.
-/
import Derived.Test.YtfhpamcehnfhoaaGreatDoorOwn3
namespace Go.Proofs.YtfhpamcehnfhoaaGreatDoor
open Go Go.Ab
set_option linter.unusedVariables false
set_option linter.unusedSimpArgs false
theorem yqv {p : UInt8 → Bool} {w t : List UInt8} (hw : w.all p = true) (ht : ∀ c, t.head? = some c → p c = false) : (w ++ t).takeWhile p = w := by
 induction w with
 | nil =>
   cases t with
   | nil => rfl
   | cons c t => rw [List.nil_append, List.takeWhile_cons, if_neg (by rw [ht c rfl]; decide)]
 | cons c w ih =>
   simp only [List.all_cons, Bool.and_eq_true] at hw
   rw [List.cons_append, List.takeWhile_cons, if_pos hw.1, ih hw.2]
theorem y76 (t : List UInt8) : ∀ s, scan (esc s ++ 34 :: t) = some (s, (esc s).length + 1)
 | [] => by rw [esc, List.nil_append, ztx]; rfl
 | c :: s => by
   rw [esc]
   by_cases h : c = 34 ∨ c = 92
   · rw [if_pos h, List.cons_append, List.cons_append, ztk, if_pos h, y76 t s]; rfl
   · rw [if_neg h, List.cons_append, zyz _ (fun e => h (.inl e)) (fun e => h (.inr e)), y76 t s]; rfl
def stop (t : List UInt8) : Prop := ∀ c, t.head? = some c → c = 32 ∨ c = 44 ∨ c = 41 ∨ c = 93
theorem ysg : stop [] := fun c h => by cases h
theorem ztd {c : UInt8} {t : List UInt8} (h : c = 32 ∨ c = 44 ∨ c = 41 ∨ c = 93) : stop (c :: t) := fun x hx => by
 rw [List.head?_cons] at hx
 rw [← Option.some.inj hx]; exact h
theorem yr9 {t : List UInt8} (h : stop t) : ∀ c, t.head? = some c → isNum c = false := fun c hc => by
 rcases h c hc with rfl | rfl | rfl | rfl <;> decide
theorem y4w {t : List UInt8} (h : stop t) : ∀ c, t.head? = some c → z1j c = false := fun c hc => by
 rcases h c hc with rfl | rfl | rfl | rfl <;> decide
theorem yu9 {t : List UInt8} (h : stop t) : ([40] : List UInt8).isPrefixOf t = false := by
 rw [zac]
 cases hq : t.head? with
 | none => rfl
 | some c => rcases h c hq with rfl | rfl | rfl | rfl <;> decide
theorem y5n {r : zz2} (h : rok r = true) : (z1n r).all isNum = true := by
 have hd : ∀ s : List UInt8, s.all z7u = true → s.all isNum = true := fun s hs => by
  rw [List.all_eq_true] at hs ⊢
  exact fun c hc => zo5.2 (.inl (z7s.1 (hs c hc)))
 have hb : (zp7 r).all isNum = true := by
  unfold zp7
  split
  ·exact hd _ (zej _)
  ·rw [List.all_append, List.all_cons, hd _ (zej _), hd _ (zej _)]; decide
 rw [zlu h]
 split
 ·rw [List.all_cons, hb]; decide
 ·exact hb
theorem zvu {r : zz2} (h : rok r = true) : ∃ c t, z1n r = c :: t ∧ isNum c = true := by
 have hn := y5n h
 cases hq : z1n r with
 | nil =>
   exfalso
   obtain ⟨c, t, e, _⟩ := y4k r
   rw [zlu h, e] at hq
   split at hq <;> cases hq
 | cons c t =>
   rw [hq, List.all_cons, Bool.and_eq_true] at hn
   exact ⟨c, t, rfl, hn.1⟩
theorem ytj {r : zz2} (h : rok r = true) {t : List UInt8} (ht : stop t) : lit (z1n r ++ t) = some (zi3 r, t) := by
 obtain ⟨c, w, e, hc⟩ := zvu h
 have h34 : (z1n r ++ t).head? ≠ some 34 := by
  rw [e, List.cons_append, List.head?_cons]
  intro q
  rw [Option.some.inj q] at hc
  revert hc; decide
 have tw := yqv (y5n h) (yr9 ht)
 unfold lit
 rw [if_neg h34, tw, zpi h, if_pos rfl, List.drop_left]
theorem yu8 {s t : List UInt8} (h : z1l (zed s) = 0) : lit (34 :: (esc s ++ 34 :: t)) = some (zed s, t) := by
 unfold lit
 rw [if_pos (by rfl), List.tail_cons, y76]
 dsimp only
 rw [if_pos h, show 34 :: (esc s ++ 34 :: t) = (34 :: (esc s ++ [34])) ++ t by simp, List.drop_left' (by simp)]
theorem ytu {v : yz0} (h : z8k v = true) (hk : v.kind = 1) : zi3 v.num = v := by
 rw [z7i, if_pos hk] at h
 simp only [Bool.and_eq_true, Bool.not_eq_true', List.isEmpty_iff] at h
 obtain ⟨_, h2, h3, h4⟩ := h
 obtain ⟨k, q, t, s, l⟩ := v
 simp only at hk h2 h3 h4
 subst hk h2 h3 h4
 rfl
theorem ypa {v : yz0} (h : z8k v = true) (hk : v.kind = 2) : zfy v.truth = v := by
 rw [z7i, if_neg (by omega), if_pos hk] at h
 simp only [nul, Bool.and_eq_true, beq_iff_eq, List.isEmpty_iff] at h
 obtain ⟨⟨h1, h2⟩, h3, h4⟩ := h
 obtain ⟨k, q, t, s, l⟩ := v
 obtain ⟨a, b⟩ := q
 simp only at hk h1 h2 h3 h4
 subst hk h1 h2 h3 h4
 rfl
theorem yui {v : yz0} (h : z8k v = true) (hk : v.kind = 3) : zed v.str = v := by
 rw [z7i, if_neg (by omega), if_neg (by omega), if_pos hk] at h
 simp only [nul, Bool.and_eq_true, beq_iff_eq, Bool.not_eq_true', List.isEmpty_iff] at h
 obtain ⟨⟨h1, h2⟩, h3, h4, _⟩ := h
 obtain ⟨k, q, t, s, l⟩ := v
 obtain ⟨a, b⟩ := q
 simp only at hk h1 h2 h3 h4
 subst hk h1 h2 h3 h4
 rfl
theorem yv5 {w t : List UInt8} (h : z9w w = true) (ht : ∀ c, t.head? = some c → z1j c = false) : nm (w ++ t) = w := by
 cases w with
 | nil => simp [z9w] at h
 | cons c w =>
   simp only [z9w, Bool.and_eq_true] at h
   rw [List.cons_append, zki, if_pos h.1.1, yqv h.1.2 ht]
theorem yup {c : UInt8} {t : List UInt8} (h : isLet c = false) : nm (c :: t) = [] := by
 rw [zki, if_neg (by rw [h]; decide)]
theorem ybv {w : List UInt8} (h : z9w w = true) : ∃ c t, w = c :: t ∧ isLet c = true := by
 cases w with
 | nil => simp [z9w] at h
 | cons c w =>
   simp only [z9w, Bool.and_eq_true] at h
   exact ⟨c, w, rfl, h.1.1⟩
theorem ytn {c : UInt8} (h : isNum c = true) : isLet c = false ∧ c ≠ 40 ∧ c ≠ 91 := by
 rw [zo5] at h
 refine ⟨?_, ?_, ?_⟩
 ·cases hl : isLet c
  ·rfl
  ·rw [zkt] at hl; omega
 ·intro e; rw [e] at h; revert h; decide
 ·intro e; rw [e] at h; revert h; decide
theorem zu4 {w t : List UInt8} {d : Nat} (hw : z9w w = true) (ht : ∀ c, t.head? = some c → z1j c = false) (hl : (w ++ t).length ≤ 4000) {r} (b : Bool) (hb : b = ((w == [116, 114, 117, 101]) || (w == [102, 97, 108, 115, 101]))) (h : Ev (fun n => kzn n w (w.length : Int) ((d + 1 : Nat) : Int) b ⟨w ++ t⟩ E0) r) : Ev (fun n => yz6 n ((d + 1 : Nat) : Int) ⟨w ++ t⟩ E0) r := by
 obtain ⟨c, w', e, hc⟩ := ybv hw
 have hq : (w ++ t).head? = some c := by rw [e]; rfl
 have hne : ∀ k : UInt8, isLet k = false → (w ++ t).head? ≠ some k := fun k hk q => by
  rw [hq] at q
  rw [Option.some.inj q, hk] at hc
  cases hc
 have hnm := yv5 hw ht
 have hpos : 0 < w.length := by rw [e]; simp
 refine zoy hl (hne 40 (by decide)) (hne 91 (by decide)) ?_
 rw [hnm, yzw, Ev.yz1 (by rfl), Ev.yz2 (zd8 (by simp)), List.take_left, Ev.yz1 (by rw [beq_eq_false_iff_ne]; omega)]
 simp only [kz0.kz2]
 cases hh : w == [116, 114, 117, 101]
 ·rw [Ev.yz1 (by rfl)]
  rw [hh, Bool.false_or] at hb
  rw [← hb]
  exact h
 ·rw [Ev.kz1 (by rfl)]
  rw [hh, Bool.true_or] at hb
  rw [← hb]
  exact h
theorem ztt {w t : List UInt8} : sub (w ++ t) (w.length : Int) ((w ++ t).length : Int) = some t := by
 rw [zb8 (by simp) (Nat.le_refl _), List.take_length, List.drop_left]
theorem yo2 (w X : List UInt8) : w.isPrefixOf (w ++ X) = true := List.isPrefixOf_iff_prefix.2 (List.prefix_append _ _)
theorem yo1 {w X : List UInt8} : Ev (fun n => kz7 n w ⟨w ++ X⟩) (true, ⟨X⟩) := (zg8 (yo2 w X)).to (by rw [List.drop_left])
theorem zxl {c : UInt8} {X : List UInt8} : Ev (fun n => kz7 n [c] ⟨c :: X⟩) (true, ⟨X⟩) := yo1 (w := [c])
theorem ynt {w X : List UInt8} : Ev (fun n => yzc n w ⟨w ++ X⟩) (.ok ⟨X⟩) := (zy1 (yo2 w X)).to (by rw [List.drop_left])
theorem yoa {c : UInt8} {X : List UInt8} : Ev (fun n => yzc n [c] ⟨c :: X⟩) (.ok ⟨X⟩) := ynt (w := [c])
theorem ytw {o op : Nat} (h3 : 3 ≤ o) (h : o < op) (h10 : op ≤ 10) {Y : List UInt8} : (z3x (o : Int) ++ [32]).isPrefixOf (z3x (op : Int) ++ 32 :: Y) = false := by
 rcases (show o = 3 ∨ o = 4 ∨ o = 5 ∨ o = 6 ∨ o = 7 ∨ o = 8 ∨ o = 9 by omega) with rfl | rfl | rfl | rfl | rfl | rfl | rfl <;>
  rcases (show op = 4 ∨ op = 5 ∨ op = 6 ∨ op = 7 ∨ op = 8 ∨ op = 9 ∨ op = 10 by omega) with rfl | rfl | rfl | rfl | rfl | rfl | rfl <;> first | (exfalso; omega) | rfl
theorem pick {d : Nat} {op : Nat} (ho : op ≤ 10) {Y : List UInt8} {e A : kz0} {r} (h : Ev (fun n => zz7 n (op : Int) ((d + 1 : Nat) : Int) ⟨z3x (op : Int) ++ 32 :: Y⟩ e A) r) : ∀ o, o ≤ op → 3 ≤ o → Ev (fun n => zz7 n (o : Int) ((d + 1 : Nat) : Int) ⟨z3x (op : Int) ++ 32 :: Y⟩ e A) r :=
 down (fun _ => h) fun o ho' ih h3 => by
  have hp := ytw (Y := Y) h3 ho' ho
  have hl := zaf (o : Int)
  rw [z38, Ev.kz1 (by simp; omega), Ev.zz0 zdn, Ev.yz2 (z3o (by simp; omega)), Ev.zz0 (z9k hp), Ev.yz1 (by rfl), u8k (by omega)]
  simp only [kz0.kz2]
  exact ih (by omega)
theorem yox : ∀ i k : Fin 7, i < k → z3l[i.val]'i.isLt ≠ z3l[k.val]'k.isLt := by decide
theorem ygx {k : Nat} (hk : k < 7) : Ev (fun n => kze n z3l (z4q ((11 + k : Nat) : Int))) (k : Int) := by
 rw [y08 k hk, z7g]
 have loop : ∀ i, i ≤ k → Ev (fun n => kz5 n (i : Int) z3l (z3l[k]'hk) 7) (k : Int) :=
  down (by rw [kzp, Ev.kz1 (by simp; omega), Ev.yz2 (yzb (l := z3l) hk), Ev.kz1 (by simp), Ev.zz1]) fun i hi ih => by
   have hi7 : i < z3l.length := by show i < 7; omega
   have hne := yox ⟨i, by omega⟩ ⟨k, hk⟩ hi
   rw [kzp, Ev.kz1 (by simp; omega), Ev.yz2 (yzb (l := z3l) hi7), Ev.yz1 (by rw [beq_eq_false_iff_ne]; exact fun q => hne q.symm), wrk (by omega)]
   exact ih
 exact loop 0 (Nat.zero_le _)
theorem ybr {k : Nat} (hk : k < 7) : z9w (z4q ((11 + k : Nat) : Int)) = true ∧ z4q ((11 + k : Nat) : Int) ≠ [116, 114, 117, 101] ∧ z4q ((11 + k : Nat) : Int) ≠ [102, 97, 108, 115, 101] := by
 rcases (show k = 0 ∨ k = 1 ∨ k = 2 ∨ k = 3 ∨ k = 4 ∨ k = 5 ∨ k = 6 by omega) with rfl | rfl | rfl | rfl | rfl | rfl | rfl <;> decide
theorem ypw {l : List kz0} {x : kz0} (h : x ∈ l) : 1 + zd2 x ≤ zfp l := by
 induction l with
 | nil => cases h
 | cons y l ih =>
   rw [zfp]
   rcases List.mem_cons.1 h with rfl | h
   · omega
   · have := ih h; omega
theorem ym8 {l : List kz0} {x : kz0} (h : x ∈ l) : z45 x ≤ zzq l := by
 induction l with
 | nil => cases h
 | cons y l ih =>
   rw [zzq]
   rcases List.mem_cons.1 h with rfl | h
   · omega
   · have := ih h; omega
theorem yfi (l : List kz0) : l.length ≤ zzq l := by
 induction l with
 | nil => simp
 | cons y l ih => rw [zzq, List.length_cons]; have := z9i y; omega
theorem ykz {v : yz0} (h : z1l v = 0) : ∃ c w, z9r v = c :: w ∧ c ≠ 41 ∧ c ≠ 93 := by
 obtain ⟨hf, _, _⟩ := z9n h
 unfold z9r
 split
 ·rename_i hk
  obtain ⟨c, w, e, hc⟩ := zvu (zhd hf hk)
  refine ⟨c, w, e, ?_, ?_⟩ <;> (intro q; rw [q] at hc; revert hc; decide)
 split
 ·split
  ·exact ⟨_, _, rfl, by decide, by decide⟩
  ·exact ⟨_, _, rfl, by decide, by decide⟩
 ·exact ⟨_, _, rfl, by decide, by decide⟩
theorem ykv {e : kz0} (hf : z2p e = true) : ∃ c w, z0i e = c :: w ∧ c ≠ 41 ∧ c ≠ 93 := by
 have ho := zbo hf
 have har := zb9 hf
 rw [zcz]
 by_cases h1 : e.op = 1
 ·rw [h1] at ho
  rw [if_pos h1]
  exact ykz (yfl ho).1
 rw [if_neg h1]
 have hw : ∀ {w : List UInt8}, z9w w = true → ∀ t, ∃ c w', w ++ t = c :: w' ∧ c ≠ 41 ∧ c ≠ 93 := fun {w} hw t => by
  obtain ⟨c, w', e, hc⟩ := ybv hw
  refine ⟨c, w' ++ t, by rw [e]; rfl, ?_, ?_⟩ <;> (intro q; rw [q] at hc; revert hc; decide)
 by_cases h2 : e.op = 2
 ·rw [h2] at ho
  have hn := (ymc ho).1
  unfold zd0 at hn
  rw [Bool.and_eq_true] at hn
  rw [if_pos h2]
  have := hw hn.1 []
  rwa [List.append_nil] at this
 rw [if_neg h2]
 by_cases h3 : 3 ≤ e.op ∧ e.op ≤ 10
 ·have hn := zhb h3
  have e3 : z32 e.op = [40] := by unfold z32; rw [if_pos hn]
  rw [e3]
  exact ⟨_, _, rfl, by decide, by decide⟩
 ·have hn := zi9 h3
  by_cases h18 : e.op = 18
  ·have e3 : z32 e.op = [91] := by unfold z32; rw [if_neg (by simpa using hn), if_neg (by simpa using h18)]
   rw [e3]
   exact ⟨_, _, rfl, by decide, by decide⟩
  ·have hr := zgb har h1 h2 h3 h18
   obtain ⟨k, hk, hk7⟩ : ∃ k : Nat, e.op = ((11 + k : Nat) : Int) ∧ k < 7 := ⟨(e.op - 11).toNat, by omega, by omega⟩
   have e3 : z32 e.op = z4q e.op ++ [40] := by unfold z32; rw [if_neg (by simpa using hn), if_pos (by simpa using h18)]
   rw [e3, List.append_assoc, hk]
   exact hw (ybr hk7).1 _
def RB (d : Nat) (y : kz0) : Prop := ∀ u, stop u → (z0i y ++ u).length ≤ 4000 → Ev (fun n => yzd n (d : Int) ⟨z0i y ++ u⟩) (.ok (⟨u⟩, y))
theorem yjn {d : Nat} {c : UInt8} (hc : c = 41 ∨ c = 93) {t : List UInt8} : ∀ (l : List kz0) (x : kz0) (acc : List kz0), (∀ y, y ∈ x :: l → RB d y) → (z0i x ++ (kzv [44, 32] true l ++ c :: t)).length ≤ 4000 → acc.length + l.length ≤ 100000 →
  Ev (fun n => kzf n [c] (d : Int) ⟨z0i x ++ (kzv [44, 32] true l ++ c :: t)⟩ acc) (.ok (acc ++ x :: l, ⟨t⟩)) := by
 intro l
 induction l with
 | nil =>
   intro x acc hR hl ha
   have hs : stop (kzv [44, 32] true [] ++ c :: t) := by
     rw [kzv, List.nil_append]
     exact ztd (by rcases hc with rfl | rfl <;> simp)
   have h := hR x List.mem_cons_self _ hs hl
   rw [z4f]
   refine (Ev.zz0 h).2 ?_
   refine Ev.z7h.2 ?_
   rw [kzv, List.nil_append, kz0.kz2, Ev.yz2 (ydp (by simp; omega)), Ev.zz0 zxl, Ev.kz1 (by rfl), Ev.zz1]
 | cons y l ih =>
   intro x acc hR hl ha
   have e : kzv [44, 32] true (y :: l) ++ c :: t = [44, 32] ++ (z0i y ++ (kzv [44, 32] true l ++ c :: t)) := by
     rw [kzv]
     simp
   rw [e] at hl ⊢
   rw [List.length_append, List.length_append] at hl
   rw [List.length_cons] at ha
   have hs : stop ([44, 32] ++ (z0i y ++ (kzv [44, 32] true l ++ c :: t))) := ztd (by simp)
   have h := hR x List.mem_cons_self _ hs (by rw [List.length_append, List.length_append]; exact hl)
   have hp : ([c] : List UInt8).isPrefixOf ([44, 32] ++ (z0i y ++ (kzv [44, 32] true l ++ c :: t))) = false := by
     rw [zac]
     rcases hc with rfl | rfl <;> rfl
   rw [z4f]
   refine (Ev.zz0 h).2 ?_
   refine Ev.z7h.2 ?_
   rw [kz0.kz2, Ev.yz2 (ydp (by simp; omega)), Ev.zz0 (z9k hp), Ev.yz1 (by rfl), Ev.zz0 ynt]
   refine Ev.z7h.2 ?_
   refine (ih y (acc ++ [x]) (fun z hz => hR z (List.mem_cons_of_mem _ hz)) (by omega) (by simp; omega)).to ?_
   rw [List.append_assoc]
   rfl
theorem y2o {d : Nat} {c : UInt8} (hc : c = 41 ∨ c = 93) {t : List UInt8} {l : List kz0} (hR : ∀ y, y ∈ l → RB d y) (hf : ∀ y, y ∈ l → z2p y = true) (hl : (kzv [44, 32] false l ++ c :: t).length ≤ 4000) (hn : l.length ≤ 5000) :
  Ev (fun n => kza n (d : Int) [c] ⟨kzv [44, 32] false l ++ c :: t⟩) (.ok (l, ⟨t⟩)) := by
 cases l with
 | nil => rw [kzv, List.nil_append, z69, Ev.zz0 zxl, Ev.kz1 (by rfl), Ev.zz1]
 | cons x l =>
   have e : kzv [44, 32] false (x :: l) ++ c :: t = z0i x ++ (kzv [44, 32] true l ++ c :: t) := by
     rw [kzv]
     simp
   rw [e] at hl ⊢
   have hp : ([c] : List UInt8).isPrefixOf (z0i x ++ (kzv [44, 32] true l ++ c :: t)) = false := by
     obtain ⟨a, w, h1, h2, h3⟩ := ykv (hf x List.mem_cons_self)
     rw [zac, h1, List.cons_append, List.head?_cons, beq_eq_false_iff_ne]
     intro q
     have := Option.some.inj q
     rcases hc with rfl | rfl
     · exact h2 this
     · exact h3 this
   rw [List.length_cons] at hn
   rw [z69, Ev.zz0 (z9k hp), Ev.yz1 (by rfl)]
   exact yjn hc l x [] hR hl (by simp; omega)
theorem yr5 {e : kz0} (h1 : e.op = 1) (h2 : e.name = []) (h3 : e.args = []) : zp1 e.value = e := by
 obtain ⟨op, v, nm', l⟩ := e
 simp only at h1 h2 h3
 subst h1 h2 h3
 rfl
theorem ytt {e : kz0} (h1 : e.op = 2) (h2 : e.value = v0) (h3 : e.args = []) : ypt e.name = e := by
 obtain ⟨op, v, nm', l⟩ := e
 simp only at h1 h2 h3
 subst h1 h2 h3
 rfl
theorem yka {e : kz0} (h1 : e.name = []) (h2 : e.value = v0) : zjv e.op e.args = e := by
 obtain ⟨op, v, nm', l⟩ := e
 simp only at h1 h2
 subst h1 h2
 rfl
theorem yo7 {op : Int} {l : List kz0} (h : op = 1 ∨ op = 2) (har : zcy op l.length = true) : l = [] := by
 rcases zna har with ⟨_, a⟩ | ⟨a, _⟩ | ⟨a, _⟩ | ⟨a, _⟩ | a
 ·exact List.eq_nil_of_length_eq_zero a
 ·rcases h with rfl | rfl <;> exact absurd a (by decide)
 ·rcases h with rfl | rfl <;> exact absurd a (by decide)
 ·omega
 ·omega
theorem yn2 {e : kz0} (hf : z2p e = true) (h1 : e.op = 1) {d : Nat} {t : List UInt8} (ht : stop t) (hl : (z0i e ++ t).length ≤ 4000) : Ev (fun n => yz6 n ((d + 1 : Nat) : Int) ⟨z0i e ++ t⟩ E0) (.ok (⟨t⟩, e)) := by
 have ho := zbo hf
 have har := zb9 hf
 have hna := yo7 (.inl h1) har
 rw [h1] at ho
 obtain ⟨o1, o2, o3⟩ := yfl ho
 have he := yr5 h1 o3 hna
 obtain ⟨hvf, _, _⟩ := z9n o1
 have htx : z0i e = z9r e.value := by rw [zcz, if_pos h1]
 rw [htx] at hl ⊢
 suffices h : Ev (fun n => yz6 n ((d + 1 : Nat) : Int) ⟨z9r e.value ++ t⟩ E0) (.ok (⟨t⟩, zp1 e.value)) from h.to (by rw [he])
 rcases zcl hvf with hk | hk | hk | hk
 ·have hr := zhd hvf hk
  have hv : z9r e.value = z1n e.value.num := by unfold z9r; rw [if_pos hk]
  obtain ⟨c, w, hw, hc⟩ := zvu hr
  obtain ⟨c1, c2, c3⟩ := ytn hc
  rw [hv] at hl ⊢
  have hq : (z1n e.value.num ++ t).head? = some c := by rw [hw]; rfl
  have := zs7 (d := d) hl (by rw [hq]; simpa using c2) (by rw [hq]; simpa using c3) (by rw [hw, List.cons_append]; exact yup c1)
  rw [ytj hr ht] at this
  refine this.to ?_
  show (Res.ok ((⟨t⟩ : yz3), zp1 (zi3 e.value.num)) : Res (Int × Unit) (yz3 × kz0)) = _
  rw [ytu hvf hk]
 ·have hv : z9r e.value = if e.value.truth then [116, 114, 117, 101] else [102, 97, 108, 115, 101] := by unfold z9r; rw [if_neg (by omega), if_pos hk]
  have hvt := ypa hvf hk
  rw [hv] at hl ⊢
  generalize e.value.truth = b at *
  rw [← hvt]
  cases b
  ·rw [if_neg (by decide)] at hl ⊢
   refine zu4 (by decide) (y4w ht) hl true (by decide) ?_
   rw [kzw, Ev.kz1 (by rfl), Ev.yz2 ztt, Ev.zz0 zl6, Ev.zz1, yz0.kz2]
   rfl
  ·rw [if_pos rfl] at hl ⊢
   refine zu4 (by decide) (y4w ht) hl true (by decide) ?_
   rw [kzw, Ev.kz1 (by rfl), Ev.yz2 ztt, Ev.zz0 zl6, Ev.zz1, yz0.kz2]
   rfl
 ·have hv : z9r e.value ++ t = 34 :: (esc e.value.str ++ 34 :: t) := by
   unfold z9r
   rw [if_neg (by omega), if_neg (by omega)]
   simp
  have hs := yui hvf hk
  rw [hv] at hl ⊢
  have := zs7 (d := d) hl (by simp) (by simp) (yup (by decide))
  rw [yu8 (by rw [hs]; exact o1)] at this
  refine this.to ?_
  show (Res.ok ((⟨t⟩ : yz3), zp1 (zed e.value.str)) : Res (Int × Unit) (yz3 × kz0)) = _
  rw [hs]
 ·exact (o2 hk).elim
theorem yoy {e : kz0} (hf : z2p e = true) (h2 : e.op = 2) {d : Nat} {t : List UInt8} (ht : stop t) (hl : (z0i e ++ t).length ≤ 4000) : Ev (fun n => yz6 n ((d + 1 : Nat) : Int) ⟨z0i e ++ t⟩ E0) (.ok (⟨t⟩, e)) := by
 have ho := zbo hf
 have har := zb9 hf
 have hna := yo7 (.inr h2) har
 rw [h2] at ho
 obtain ⟨o1, o2⟩ := ymc ho
 have he := ytt h2 o2 hna
 have htx : z0i e = e.name := by rw [zcz, if_neg (by omega), if_pos h2]
 rw [htx] at hl ⊢
 suffices h : Ev (fun n => yz6 n ((d + 1 : Nat) : Int) ⟨e.name ++ t⟩ E0) (.ok (⟨t⟩, ypt e.name)) from h.to (by rw [he])
 unfold zd0 at o1
 simp only [Bool.and_eq_true, Bool.not_eq_true'] at o1
 refine zu4 o1.1 (y4w ht) hl false (by rw [o1.2.1, o1.2.2]; rfl) ?_
 rw [kzw, Ev.yz1 (by rfl), Ev.yz2 ztt, Ev.zz0 (z9k (yu9 ht)), Ev.kz1 (by rfl), Ev.zz1]
 rfl
theorem ymv {e : kz0} (hf : z2p e = true) (h3 : 3 ≤ e.op ∧ e.op ≤ 10) {d : Nat} (hd : d ≤ 11) (hR : ∀ y, y ∈ e.args → RB d y) {t : List UInt8} (hl : (z0i e ++ t).length ≤ 4000) : Ev (fun n => yz6 n ((d + 1 : Nat) : Int) ⟨z0i e ++ t⟩ E0) (.ok (⟨t⟩, e)) := by
 have ho := zbo hf
 have har := zb9 hf
 have hn := zhb h3
 obtain ⟨o1, o2⟩ := yh3 (by omega) (by omega) ho
 have he := yka o1 o2
 have h2' := ymi har h3
 obtain ⟨a, b, hab⟩ : ∃ a b, e.args = [a, b] := by
  match e.args, h2' with
  | [a, b], _ => exact ⟨a, b, rfl⟩
 obtain ⟨op, hop⟩ : ∃ k : Nat, e.op = (k : Int) := ⟨e.op.toNat, by omega⟩
 have htx : z0i e ++ t = 40 :: (z0i a ++ (32 :: (z3x (op : Int) ++ 32 :: (z0i b ++ 41 :: t)))) := by
  rw [zcz, if_neg (by omega), if_neg (by omega), hab]
  unfold z32 zal z0s
  rw [if_pos hn, if_pos hn, if_pos hn, hop]
  simp [kzv]
 rw [htx] at hl ⊢
 rw [hab] at he
 rw [hop] at he h3
 have ha : RB d a := hR a (by rw [hab]; simp)
 have hb : RB d b := hR b (by rw [hab]; simp)
 have sl := zaf (op : Int)
 simp only [List.length_cons, List.length_append] at hl
 have ra := ha (32 :: (z3x (op : Int) ++ 32 :: (z0i b ++ 41 :: t))) (ztd (by simp)) (by simp only [List.length_cons, List.length_append]; omega)
 have rb := hb (41 :: t) (ztd (by simp)) (by simp only [List.length_cons, List.length_append]; omega)
 rw [z0o, Ev.zz0 zxl, Ev.kz1 (by rfl), y3y (by omega)]
 refine (Ev.zz0 ra).2 ?_
 refine Ev.z7h.2 ?_
 rw [Ev.zz0 yoa]
 refine Ev.z7h.2 ?_
 simp only [kz0.kz2]
 refine pick (op := op) (by omega) ?_ 3 (by omega) (Nat.le_refl _)
 have e1 : z3x (op : Int) ++ 32 :: (z0i b ++ 41 :: t) = (z3x (op : Int) ++ [32]) ++ (z0i b ++ 41 :: t) := by simp
 rw [e1, z38, Ev.kz1 (by simp; omega), Ev.zz0 zdn, Ev.yz2 (z3o (by simp; omega)), Ev.zz0 yo1, Ev.kz1 (by rfl), y3y (by omega)]
 refine (Ev.zz0 rb).2 ?_
 refine Ev.z7h.2 ?_
 rw [Ev.zz0 yoa]
 refine Ev.z7h.2 ?_
 simp only [kz0.kz2]
 refine Ev.zz1.2 ?_
 rw [← he]
 rfl
theorem yqa {e : kz0} (hf : z2p e = true) (hp : z45 e ≤ 5000) (h1 : e.op ≠ 1) (h2 : e.op ≠ 2) (h3 : ¬ (3 ≤ e.op ∧ e.op ≤ 10)) {d : Nat} (hd : d ≤ 11) (hR : ∀ y, y ∈ e.args → RB d y) {t : List UInt8} (hl : (z0i e ++ t).length ≤ 4000) : Ev (fun n => yz6 n ((d + 1 : Nat) : Int) ⟨z0i e ++ t⟩ E0) (.ok (⟨t⟩, e)) := by
 have ho := zbo hf
 have har := zb9 hf
 have hn := zi9 h3
 obtain ⟨o1, o2⟩ := yh3 h1 h2 ho
 have he := yka o1 o2
 have hfa := z7r hf
 have hcnt : e.args.length ≤ 5000 := by have := z9i e; have := yfi e.args; omega
 have q2 : zal e.op = [44, 32] := by unfold zal; rw [if_neg (by simpa using hn)]
 have hte := zcz e
 rw [if_neg h1, if_neg h2, q2] at hte
 by_cases h18 : e.op = 18
 ·have e2 : z0s e.op = [93] := by unfold z0s; rw [if_neg (by simpa using hn), if_neg (by simpa using h18)]
  have e3 : z32 e.op = [91] := by unfold z32; rw [if_neg (by simpa using hn), if_neg (by simpa using h18)]
  have htx : z0i e ++ t = 91 :: (kzv [44, 32] false e.args ++ 93 :: t) := by rw [hte, e2, e3]; simp
  rw [htx] at hl ⊢
  rw [List.length_cons] at hl
  have hs := y2o (c := 93) (.inr rfl) hR hfa (t := t) (by omega) hcnt
  rw [z0o, Ev.zz0 (z9k (by rw [zac]; rfl)), Ev.yz1 (by rfl), z5l, Ev.zz0 zxl, Ev.kz1 (by rfl), y3y (by omega)]
  refine (Ev.zz0 hs).2 ?_
  refine Ev.z7h.2 ?_
  refine Ev.zz1.2 ?_
  rw [h18] at he
  show Res.ok (_, zjv 18 e.args) = _
  rw [he]
 ·have hr := zgb har h1 h2 h3 h18
  obtain ⟨k, hk, hk7⟩ : ∃ k : Nat, e.op = ((11 + k : Nat) : Int) ∧ k < 7 := ⟨(e.op - 11).toNat, by omega, by omega⟩
  have e2 : z0s e.op = [41] := by unfold z0s; rw [if_neg (by simpa using hn), if_pos (by simpa using h18)]
  have e3 : z32 e.op = z4q e.op ++ [40] := by unfold z32; rw [if_neg (by simpa using hn), if_pos (by simpa using h18)]
  have htx : z0i e ++ t = z4q ((11 + k : Nat) : Int) ++ (40 :: (kzv [44, 32] false e.args ++ 41 :: t)) := by rw [hte, e2, e3, hk]; simp
  rw [htx] at hl ⊢
  obtain ⟨n1, n2, n3⟩ := ybr hk7
  have hl2 := hl
  rw [List.length_append, List.length_cons] at hl2
  have hs := y2o (c := 41) (.inl rfl) hR hfa (t := t) (by omega) hcnt
  have hix := ygx hk7
  refine zu4 n1 (fun c hc => by rw [List.head?_cons] at hc; rw [← Option.some.inj hc]; decide) hl false (by rw [beq_eq_false_iff_ne.2 n2, beq_eq_false_iff_ne.2 n3]; rfl) ?_
  rw [kzw, Ev.yz1 (by rfl), Ev.yz2 ztt, Ev.zz0 zxl, Ev.yz1 (by rfl), Ev.zz0 zsx, Ev.zz0 hix, Ev.yz1 (by simp), zb2, y3y (by omega)]
  refine (Ev.zz0 hs).2 ?_
  refine Ev.z7h.2 ?_
  refine Ev.zz1.2 ?_
  rw [w8 (k := (k : Int)) (by omega), w8 (by omega)]
  rw [hk] at he
  show Res.ok (_, zjv (11 + (k : Int)) e.args) = _
  rw [← he]
  rfl
theorem ypz : ∀ e : kz0, z2p e = true → z45 e ≤ 5000 → ∀ d : Nat, zd2 e ≤ d → d ≤ 12 → RB d e := zt6 fun e ih hf hp d hd h12 t ht hl => by
 have hpe := z9i e
 have hde := zxf e
 obtain ⟨d, rfl⟩ : ∃ k, d = k + 1 := ⟨d - 1, by omega⟩
 have hR : ∀ y, y ∈ e.args → RB d y := fun y hy => ih y hy (z7r hf y hy) (by have := ym8 hy; omega) d (by have := ypw hy; omega) (by omega)
 rw [za9, Ev.yz1 (by rw [beq_eq_false_iff_ne]; omega)]
 show Ev (fun n => yz6 n ((d + 1 : Nat) : Int) ⟨z0i e ++ t⟩ E0) _
 by_cases h1 : e.op = 1
 ·exact yn2 hf h1 ht hl
 by_cases h2 : e.op = 2
 ·exact yoy hf h2 ht hl
 by_cases h3 : 3 ≤ e.op ∧ e.op ≤ 10
 ·exact ymv hf h3 (by omega) hR hl
 ·exact yqa hf hp h1 h2 h3 (by omega) hR hl
end Go.Proofs.YtfhpamcehnfhoaaGreatDoor


namespace Go.Proofs.YtfhpamcehnfhoaaGreatDoor
open Go Go.Ab
set_option linter.unusedVariables false
set_option linter.unusedSimpArgs false
theorem yt6 : Ev (fun n => z4e n) true := ⟨0, fun _ _ => rfl⟩
theorem alv : Ev (fun n => (z4e n).bind fun y => some y) true := by rw [Ev.zz0 yt6, Ev.zz1]
theorem yrn {e : kz0} (hs : e.size ≤ 8388608) : (Ev (fun n => z26 n e) true ∧ z97 e = 0) ∨ Ev (fun n => z26 n e) false := by
 obtain ⟨g, hg⟩ := y2h (e := e) hs
 cases g
 ·by_cases hc : z97 e = 0
  ·left; refine ⟨?_, hc⟩
   rw [zbx, kz0.kz2, Ev.zz0 hg, Ev.kz1 (by rfl), Ev.zz0 (zj1 hs), Ev.zz1, hc]; rfl
  ·right
   rw [zbx, kz0.kz2, Ev.zz0 hg, Ev.kz1 (by rfl), Ev.zz0 (zj1 hs), Ev.zz1]; simpa using hc
 ·right; rw [zbx, kz0.kz2, Ev.zz0 hg, Ev.yz1 (by rfl), Ev.zz1]
theorem y7c : ∀ e : kz0, e.size ≤ 8388608 → Ev (fun n => zba n e e) true := zt6 fun e ih hs => by
 have hsz := z5y e
 have hln := zao e.args
 have loop : ∀ k, k ≤ e.args.length → Ev (fun n => zz6 n (k : Int) e.args e.args (e.args.length : Int)) true :=
  down (by rw [z0w, Ev.yz1 (by simp), Ev.zz1]) fun k hk ihk => by
   have hm := List.getElem_mem hk
   rw [z0w, Ev.kz1 (by simpa using hk), Ev.yz2 (yzb hk), Ev.yz2 (yzb hk), kz0.kz2, Ev.zz0 (ih _ hm (by have := zcx hm; omega)), Ev.yz1 (by rfl), wrk (by omega)]
   exact ihk
 have hE : Ev (fun n => zz9 n e.args e.args) true := by
  rw [z7o, Ev.yz1 (by simp)]
  exact loop 0 (Nat.zero_le _)
 rw [yfp, Ev.kz1 (by simp), Ev.kz1 (by simp), yz0.kz2, Ev.zz0 (y52 _ _ (by omega)), Ev.kz1 (by simp), Ev.zz0 hE, Ev.zz1]
theorem ymq (e : kz0) (hw : e.wf) (hs : e.size ≤ 8388608) : ∃ n, kzx n e = some true := by
 refine Ev.get (r := true) ?_
 rw [znq]
 simp only [kz0.kz2]
 rcases yrn hs with ⟨hv, hc⟩ | hv
 ·obtain ⟨hf, hp, hd⟩ := zir hc
  have ht := y0v hw hs
  unfold zrf at ht
  rw [if_neg (by simpa using hc)] at ht
  rw [Ev.zz0 hv, Ev.yz1 (by rfl)]
  by_cases hl : 4000 < (z0i e).length
  ·rw [if_pos hl] at ht
   rw [Ev.zz0 ht, Ev.kz1 (by rfl), Ev.kz1 (by rfl)]
   exact alv
  ·rw [if_neg hl] at ht
   have hr := ypz e hf (by omega) 12 hd (Nat.le_refl _) [] ysg (by rw [List.append_nil]; omega)
   rw [List.append_nil] at hr
   have hP := (ze6 (s := z0i e) (by omega) hr).2 [] e rfl hw hs
   rw [if_pos rfl] at hP
   unfold chk at hP
   rw [if_pos hc] at hP
   rw [Ev.zz0 ht, Ev.yz1 (by rfl)]
   refine (Ev.zz0 hP).2 ?_
   dsimp only
   rw [Ev.kz1 (by rfl), Ev.zz0 (y7c e hs), Ev.kz1 (by rfl)]
   exact alv
 ·rw [Ev.zz0 hv, Ev.kz1 (by rfl)]
  exact alv
theorem yqm (e : kz0) (hw : e.wf) (hs : e.size ≤ 1048576) : ∃ n, kzx n e = some true := ymq e hw (by omega)
end Go.Proofs.YtfhpamcehnfhoaaGreatDoor

