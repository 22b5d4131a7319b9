/-
  REPORTS: THE PROGRAM's PARSE.
-/
import Derived.Test.YtagebdhlgnlcnaaGreatDoorOwn2
namespace Go.Proofs.YtagebdhlgnlcnaaGreatDoor
open Go Go.Ab
set_option linter.unusedVariables false
set_option linter.unusedSimpArgs false
theorem cut10 {s : List UInt8} (hl : s.length ≤ 1000000) : Ev (fun n => go_strings_Cut n s [10]) (cutAt 10 s) := by
 have hi : Ev (fun n => go_internal_stringslite_Index n s [10]) (Lib.indexByte s 10) := ⟨0, fun _ _ => rfl⟩
 have h : Ev (fun n => go_internal_stringslite_Cut n s [10]) (cutAt 10 s) := by
  rw [ev_internal_stringslite_Cut, Ev.bind_iff hi, index_at]
  cases ha : s.any (· == 10)
  ·rw [Go.Ab.cut_no ha, Ev.pif_f (by rfl), Ev.some_iff]
  ·obtain ⟨c1, c2, c3⟩ := cut_idx ha
   rw [if_pos rfl, Ev.pif_t (by simp), Ev.opt_iff (sub_front (by omega))]
   simp only [List.length_cons, List.length_nil]
   rw [show (((0 + 1 : Nat) : Nat) : Int) = 1 by rfl, wrk (by omega), Ev.opt_iff (sub_nat (by omega) (Nat.le_refl _)), Ev.some_iff, c2]
   unfold cutAt
   rw [ha]
   simp [c3]
 rw [ev_strings_Cut, Ev.bind_iff h, Ev.some_iff]
theorem b32 (c : UInt8) : (((c.toNat : Nat) : Int) == 32) = (c == 32) := byteEq c 32
theorem last32 {s : List UInt8} (hl : s.length ≤ 1000000) : ∃ i, Ev (fun n => go_strings_LastIndexByte n s 32) i ∧ Last 32 s i := by
 have loop : ∀ k, k ≤ s.length → (32 ∉ s.drop k) → ∃ i, Ev (fun n => go_internal_bytealg_LastIndexByteString_L0 n ((k : Int) - 1) 32 s) i ∧ Last 32 s i := by
  intro k
  induction k with
  | zero =>
    intro _ h
    refine ⟨-1, ?_, .inl ⟨rfl, by simpa using h⟩⟩
    rw [ev_internal_bytealg_LastIndexByteString_L0, Ev.pif_f (by rfl), Ev.some_iff]
  | succ k ih =>
    intro hk h
    have hk' : k < s.length := by omega
    have e : ((k + 1 : Nat) : Int) - 1 = (k : Int) := by omega
    by_cases h32 : s[k] = 32
    · refine ⟨(k : Int), ?_, .inr ⟨k, rfl, hk', h32, h⟩⟩
      rw [e, ev_internal_bytealg_LastIndexByteString_L0, Ev.pif_t (by simp <;> omega), Ev.opt_iff (ix_lt hk'), Ev.pif_t (by rw [h32]; rfl), Ev.some_iff]
    · obtain ⟨i, i1, i2⟩ := ih (by omega) (by
        rw [drop_cons hk']
        intro hm
        rcases List.mem_cons.1 hm with hm | hm
        · exact h32 hm.symm
        · exact h hm)
      refine ⟨i, ?_, i2⟩
      rw [e, ev_internal_bytealg_LastIndexByteString_L0, Ev.pif_t (by simp <;> omega), Ev.opt_iff (ix_lt hk'), Ev.pif_f (by
        rw [b32, beq_eq_false_iff_ne]; exact h32), wI (by omega)]
      exact i1
 obtain ⟨i, h1, h2⟩ := loop s.length (Nat.le_refl _) (by simp)
 have h3 : Ev (fun n => go_internal_bytealg_LastIndexByteString n s 32) i := by rw [ev_internal_bytealg_LastIndexByteString, wI (by omega)]; exact h1
 exact ⟨i, by rw [ev_strings_LastIndexByte, Ev.bind_iff h3, Ev.some_iff], h2⟩
theorem number_ev {s : List UInt8} (h : s.length ≤ 1000000) : Ev (fun n => go_report_number n s) (numR s) := ⟨0, fun _ _ => by unfold go_report_number; rw [if_pos h]⟩
theorem vp {w : List UInt8} (hl : w.length ≤ 1000000) : ∃ (c : Int) (v : GValue), Ev (fun n => go_value_Parse n w) (c, v) ∧ (c ≠ 0 ∨ v.kind ≠ 3 ∨ ∃ nm, v = str3 nm ∧ w = 34 :: (esc nm ++ [34])) := by
 by_cases h34 : w.head? = some 34
 ·cases w with
  | nil => cases h34
  | cons c u =>
    have hc : c = 34 := Option.some.inj h34
    subst hc
    by_cases hu : u.length + 1 ≤ 4000
    · have h := value_Parse_str hu
      cases hs : scan u with
      | none => rw [hs] at h; exact ⟨12, v0, h, .inl (by decide)⟩
      | some p =>
        obtain ⟨x, m⟩ := p
        rw [hs] at h
        dsimp only at h
        by_cases hm : m = u.length ∧ vcheck (str3 x) = 0
        · rw [if_pos hm] at h
          have := scan_sound u x m hs
          rw [hm.1, List.take_length] at this
          exact ⟨0, str3 x, h, .inr (.inr ⟨x, rfl, by rw [this]⟩)⟩
        · rw [if_neg hm] at h; exact ⟨12, v0, h, .inl (by decide)⟩
    · refine ⟨12, v0, ?_, .inl (by decide)⟩
      rw [ev_value_Parse, Ev.pif_t (by simp; omega), Ev.some_iff]; rfl
 ·obtain ⟨c, v, h1, h2⟩ := value_Parse_other h34 hl
  exact ⟨c, v, h1, h2.imp id .inl⟩
theorem esc_ge : ∀ s : List UInt8, s.length ≤ (esc s).length
 | [] => Nat.le_refl _
 | c :: s => by have := esc_ge s; rw [esc]; split <;> simp <;> omega
theorem L2_bad {rest : List UInt8} {a b : Int} {v : GValue} {out : List GTally} : Ev (fun n => go_report_Parse_L2 n rest a b true v out) ([], 12) := by rw [ev_report_Parse_L2, Ev.pif_t (by rfl), Ev.some_iff]
theorem line_good {x : GTally} (hx : tgood x) {line rest : List UInt8} {out : List GTally} (he : line = tl x.name x.count x.volume) {i : Int} (hi : Last 32 line i) (ho : out.length ≤ 100000) {r} (h : Ev (fun n => go_report_Parse_L0 n rest (out ++ [x])) r) : Ev (fun n => go_report_Parse_L1 n rest i line (decide (i < 0)) out) r := by
 have hlen := tl_len hx
 have hnl := (good_name hx).1
 have hel := esc_len x.name
 obtain ⟨g1, g2, g3, g4, g5⟩ := hx
 have n32 : (32 : UInt8) ∉ Lib.itoa x.count := dig_no (by decide) (itoa_dig (by omega))
 have m32 : (32 : UInt8) ∉ Lib.itoa x.volume := dig_no (by decide) (itoa_dig (by omega))
 generalize hq : 34 :: (esc x.name ++ [34]) = q at *
 have hql : q.length ≤ 122 := by rw [← hq]; simp; omega
 have e1 : line = (q ++ 32 :: Lib.itoa x.count) ++ 32 :: Lib.itoa x.volume := by rw [he]; unfold tl; rw [hq]; simp
 rw [e1] at hi
 have hI := last_at m32 hi
 subst hI
 rw [← he] at hlen
 have hll : line.length = (q ++ 32 :: Lib.itoa x.count).length + 1 + (Lib.itoa x.volume).length := by rw [e1]; simp; omega
 have t1 : line.take (q ++ 32 :: Lib.itoa x.count).length = q ++ 32 :: Lib.itoa x.count := by rw [e1, List.take_left]
 have d1 : line.drop ((q ++ 32 :: Lib.itoa x.count).length + 1) = Lib.itoa x.volume := by
  rw [e1, ← List.drop_drop, List.drop_left]; rfl
 generalize hI : (q ++ 32 :: Lib.itoa x.count).length = I at *
 have hIq : I = q.length + 1 + (Lib.itoa x.count).length := by rw [← hI]; simp; omega
 obtain ⟨j, j1, j2⟩ := last32 (s := q ++ 32 :: Lib.itoa x.count) (by omega)
 have hj := last_at n32 j2
 subst hj
 have t2 : line.take q.length = q := by
  have : line = q ++ (32 :: Lib.itoa x.count ++ 32 :: Lib.itoa x.volume) := by rw [e1]; simp
  rw [this, List.take_left]
 have hvp : Ev (fun n => go_value_Parse n q) (0, str3 x.name) := by
  have := value_Parse_str (u := esc x.name ++ [34]) (by simp; omega)
  rw [scan_esc] at this
  dsimp only at this
  rw [if_pos ⟨by simp, g1⟩, hq] at this
  exact this
 have t3 : (line.take I).drop (q.length + 1) = Lib.itoa x.count := by rw [t1, ← List.drop_drop, List.drop_left]; rfl
 have hc1 := numR_itoa (v := x.count) (by omega) (by omega)
 have hc2 := numR_itoa (v := x.volume) (by omega) (by omega)
 have k1 := number_ev (s := Lib.itoa x.count) (by omega)
 have k2 := number_ev (s := Lib.itoa x.volume) (by omega)
 rw [hc1] at k1
 rw [hc2] at k2
 rw [ev_report_Parse_L1, Ev.pif_f (by simp <;> omega), Ev.opt_iff (sub_front (by omega)), t1, Ev.bind_iff j1, Ev.pif_f (by simp <;> omega), Ev.opt_iff (sub_front (by omega)), t2, Ev.bind_iff hvp, wrk (by omega), Ev.opt_iff (sub_nat (by omega) (by omega)), t3, Ev.bind_iff k1, wrk (by omega), Ev.opt_iff (sub_nat (by omega) (Nat.le_refl _)), List.take_length, d1, Ev.bind_iff k2]
 dsimp only
 rw [Ev.pif_f (by rfl), Ev.pif_f (by rfl), Ev.pif_f (by rfl), Ev.pif_f (by rfl), show decide (x.count > 1000000000) = false by simp; omega, ev_report_Parse_L2, Ev.pif_f (by rfl), Ev.opt_iff (ext_okw (by simp; omega))]
 simp only [GValue.re_eq]
 exact h
theorem line_any {line rest : List UInt8} {out : List GTally} (hl : line.length ≤ 20000) {i : Int} (hi : Last 32 line i) (ho : out.length ≤ 100000) :
  Ev (fun n => go_report_Parse_L1 n rest i line (decide (i < 0)) out) ([], 12) ∨ ∃ x : GTally, line = tl x.name x.count x.volume ∧ ∀ r, Ev (fun n => go_report_Parse_L0 n rest (out ++ [x])) r → Ev (fun n => go_report_Parse_L1 n rest i line (decide (i < 0)) out) r := by
 rcases hi with ⟨hi, _⟩ | ⟨k, hi, hk, h32, _⟩
 ·left
  subst hi
  rw [ev_report_Parse_L1, Ev.pif_t (by rfl), Ev.some_iff]
 subst hi
 have s1 := last_split hk h32
 have hta : (line.take k).length = k := by simp; omega
 obtain ⟨j, j1, j2⟩ := last32 (s := line.take k) (by omega)
 rcases j2 with ⟨hj, _⟩ | ⟨j', hj, hjk, hj32, _⟩
 ·left
  subst hj
  rw [ev_report_Parse_L1, Ev.pif_f (by simp <;> omega), Ev.opt_iff (sub_front (by omega)), Ev.bind_iff j1, Ev.pif_t (by rfl), Ev.some_iff]
 subst hj
 have s2 := last_split hjk hj32
 rw [hta] at hjk
 have tt : (line.take k).take j' = line.take j' := by rw [List.take_take, Nat.min_eq_left (by omega)]
 rw [tt] at s2
 obtain ⟨c, v, v1, v2⟩ := vp (w := line.take j') (by simp; omega)
 have k1 := number_ev (s := (line.take k).drop (j' + 1)) (by simp; omega)
 have k2 := number_ev (s := line.drop (k + 1)) (by simp; omega)
 obtain ⟨n1, b1, hn1⟩ : ∃ a b, numR ((line.take k).drop (j' + 1)) = (a, b) := ⟨_, _, rfl⟩
 obtain ⟨n2, b2, hn2⟩ : ∃ a b, numR (line.drop (k + 1)) = (a, b) := ⟨_, _, rfl⟩
 rw [hn1] at k1
 rw [hn2] at k2
 have st : ∀ r, Ev (fun n => pIf (c != 0)
     (go_report_Parse_L2 n rest n2 n1 true v out)
     (pIf (v.kind != 3)
      (go_report_Parse_L2 n rest n2 n1 true v out)
      (pIf (!b1)
       (go_report_Parse_L2 n rest n2 n1 true v out)
       (pIf (!b2)
        (go_report_Parse_L2 n rest n2 n1 true v out)
        (go_report_Parse_L2 n rest n2 n1 (decide (n1 > 1000000000)) v out))))) r → Ev (fun n => go_report_Parse_L1 n rest (k : Int) line (decide ((k : Int) < 0)) out) r := fun r h => by
  rw [ev_report_Parse_L1, Ev.pif_f (by simp <;> omega), Ev.opt_iff (sub_front (by omega)), Ev.bind_iff j1, Ev.pif_f (by simp <;> omega), Ev.opt_iff (sub_front (by omega)), Ev.bind_iff v1, wrk (by omega), Ev.opt_iff (sub_nat (by omega) (by omega)), Ev.bind_iff k1, wrk (by omega), Ev.opt_iff (sub_nat (by omega) (Nat.le_refl _)), List.take_length, Ev.bind_iff k2]
  dsimp only
  simp only [GValue.re_eq]
  exact h
 by_cases hc : c = 0
 case neg => exact .inl (st _ (by rw [Ev.pif_t (by simpa using hc)]; exact L2_bad))
 by_cases hk3 : v.kind = 3
 case neg => exact .inl (st _ (by rw [Ev.pif_f (by simpa using hc), Ev.pif_t (by simpa using hk3)]; exact L2_bad))
 obtain ⟨nm, rfl, hw⟩ : ∃ nm, v = str3 nm ∧ line.take j' = 34 :: (esc nm ++ [34]) := by
  rcases v2 with v2 | v2 | v2
  ·exact (v2 hc).elim
  ·exact (v2 hk3).elim
  ·exact v2
 cases b1
 case false => exact .inl (st _ (by rw [Ev.pif_f (by simpa using hc), Ev.pif_f (by rfl), Ev.pif_t (by rfl)]; exact L2_bad))
 cases b2
 case false => exact .inl (st _ (by rw [Ev.pif_f (by simpa using hc), Ev.pif_f (by rfl), Ev.pif_f (by rfl), Ev.pif_t (by rfl)]; exact L2_bad))
 by_cases hg : n1 > 1000000000
 ·exact .inl (st _ (by rw [Ev.pif_f (by simpa using hc), Ev.pif_f (by rfl), Ev.pif_f (by rfl), Ev.pif_f (by rfl), decide_eq_true hg]; exact L2_bad))
 refine .inr ⟨⟨nm, n1, n2⟩, ?_, fun r h => st r ?_⟩
 ·have q1 := numR_true hn1
  have q2 := numR_true hn2
  show line = tl nm n1 n2
  unfold tl
  rw [q1, q2, ← hw]
  have := s1
  rw [s2] at this
  simpa using this
 ·rw [Ev.pif_f (by simpa using hc), Ev.pif_f (by rfl), Ev.pif_f (by rfl), Ev.pif_f (by rfl), decide_eq_false hg, ev_report_Parse_L2, Ev.pif_f (by rfl), Ev.opt_iff (ext_okw (by simp; omega))]
  exact h
def fin (m : List GTally) : List GTally × Int := if tcheck m = 0 then (m, 0) else ([], 12)
theorem rfin {m : List GTally} (hl : m.length ≤ 4000000) (hn : ∀ x ∈ m, x.name.length ≤ 4000000) : Ev (fun n => go_report_Parse_L0 n [] m) (fin m) := by
 unfold fin
 rw [ev_report_Parse_L0, Ev.pif_f (by rfl), Ev.bind_iff (report_Check hl hn)]
 by_cases h : tcheck m = 0
 ·rw [if_pos h, Ev.pif_f (by simpa using h), Ev.some_iff]
 ·rw [if_neg h, Ev.pif_t (by simpa using h), Ev.some_iff]
theorem tl_no10 {x : GTally} (hx : tgood x) : (10 : UInt8) ∉ tl x.name x.count x.volume := by
 have hn : (10 : UInt8) ∉ x.name := fun hm => by
  have := List.all_eq_true.1 (good_name hx).2 _ hm
  revert this; decide
 have he := esc_no (b := 10) (by decide) x.name hn
 obtain ⟨g1, g2, g3, g4, g5⟩ := hx
 have n1 : (10 : UInt8) ∉ Lib.itoa x.count := dig_no (by decide) (itoa_dig (by omega))
 have n2 : (10 : UInt8) ∉ Lib.itoa x.volume := dig_no (by decide) (itoa_dig (by omega))
 unfold tl
 simp [he, n1, n2]
theorem parse_good : ∀ l : List GTally, (∀ x ∈ l, tgood x) → (ttext l).length ≤ 20000 → ∀ out : List GTally, out.length + l.length ≤ 100000 → (∀ x ∈ out, x.name.length ≤ 4000000) → Ev (fun n => go_report_Parse_L0 n (ttext l) out) (fin (out ++ l))
 | [], _, _, out, ho, hn => by
   rw [ttext, List.append_nil]
   exact rfin (by simp at ho; omega) hn
 | x :: l, hg, hl, out, ho, hn => by
   have hx := hg x List.mem_cons_self
   rw [ttext, List.length_append, List.length_cons] at hl
   rw [List.length_cons] at ho
   have hcut := cut_app (c := 10) (a := tl x.name x.count x.volume) (b := ttext l) (tl_no10 hx)
   obtain ⟨i, i1, i2⟩ := last32 (s := tl x.name x.count x.volume) (by omega)
   have ih := parse_good l (fun y hy => hg y (List.mem_cons_of_mem _ hy)) (by omega) (out ++ [x]) (by simp; omega) (fun y hy => by
     rcases List.mem_append.1 hy with hy | hy
     · exact hn y hy
     · rw [List.mem_singleton.1 hy]; have := (good_name hx).1; omega)
   have e : out ++ [x] ++ l = out ++ x :: l := by simp
   rw [e] at ih
   rw [ttext, ev_report_Parse_L0, Ev.pif_t (by
     cases hq : tl x.name x.count x.volume ++ 10 :: ttext l with
     | nil => simp at hq
     | cons a b => rfl), Ev.bind_iff (cut10 (by simp; omega)), hcut]
   dsimp only
   rw [Ev.bind_iff i1, Ev.pif_f (by rfl)]
   exact line_good hx rfl i2 (by omega) ih
theorem parse_any : ∀ (N : Nat) (s : List UInt8), s.length ≤ N → s.length ≤ 20000 → ∀ out : List GTally, out.length + s.length ≤ 100000 → (∀ x ∈ out, x.name.length ≤ 4000000) →
  Ev (fun n => go_report_Parse_L0 n s out) ([], 12) ∨ ∃ l, Ev (fun n => go_report_Parse_L0 n s out) (out ++ l, 0) ∧ tcheck (out ++ l) = 0 ∧ ttext l = s := by
 intro N
 induction N with
 | zero =>
   intro s hs _ out ho hn
   have : s = [] := List.eq_nil_of_length_eq_zero (by omega)
   subst this
   have h := rfin (m := out) (by simp at ho; omega) hn
   unfold fin at h
   by_cases hc : tcheck out = 0
   · rw [if_pos hc] at h
     exact .inr ⟨[], by rw [List.append_nil]; exact h, by rw [List.append_nil]; exact hc, rfl⟩
   · rw [if_neg hc] at h; exact .inl h
 | succ N ih =>
   intro s hs hl out ho hn
   cases hsc : s with
   | nil => subst hsc; exact ih [] (by simp) (by simp) out ho hn
   | cons a b =>
     rw [← hsc]
     have hne : (!(s == [])) = true := by rw [hsc]; rfl
     have hcut := cut10 (s := s) (by omega)
     cases hok : (cutAt 10 s).2.2
     · obtain ⟨i, i1, i2⟩ := last32 (s := (cutAt 10 s).1) (by have := (List.takeWhile_prefix (l := s) (· != 10)).length_le; show (s.takeWhile (· != 10)).length ≤ 1000000; omega)
       left
       rw [ev_report_Parse_L0, Ev.pif_t hne, Ev.bind_iff hcut, Ev.bind_iff i1, hok, Ev.pif_t (by rfl), ev_report_Parse_L1, Ev.pif_t (by rfl), Ev.some_iff]
     · have hs2 := cut_of hok
       generalize hline : (cutAt 10 s).1 = line at *
       generalize hrest : (cutAt 10 s).2.1 = rest at *
       have hlen : s.length = line.length + 1 + rest.length := by rw [hs2]; simp; omega
       obtain ⟨i, i1, i2⟩ := last32 (s := line) (by omega)
       have st : ∀ r, Ev (fun n => go_report_Parse_L1 n rest i line (decide (i < 0)) out) r → Ev (fun n => go_report_Parse_L0 n s out) r := fun r h => by
         rw [ev_report_Parse_L0, Ev.pif_t hne, Ev.bind_iff hcut, hline, Ev.bind_iff i1, hok, Ev.pif_f (by rfl), hrest]
         exact h
       rcases line_any (line := line) (rest := rest) (out := out) (by omega) i2 (by omega) with h | ⟨x, hx, h⟩
       · exact .inl (st _ h)
       · have hnm : x.name.length ≤ 4000000 := by
           have h1 := esc_ge x.name
           have h2 : line.length ≥ (esc x.name).length := by rw [hx]; unfold tl; simp; omega
           omega
         rcases ih rest (by omega) (by omega) (out ++ [x]) (by simp; omega) (fun y hy => by
           rcases List.mem_append.1 hy with hy | hy
           · exact hn y hy
           · rw [List.mem_singleton.1 hy]; exact hnm) with h' | ⟨l, h1, h2, h3⟩
         · exact .inl (st _ (h _ h'))
         · have e : out ++ [x] ++ l = out ++ x :: l := by simp
           rw [e] at h1 h2
           exact .inr ⟨x :: l, st _ (h _ h1), h2, by rw [ttext, h3, ← hx, ← hs2]⟩
theorem report_Parse (s : List UInt8) : (s.length ≤ 20000 ∧ ∃ l, tcheck l = 0 ∧ ttext l = s) ∧ (∀ l, tcheck l = 0 → ttext l = s → Ev (fun n => go_report_Parse n s) (l, 0)) ∨ ¬ (s.length ≤ 20000 ∧ ∃ l, tcheck l = 0 ∧ ttext l = s) ∧ Ev (fun n => go_report_Parse n s) ([], 12) := by
 by_cases hs : s.length ≤ 20000
 ·have st : ∀ r, Ev (fun n => go_report_Parse_L0 n s []) r → Ev (fun n => go_report_Parse n s) r := fun r h => by
   rw [ev_report_Parse, Ev.pif_f (by simp; omega)]; exact h
  by_cases hx : ∃ l, tcheck l = 0 ∧ ttext l = s
  ·refine .inl ⟨⟨hs, hx⟩, fun l h1 h2 => st _ ?_⟩
   obtain ⟨g1, g2⟩ := tcheck_good h1
   have := parse_good l g2 (by rw [h2]; exact hs) [] (by simp; omega) (fun x hx => by cases hx)
   rw [List.nil_append, h2] at this
   unfold fin at this
   rw [if_pos h1] at this
   exact this
  ·refine .inr ⟨fun h => hx h.2, st _ ?_⟩
   rcases parse_any s.length s (Nat.le_refl _) hs [] (by simp; omega) (fun x hx => by cases hx) with h | ⟨l, h1, h2, h3⟩
   ·exact h
   ·rw [List.nil_append] at h2
    exact (hx ⟨l, h2, h3⟩).elim
 ·refine .inr ⟨fun h => hs h.1, ?_⟩
  rw [ev_report_Parse, Ev.pif_t (by simp; omega), Ev.some_iff]
end Go.Proofs.YtagebdhlgnlcnaaGreatDoor


namespace Go.Proofs.YtagebdhlgnlcnaaGreatDoor
open Go Go.Ab
set_option linter.unusedVariables false
set_option linter.unusedSimpArgs false
theorem sl_app {s : List UInt8} {a b c : Nat} (h1 : a ≤ b) (h2 : b ≤ c) : (s.take c).drop a = (s.take b).drop a ++ (s.take c).drop b := by
 have h := (List.take_append_drop (b - a) ((s.take c).drop a)).symm
 rw [List.take_drop, List.take_take, List.drop_drop, show min (a + (b - a)) c = b by omega, show a + (b - a) = b by omega] at h
 exact h
theorem sl_one {s : List UInt8} {k : Nat} {c : UInt8} (h : ([c] : List UInt8).isPrefixOf (s.drop k) = true) : k + 1 ≤ s.length ∧ (s.take (k + 1)).drop k = [c] := by
 have hl := pre_len h
 rw [List.length_drop, List.length_singleton] at hl
 refine ⟨by omega, ?_⟩
 rw [pre_take, beq_iff_eq, List.length_singleton, List.take_drop] at h
 exact h
theorem pre_cons {c : UInt8} {t : List UInt8} : ([c] : List UInt8).isPrefixOf (c :: t) = true := by simp [List.isPrefixOf]
theorem at_app {s : List UInt8} {a : Nat} {p t : List UInt8} (h : s.drop a = p ++ t) : s.drop (a + p.length) = t := by
 rw [← List.drop_drop, h, List.drop_left]
theorem at_len {s : List UInt8} {a : Nat} {c : UInt8} {t : List UInt8} (h : s.drop a = c :: t) : a < s.length ∧ ∃ ha : a < s.length, s[a] = c := by
 have hl := congrArg List.length h
 rw [List.length_drop, List.length_cons] at hl
 have ha : a < s.length := by omega
 refine ⟨ha, ha, ?_⟩
 rw [drop_cons ha] at h
 exact (List.cons.inj h).1
theorem val_app (a : Nat) (s t : List UInt8) : val a (s ++ t) = val (val a s) t := by unfold val; rw [List.foldl_append]
theorem nstep45 {m : Nat} {c : UInt8} (hm : m ≤ 100000000000000000) (hc : isDig c = true) : IntKind.i64.wrap ((IntKind.i64.wrap (10 * (m : Int))) + (IntKind.i64.wrap (IntKind.u8.wrap ((c.toNat : Int) - 48)))) = ((10 * m + (c.toNat - 48) : Nat) : Int) := by
 rw [isDig_iff] at hc
 rw [w8 (by omega), wI (x := 10 * (m : Int)) (by omega), wI (x := (c.toNat : Int) - 48) (by omega), wI (by omega)]
 omega
theorem n45_stop {s : List UInt8} {a k m : Nat} {r} (hak : a ≤ k) (hk : k ≤ s.length) (ha : k ≤ a + 19) (hs : s.length ≤ 100000) (hno : k = s.length ∨ k = a + 19 ∨ 100000000000000000 < m ∨ ∃ h : k < s.length, isDig s[k] = false) (h : Ev (fun n => go_ref45_number_L1 n s (a : Int) (k : Int) (m : Int) false) r) : Ev (fun n => go_ref45_number_L0 n (k : Int) s (m : Int) (a : Int)) r := by
 rw [ev_ref45_number_L0]
 by_cases hlt : k < s.length
 case neg => rw [Ev.pif_f (by simp; omega)]; exact h
 rw [Ev.pif_t (by simpa using hlt), wI (by omega)]
 by_cases h19 : k < a + 19
 case neg => rw [Ev.pif_f (by simp; omega)]; exact h
 rw [Ev.pif_t (by simp; omega), Ev.opt_iff (ix_lt hlt)]
 by_cases h48 : 48 ≤ s[k].toNat
 case neg => rw [Ev.pif_f (by simp; omega)]; exact h
 rw [Ev.pif_t (by simp; omega), Ev.opt_iff (ix_lt hlt)]
 by_cases h57 : s[k].toNat ≤ 57
 case neg => rw [Ev.pif_f (by simp; omega)]; exact h
 rw [Ev.pif_t (by simp; omega)]
 have hd : isDig s[k] = true := isDig_iff.2 ⟨h48, h57⟩
 have hm : 100000000000000000 < m := by
  rcases hno with h | h | h | ⟨_, h⟩
  ·omega
  ·omega
  ·exact h
  ·rw [hd] at h; cases h
 rw [show decide ((m : Int) ≤ 100000000000000000) = false by simp; omega]
 exact h
theorem n45_go {s : List UInt8} {a k m : Nat} {r} (hak : a ≤ k) (hk : k < s.length) (ha : k < a + 19) (hs : s.length ≤ 100000) (hm : m ≤ 100000000000000000) (hd : isDig s[k] = true) (h : Ev (fun n => go_ref45_number_L0 n ((k + 1 : Nat) : Int) s ((10 * m + (s[k].toNat - 48) : Nat) : Int) (a : Int)) r) : Ev (fun n => go_ref45_number_L0 n (k : Int) s (m : Int) (a : Int)) r := by
 have hd' := isDig_iff.1 hd
 rw [ev_ref45_number_L0, Ev.pif_t (by simpa using hk), wI (by omega), Ev.pif_t (by simp; omega), Ev.opt_iff (ix_lt hk), Ev.pif_t (by simp; omega), Ev.opt_iff (ix_lt hk), Ev.pif_t (by simp; omega), show decide ((m : Int) ≤ 100000000000000000) = true by simp; omega, ev_ref45_number_L1, Ev.pif_t (by rfl), Ev.opt_iff (ix_lt hk), wrk (by omega), nstep45 hm hd]
 exact h
theorem n45_end {s : List UInt8} {a k m : Nat} (hk : k ≤ s.length) (hs : s.length ≤ 100000) : (k ≤ a ∧ Ev (fun n => go_ref45_number_L1 n s (a : Int) (k : Int) (m : Int) false) ((m : Int), (k : Int), false)) ∨ (a < k ∧ ∃ h : a < s.length, Ev (fun n => go_ref45_number_L1 n s (a : Int) (k : Int) (m : Int) false) ((m : Int), (k : Int), !(s[a] == 48) || decide (k = a + 1))) := by
 by_cases h : a < k
 ·right
  have ha : a < s.length := by omega
  refine ⟨h, ha, ?_⟩
  rw [ev_ref45_number_L1, Ev.pif_f (by rfl), Ev.pif_t (by simp; omega), Ev.opt_iff (ix_lt ha)]
  simp only [bne, b48]
  cases s[a] == 48
  ·rw [Ev.pif_t (by rfl), Ev.some_iff]; rfl
  ·rw [Ev.pif_f (by rfl), Ev.some_iff, wrk (by omega), show (((k : Nat) : Int) == ((a + 1 : Nat) : Int)) = decide (k = a + 1) by rw [Bool.eq_iff_iff, beq_iff_eq, decide_eq_true_eq]; omega]
   rfl
 ·left
  refine ⟨by omega, ?_⟩
  rw [ev_ref45_number_L1, Ev.pif_f (by rfl), Ev.pif_f (by simp; omega), Ev.some_iff]
theorem number_good {s : List UInt8} (hs : s.length ≤ 100000) {a : Nat} {v : Int} (h0 : 0 ≤ v) (h1 : v ≤ 1000000000000000000) {c : UInt8} (hc : isDig c = false) {t : List UInt8} (he : s.drop a = Lib.itoa v ++ c :: t) : Ev (fun n => go_ref45_number n s (a : Int)) (v, ((a + (Lib.itoa v).length : Nat) : Int), true) := by
 have e := itoa_pos h0
 have hv := dec_val v.natAbs
 have hall := dec_all v.natAbs
 have hne := dec_ne v.natAbs
 have hlen := Lib.decDigits_length v.natAbs
 have hnd := nd_le 18 v.natAbs (by omega)
 have hz : (Lib.decDigits v.natAbs).head? = some 48 → (Lib.decDigits v.natAbs).length = 1 := fun hq => by
  by_cases hp : 1 ≤ v.natAbs
  ·exact (dec_head _ hp hq).elim
  ·rw [show v.natAbs = 0 by omega, dec_small (by decide)]; rfl
 rw [e] at he ⊢
 generalize hD : Lib.decDigits v.natAbs = D at *
 have hsl : s.length = a + D.length + 1 + t.length ∨ s.length ≤ a := by
  have := congrArg List.length he
  rw [List.length_drop, List.length_append, List.length_cons] at this
  omega
 have hsl' : s.length = a + D.length + 1 + t.length := by
  rcases hsl with h | h
  ·exact h
  ·have := congrArg List.length he
   rw [List.length_drop, List.length_append, List.length_cons] at this
   omega
 have hget : ∀ i, (hi : i < D.length) → ∃ hh : a + i < s.length, s[a + i] = D[i] := fun i hi => by
  refine ⟨by omega, ?_⟩
  have h1 : (s.drop a)[i]? = some D[i] := by rw [he, List.getElem?_append_left hi, List.getElem?_eq_getElem hi]
  rw [List.getElem?_drop, List.getElem?_eq_getElem (by omega)] at h1
  exact Option.some.inj h1
 have hpos : 0 < D.length := List.length_pos_iff.2 hne
 have loop : ∀ i, i ≤ D.length → Ev (fun n => go_ref45_number_L0 n ((a + i : Nat) : Int) s ((val 0 (D.take i) : Nat) : Int) (a : Int)) (v, ((a + D.length : Nat) : Int), true) :=
  down (by
   rw [List.take_length, hv]
   refine n45_stop (by omega) (by omega) (by omega) hs (.inr (.inr (.inr ⟨by omega, ?_⟩))) ?_
   ·have h1 : s.drop (a + D.length) = c :: t := at_app he
    obtain ⟨_, _, h2⟩ := at_len h1
    rw [h2]; exact hc
   ·rcases n45_end (s := s) (a := a) (k := a + D.length) (m := v.natAbs) (by omega) hs with ⟨h, _⟩ | ⟨_, ha, h⟩
    ·omega
    ·refine h.to ?_
     obtain ⟨_, h2⟩ := hget 0 hpos
     have hb : (!(s[a] == 48) || decide (a + D.length = a + 1)) = true := by
      by_cases h48 : s[a] = 48
      ·have : D.head? = some 48 := by
        rw [List.head?_eq_getElem?, List.getElem?_eq_getElem hpos, ← h2]
        simpa using h48
       have := hz this
       rw [Bool.or_eq_true]; right
       simp; omega
      ·rw [Bool.or_eq_true]; left
       simpa using h48
     rw [hb, show ((v.natAbs : Nat) : Int) = v by omega]) fun i hi ih => by
   obtain ⟨hh, hg⟩ := hget i hi
   have hdig : isDig D[i] = true := List.all_eq_true.1 hall _ (List.getElem_mem hi)
   have htk : D.take (i + 1) = D.take i ++ [D[i]] := by rw [List.take_succ_eq_append_getElem hi]
   have hle : val 0 (D.take (i + 1)) ≤ v.natAbs := by
    have : D = D.take (i + 1) ++ D.drop (i + 1) := (List.take_append_drop _ _).symm
    have h2 : val 0 D = val (val 0 (D.take (i + 1))) (D.drop (i + 1)) := by rw [← val_app, ← this]
    have h3 := val_ge (D.drop (i + 1)) (val 0 (D.take (i + 1)))
    omega
   rw [htk, val_append] at ih hle
   refine n45_go (by omega) hh (by omega) hs (by omega) (by rw [hg]; exact hdig) ?_
   rw [show a + i + 1 = a + (i + 1) by omega, hg]
   exact ih
 rw [ev_ref45_number]
 exact loop 0 (Nat.zero_le _)
theorem number_any {s : List UInt8} (hs : s.length ≤ 100000) {a : Nat} (ha : a ≤ s.length) : ∃ (m j : Nat) (b : Bool), Ev (fun n => go_ref45_number n s (a : Int)) ((m : Int), (j : Int), b) ∧ a ≤ j ∧ j ≤ s.length ∧ (b = true → Lib.itoa (m : Int) = (s.take j).drop a) := by
 have fin : ∀ k m, k ≤ s.length → a ≤ k → ((s.take k).drop a).all isDig = true → m = val 0 ((s.take k).drop a) → ∃ (m' j : Nat) (b : Bool), Ev (fun n => go_ref45_number_L1 n s (a : Int) (k : Int) (m : Int) false) ((m' : Int), (j : Int), b) ∧ a ≤ j ∧ j ≤ s.length ∧ (b = true → Lib.itoa (m' : Int) = (s.take j).drop a) := fun k m hk hak hall hm => by
  rcases n45_end (s := s) (a := a) (k := k) (m := m) hk hs with ⟨h, h'⟩ | ⟨h, hal, h'⟩
  ·exact ⟨m, k, false, h', hak, hk, fun q => by cases q⟩
  ·refine ⟨m, k, _, h', hak, hk, fun q => ?_⟩
   have hl : ((s.take k).drop a).length = k - a := by simp; omega
   have hd : (s.take k).drop a = s[a] :: (s.take k).drop (a + 1) := by
    have h1 : a < (s.take k).length := by simp; omega
    rw [drop_cons h1, List.getElem_take]
   rw [itoa_pos (by omega), show ((m : Int)).natAbs = m by omega, hm]
   refine dec_of _ _ rfl (by rw [hd]; simp) hall ?_
   rw [Bool.or_eq_true] at q
   rcases q with q | q
   ·left
    rw [hd, List.head?_cons]
    simpa using q
   ·right
    rw [hl]
    have : k = a + 1 := by simpa using q
    omega
 have loop : ∀ k, k ≤ s.length → a ≤ k → k ≤ a + 19 → ∀ m, ((s.take k).drop a).all isDig = true → m = val 0 ((s.take k).drop a) → ∃ (m' j : Nat) (b : Bool), Ev (fun n => go_ref45_number_L0 n (k : Int) s (m : Int) (a : Int)) ((m' : Int), (j : Int), b) ∧ a ≤ j ∧ j ≤ s.length ∧ (b = true → Lib.itoa (m' : Int) = (s.take j).drop a) := by
  refine down (fun hak h19 m hall hm => ?_) fun k hk ih hak h19 m hall hm => ?_
  ·obtain ⟨m', j, b, h1, h2⟩ := fin s.length m (Nat.le_refl _) hak hall hm
   exact ⟨m', j, b, n45_stop hak (Nat.le_refl _) h19 hs (.inl rfl) h1, h2⟩
  ·by_cases hgo : k < a + 19 ∧ m ≤ 100000000000000000 ∧ isDig s[k] = true
   ·obtain ⟨g1, g2, g3⟩ := hgo
    have hsl : (s.take (k + 1)).drop a = (s.take k).drop a ++ [s[k]] := by
     rw [sl_app (b := k) hak (by omega)]
     congr 1
     have h1 : k < (s.take (k + 1)).length := by simp; omega
     rw [drop_cons h1, List.getElem_take, List.drop_of_length_le (by simp; omega)]
    obtain ⟨m', j, b, h1, h2⟩ := ih (by omega) (by omega) (10 * m + (s[k].toNat - 48)) (by rw [hsl, List.all_append, hall, List.all_cons, g3]; rfl) (by rw [hsl, val_append, hm])
    exact ⟨m', j, b, n45_go hak hk g1 hs g2 g3 h1, h2⟩
   ·obtain ⟨m', j, b, h1, h2⟩ := fin k m (by omega) hak hall hm
    refine ⟨m', j, b, n45_stop hak (by omega) h19 hs ?_ h1, h2⟩
    by_cases q1 : k < a + 19
    ·by_cases q2 : m ≤ 100000000000000000
     ·right; right; right
      refine ⟨hk, ?_⟩
      cases q3 : isDig s[k]
      ·rfl
      ·exact (hgo ⟨q1, q2, q3⟩).elim
     ·right; right; left; omega
    ·right; left; omega
 obtain ⟨m, j, b, h1, h2⟩ := loop a ha (Nat.le_refl _) (by omega) 0 (by simp) (by rw [List.drop_eq_nil_of_le (by simp; omega)]; rfl)
 exact ⟨m, j, b, by rw [ev_ref45_number]; exact h1, h2⟩
theorem read_good {s : List UInt8} (hs : s.length ≤ 100000) {a : Nat} {nm t : List UInt8} (he : s.drop a = 34 :: (esc nm ++ 34 :: t)) : Ev (fun n => go_ref03_Read n s (a : Int) 1) (((a + 1 + ((esc nm).length + 1) : Nat) : Int), true, str3 nm) := by
 obtain ⟨ha, _, h34⟩ := at_len he
 have h1 : s.drop (a + 1) = esc nm ++ 34 :: t := at_app (p := [34]) he
 obtain ⟨q1, _⟩ := ref03_quoted (s := s) hs ha
 have hq := q1 nm ((esc nm).length + 1) (by rw [h1]; exact scan_esc t nm)
 rw [ev_ref03_Read, Ev.pif_f (by rfl), show decide ((a : Int) ≥ (s.length : Int)) = false by simp; omega, ev_ref03_Read_L0, Ev.pif_f (by rfl), Ev.bind_iff (starts hs (by decide) (by omega)), he, Ev.pif_f (by rfl), Ev.bind_iff (starts hs (by decide) (by omega)), he, Ev.pif_f (by rfl), Ev.opt_iff (ix_lt ha), b34, Ev.pif_t (by simpa using h34), Ev.bind_iff hq, Ev.some_iff]
 dsimp only
 rw [GValue.re_eq]
theorem read_any {s : List UInt8} (hs : s.length ≤ 100000) {a : Nat} (ha : a < s.length) : ∃ (j : Int) (ok : Bool) (v : GValue), Ev (fun n => go_ref03_Read n s (a : Int) 1) (j, ok, v) ∧ (ok = true → v.kind = 3 → ∃ (nm : List UInt8) (k : Nat), v = str3 nm ∧ j = (k : Int) ∧ a < k ∧ k ≤ s.length ∧ (s.take k).drop a = 34 :: (esc nm ++ [34])) := by
 have hge : decide ((a : Int) ≥ (s.length : Int)) = false := by simp; omega
 cases hp1 : ([116, 114, 117, 101] : List UInt8).isPrefixOf (s.drop a)
 case true =>
  refine ⟨IntKind.i64.wrap ((a : Int) + 4), true, vtruth true, ?_, fun _ h => absurd h (by show (2 : Int) ≠ 3; decide)⟩
  rw [ev_ref03_Read, Ev.pif_f (by rfl), hge, ev_ref03_Read_L0, Ev.pif_f (by rfl), Ev.bind_iff (starts hs (by decide) (by omega)), hp1, Ev.pif_t (by rfl), Ev.bind_iff ref03_Is', Ev.some_iff, GValue.re_eq]
 cases hp2 : ([102, 97, 108, 115, 101] : List UInt8).isPrefixOf (s.drop a)
 case true =>
  refine ⟨IntKind.i64.wrap ((a : Int) + 5), true, vtruth false, ?_, fun _ h => absurd h (by show (2 : Int) ≠ 3; decide)⟩
  rw [ev_ref03_Read, Ev.pif_f (by rfl), hge, ev_ref03_Read_L0, Ev.pif_f (by rfl), Ev.bind_iff (starts hs (by decide) (by omega)), hp1, Ev.pif_f (by rfl), Ev.bind_iff (starts hs (by decide) (by omega)), hp2, Ev.pif_t (by rfl), Ev.bind_iff ref03_Is', Ev.some_iff, GValue.re_eq]
 by_cases h34 : s[a] = 34
 ·obtain ⟨q1, q2⟩ := ref03_quoted (s := s) hs ha
  have st : ∀ {j ok v}, Ev (fun n => go_ref03_quoted n s (a : Int)) (j, ok, v) → Ev (fun n => go_ref03_Read n s (a : Int) 1) (j, ok, v) := fun {j ok v} h => by
   rw [ev_ref03_Read, Ev.pif_f (by rfl), hge, ev_ref03_Read_L0, Ev.pif_f (by rfl), Ev.bind_iff (starts hs (by decide) (by omega)), hp1, Ev.pif_f (by rfl), Ev.bind_iff (starts hs (by decide) (by omega)), hp2, Ev.pif_f (by rfl), Ev.opt_iff (ix_lt ha), b34, Ev.pif_t (by simpa using h34), Ev.bind_iff h, Ev.some_iff]
   dsimp only
   rw [GValue.re_eq]
  cases hsc : scan (s.drop (a + 1)) with
  | none => exact ⟨0, false, v0, st (q2 hsc), fun h => by cases h⟩
  | some p =>
    obtain ⟨x, m⟩ := p
    obtain ⟨e1, e2, e3⟩ := scan_some _ x m hsc
    rw [List.length_drop] at e2
    refine ⟨((a + 1 + m : Nat) : Int), true, str3 x, st (q1 x m hsc), fun _ _ => ⟨x, a + 1 + m, rfl, rfl, by omega, by omega, ?_⟩⟩
    have h1 := scan_sound _ x m hsc
    rw [List.take_drop] at h1
    have h2 := (sl_one (s := s) (k := a) (c := 34) (by rw [drop_cons ha, h34]; exact pre_cons)).2
    rw [sl_app (b := a + 1) (by omega) (by omega), h2, h1]
    rfl
 by_cases h91 : s[a] = 91
 case neg =>
  refine ⟨((a + (nw (s.drop a)).length : Nat) : Int), decide ((rread (nw (s.drop a))).1 = 0), vnum (rread (nw (s.drop a))).2, ?_, fun _ h => absurd h (by show (1 : Int) ≠ 3; decide)⟩
  rw [ev_ref03_Read, Ev.pif_f (by rfl), hge, ev_ref03_Read_L0, Ev.pif_f (by rfl), Ev.bind_iff (starts hs (by decide) (by omega)), hp1, Ev.pif_f (by rfl), Ev.bind_iff (starts hs (by decide) (by omega)), hp2, Ev.pif_f (by rfl), Ev.opt_iff (ix_lt ha), b34, Ev.pif_f (by simpa using h34), Ev.opt_iff (ix_lt ha)]
  simp only [bne, b91]
  rw [Ev.pif_t (by simpa using h91), Ev.bind_iff (ref03_number hs ha), Ev.some_iff]
  dsimp only
  rw [GValue.re_eq]
 have st : ∀ {r}, Ev (fun n => (go_ref03_Starts n s ((a + 1 : Nat) : Int) [93]).bind fun y8 =>
       pIf y8
        (some ((IntKind.i64.wrap (((a + 1 : Nat) : Int) + 1)), true, (GValue.mk 4 (GRatio.mk 0 0) false [] [])))
        (go_ref03_Read_L1 n s 1 ((a + 1 : Nat) : Int) 0 0 0 false [] 4 0 0 false [] [] [])) r → Ev (fun n => go_ref03_Read n s (a : Int) 1) r := fun {r} h => by
  rw [ev_ref03_Read, Ev.pif_f (by rfl), hge, ev_ref03_Read_L0, Ev.pif_f (by rfl), Ev.bind_iff (starts hs (by decide) (by omega)), hp1, Ev.pif_f (by rfl), Ev.bind_iff (starts hs (by decide) (by omega)), hp2, Ev.pif_f (by rfl), Ev.opt_iff (ix_lt ha), b34, Ev.pif_f (by simpa using h34), Ev.opt_iff (ix_lt ha)]
  simp only [bne, b91]
  rw [Ev.pif_f (by simpa using h91), wrk (by omega)]
  exact h
 cases hp : ([93] : List UInt8).isPrefixOf (s.drop (a + 1))
 ·refine ⟨0, false, v0, st ?_, fun h => by cases h⟩
  have h0 : Ev (fun n => go_ref03_Read n s ((a + 1 : Nat) : Int) (IntKind.i64.wrap (1 - 1))) (0, false, v0) := by
   rw [show IntKind.i64.wrap (1 - 1) = 0 by decide, ev_ref03_Read, Ev.pif_t (by rfl), ev_ref03_Read_L0, Ev.pif_t (by rfl), Ev.some_iff]
   rfl
  rw [Ev.bind_iff (starts hs (by decide) (by omega)), hp, Ev.pif_f (by rfl), ev_ref03_Read_L1]
  refine (Ev.bind_iff h0).2 ?_
  rw [Ev.pif_t (by rfl), Ev.some_iff]
  rfl
 ·refine ⟨IntKind.i64.wrap (((a + 1 : Nat) : Int) + 1), true, ⟨4, ⟨0, 0⟩, false, [], []⟩, st ?_, fun _ h => absurd h (by show (4 : Int) ≠ 3; decide)⟩
  rw [Ev.bind_iff (starts hs (by decide) (by omega)), hp, Ev.pif_t (by rfl), Ev.some_iff]
theorem q1_bad {s : List UInt8} {j : Int} {v : GValue} {out : List GTally} : Ev (fun n => go_ref45_Parse_L1 n s j true v out) ([], 12) := by rw [ev_ref45_Parse_L1, Ev.pif_t (by rfl), Ev.some_iff]
theorem q2_bad {s : List UInt8} {m j : Int} {v : GValue} {out : List GTally} : Ev (fun n => go_ref45_Parse_L2 n s m j true v out) ([], 12) := by rw [ev_ref45_Parse_L2, Ev.pif_t (by rfl), Ev.some_iff]
theorem q3_bad {s : List UInt8} {i j m : Int} {v : GValue} {out : List GTally} : Ev (fun n => go_ref45_Parse_L3 n s i j m true v out) ([], 12) := by rw [ev_ref45_Parse_L3, Ev.pif_t (by rfl), Ev.some_iff]
theorem rline_good {x : GTally} (hx : tgood x) {s : List UInt8} (hs : s.length ≤ 20000) {a : Nat} {t : List UInt8} (he : s.drop a = tl x.name x.count x.volume ++ 10 :: t) {out : List GTally} (ho : out.length ≤ 100000) {r} (h : Ev (fun n => go_ref45_Parse_L0 n s ((a + (tl x.name x.count x.volume).length + 1 : Nat) : Int) (out ++ [x])) r) : Ev (fun n => go_ref45_Parse_L0 n s (a : Int) out) r := by
 obtain ⟨g1, g2, g3, g4, g5⟩ := hx
 have e0 : s.drop a = 34 :: (esc x.name ++ 34 :: (32 :: (Lib.itoa x.count ++ 32 :: (Lib.itoa x.volume ++ 10 :: t)))) := by rw [he]; unfold tl; simp
 obtain ⟨ha, _⟩ := at_len e0
 have hlen : s.length - a = (tl x.name x.count x.volume).length + 1 + t.length := by
  have := congrArg List.length he
  rw [List.length_drop, List.length_append, List.length_cons] at this
  omega
 have htl : (tl x.name x.count x.volume).length = (esc x.name).length + 2 + 1 + (Lib.itoa x.count).length + 1 + (Lib.itoa x.volume).length := by unfold tl; simp; omega
 have hr := read_good (nm := x.name) (by omega) e0
 have e1 : s.drop (a + 1 + ((esc x.name).length + 1)) = 32 :: (Lib.itoa x.count ++ 32 :: (Lib.itoa x.volume ++ 10 :: t)) := by
  have := at_app (p := 34 :: (esc x.name ++ [34])) (t := 32 :: (Lib.itoa x.count ++ 32 :: (Lib.itoa x.volume ++ 10 :: t))) (by rw [e0]; simp)
  rw [← this]
  congr 1
  simp; omega
 generalize hj : a + 1 + ((esc x.name).length + 1) = j at *
 have e2 : s.drop (j + 1) = Lib.itoa x.count ++ 32 :: (Lib.itoa x.volume ++ 10 :: t) := at_app (p := [32]) e1
 have hn1 := number_good (by omega) (v := x.count) (by omega) (by omega) (by decide) e2
 have e3 : s.drop (j + 1 + (Lib.itoa x.count).length) = 32 :: (Lib.itoa x.volume ++ 10 :: t) := at_app e2
 generalize hk : j + 1 + (Lib.itoa x.count).length = k at *
 have e4 : s.drop (k + 1) = Lib.itoa x.volume ++ 10 :: t := at_app (p := [32]) e3
 have hn2 := number_good (by omega) (v := x.volume) (by omega) (by omega) (by decide) e4
 have e5 : s.drop (k + 1 + (Lib.itoa x.volume).length) = 10 :: t := at_app e4
 generalize hi : k + 1 + (Lib.itoa x.volume).length = i at *
 have hil : i < s.length := (at_len e5).1
 rw [ev_ref45_Parse_L0, Ev.pif_t (by simpa using ha)]
 refine (Ev.bind_iff hr).2 ?_
 dsimp only
 rw [Ev.pif_f (by rfl), Ev.pif_f (by rfl), Ev.bind_iff (starts (by omega) (by decide) (by omega)), e1, pre_cons, ev_ref45_Parse_L1, Ev.pif_f (by rfl), wrk (by omega)]
 refine (Ev.bind_iff hn1).2 ?_
 dsimp only
 rw [Ev.pif_f (by rfl), Ev.pif_f (by simp; omega), Ev.bind_iff (starts (by omega) (by decide) (by omega)), e3, pre_cons, ev_ref45_Parse_L2, Ev.pif_f (by rfl), wrk (by omega)]
 refine (Ev.bind_iff hn2).2 ?_
 dsimp only
 rw [Ev.pif_f (by rfl), Ev.bind_iff (starts (by omega) (by decide) (by omega)), e5, pre_cons, ev_ref45_Parse_L3, Ev.pif_f (by rfl), Ev.opt_iff (ext_okw (by simp; omega)), wrk (by omega)]
 simp only [GValue.re_eq]
 rw [show i + 1 = a + (tl x.name x.count x.volume).length + 1 by omega]
 exact h
theorem rline_any {s : List UInt8} (hs : s.length ≤ 20000) {a : Nat} (ha : a < s.length) {out : List GTally} (ho : out.length ≤ 100000) :
  Ev (fun n => go_ref45_Parse_L0 n s (a : Int) out) ([], 12) ∨ ∃ (x : GTally) (j : Nat), a < j ∧ j ≤ s.length ∧ (s.take j).drop a = tl x.name x.count x.volume ++ [10] ∧ ∀ r, Ev (fun n => go_ref45_Parse_L0 n s (j : Int) (out ++ [x])) r → Ev (fun n => go_ref45_Parse_L0 n s (a : Int) out) r := by
 obtain ⟨j0, ok, v, hr, hv⟩ := read_any (s := s) (by omega) ha
 have st0 : ∀ r, Ev (fun n => pIf (!ok) (go_ref45_Parse_L1 n s j0 true v out) (pIf (v.kind != 3) (go_ref45_Parse_L1 n s j0 true v out) ((go_ref03_Starts n s j0 [32]).bind fun y1 => go_ref45_Parse_L1 n s j0 (!y1) v out))) r → Ev (fun n => go_ref45_Parse_L0 n s (a : Int) out) r := fun r h => by
  rw [ev_ref45_Parse_L0, Ev.pif_t (by simpa using ha)]
  refine (Ev.bind_iff hr).2 ?_
  simp only [GValue.re_eq]
  exact h
 cases ok
 case false => exact .inl (st0 _ (by rw [Ev.pif_t (by rfl)]; exact q1_bad))
 by_cases hk3 : v.kind = 3
 case neg => exact .inl (st0 _ (by rw [Ev.pif_f (by rfl), Ev.pif_t (by simpa using hk3)]; exact q1_bad))
 obtain ⟨nm, j, rfl, rfl, haj, hjl, hsl⟩ := hv rfl hk3
 cases hp1 : ([32] : List UInt8).isPrefixOf (s.drop j)
 case false =>
  refine .inl (st0 _ ?_)
  rw [Ev.pif_f (by rfl), Ev.pif_f (by rfl), Ev.bind_iff (starts (by omega) (by decide) hjl), hp1]
  exact q1_bad
 obtain ⟨p1, p2⟩ := sl_one hp1
 obtain ⟨m1, k, b1, n1, n2, n3, n4⟩ := number_any (s := s) (by omega) p1
 have st1 : ∀ r, Ev (fun n => pIf (!b1) (go_ref45_Parse_L2 n s (m1 : Int) (k : Int) true (str3 nm) out) (pIf (decide ((m1 : Int) > 1000000000)) (go_ref45_Parse_L2 n s (m1 : Int) (k : Int) true (str3 nm) out) ((go_ref03_Starts n s (k : Int) [32]).bind fun y4 => go_ref45_Parse_L2 n s (m1 : Int) (k : Int) (!y4) (str3 nm) out))) r → Ev (fun n => go_ref45_Parse_L0 n s (a : Int) out) r := fun r h => st0 r (by
  rw [Ev.pif_f (by rfl), Ev.pif_f (by rfl), Ev.bind_iff (starts (by omega) (by decide) hjl), hp1, ev_ref45_Parse_L1, Ev.pif_f (by rfl), wrk (by omega)]
  refine (Ev.bind_iff n1).2 ?_
  simp only [GValue.re_eq]
  exact h)
 cases b1
 case false => exact .inl (st1 _ (by rw [Ev.pif_t (by rfl)]; exact q2_bad))
 by_cases hg : (m1 : Int) > 1000000000
 ·exact .inl (st1 _ (by rw [Ev.pif_f (by rfl), Ev.pif_t (by simpa using hg)]; exact q2_bad))
 cases hp2 : ([32] : List UInt8).isPrefixOf (s.drop k)
 case false =>
  refine .inl (st1 _ ?_)
  rw [Ev.pif_f (by rfl), Ev.pif_f (by simpa using hg), Ev.bind_iff (starts (by omega) (by decide) n3), hp2]
  exact q2_bad
 obtain ⟨p3, p4⟩ := sl_one hp2
 obtain ⟨m2, i, b2, o1, o2, o3, o4⟩ := number_any (s := s) (by omega) p3
 have st2 : ∀ r, Ev (fun n => pIf (!b2) (go_ref45_Parse_L3 n s (i : Int) (m2 : Int) (m1 : Int) true (str3 nm) out) ((go_ref03_Starts n s (i : Int) [10]).bind fun y6 => go_ref45_Parse_L3 n s (i : Int) (m2 : Int) (m1 : Int) (!y6) (str3 nm) out)) r → Ev (fun n => go_ref45_Parse_L0 n s (a : Int) out) r := fun r h => st1 r (by
  rw [Ev.pif_f (by rfl), Ev.pif_f (by simpa using hg), Ev.bind_iff (starts (by omega) (by decide) n3), hp2, ev_ref45_Parse_L2, Ev.pif_f (by rfl), wrk (by omega)]
  refine (Ev.bind_iff o1).2 ?_
  simp only [GValue.re_eq]
  exact h)
 cases b2
 case false => exact .inl (st2 _ (by rw [Ev.pif_t (by rfl)]; exact q3_bad))
 cases hp3 : ([10] : List UInt8).isPrefixOf (s.drop i)
 case false =>
  refine .inl (st2 _ ?_)
  rw [Ev.pif_f (by rfl), Ev.bind_iff (starts (by omega) (by decide) o3), hp3]
  exact q3_bad
 obtain ⟨p5, p6⟩ := sl_one hp3
 refine .inr ⟨⟨nm, (m1 : Int), (m2 : Int)⟩, i + 1, by omega, p5, ?_, fun r h => st2 r ?_⟩
 ·rw [sl_app (b := i) (by omega) (by omega), p6, sl_app (b := k + 1) (by omega) (by omega), ← o4 rfl, sl_app (b := k) (by omega) (by omega), p4, sl_app (b := j + 1) (by omega) (by omega), ← n4 rfl, sl_app (b := j) (by omega) (by omega), p2, hsl]
  show _ = tl nm (m1 : Int) (m2 : Int) ++ [10]
  unfold tl
  simp
 ·rw [Ev.pif_f (by rfl), Ev.bind_iff (starts (by omega) (by decide) o3), hp3, ev_ref45_Parse_L3, Ev.pif_f (by rfl), Ev.opt_iff (ext_okw (by simp; omega)), wrk (by omega)]
  exact h
theorem rrfin {s : List UInt8} {m : List GTally} (hl : m.length ≤ 4000000) (hn : ∀ x ∈ m, x.name.length ≤ 4000000) : Ev (fun n => go_ref45_Parse_L0 n s (s.length : Int) m) (fin m) := by
 unfold fin
 rw [ev_ref45_Parse_L0, Ev.pif_f (by simp), Ev.bind_iff (ref45_Check hl hn)]
 by_cases h : tcheck m = 0
 ·rw [if_pos h, Ev.pif_f (by simpa using h), Ev.some_iff]
 ·rw [if_neg h, Ev.pif_t (by simpa using h), Ev.some_iff]
theorem rparse_good {s : List UInt8} (hs : s.length ≤ 20000) : ∀ l : List GTally, (∀ x ∈ l, tgood x) → ∀ a, a ≤ s.length → s.drop a = ttext l → ∀ out : List GTally, out.length + l.length ≤ 100000 → (∀ x ∈ out, x.name.length ≤ 4000000) → Ev (fun n => go_ref45_Parse_L0 n s (a : Int) out) (fin (out ++ l))
 | [], _, a, ha, he, out, ho, hn => by
   have : a = s.length := by
     have := congrArg List.length he
     rw [List.length_drop, ttext, List.length_nil] at this
     omega
   subst this
   rw [List.append_nil]
   exact rrfin (by simp at ho; omega) hn
 | x :: l, hg, a, ha, he, out, ho, hn => by
   have hx := hg x List.mem_cons_self
   rw [ttext] at he
   rw [List.length_cons] at ho
   have hlen := congrArg List.length he
   rw [List.length_drop, List.length_append, List.length_cons] at hlen
   have e : out ++ [x] ++ l = out ++ x :: l := by simp
   have he2 : s.drop (a + (tl x.name x.count x.volume).length + 1) = ttext l := by
     have := at_app (p := tl x.name x.count x.volume ++ [10]) (t := ttext l) (by rw [he]; simp)
     rw [← this]
     congr 1
     simp; omega
   have ih := rparse_good hs l (fun y hy => hg y (List.mem_cons_of_mem _ hy)) _ (by omega) he2 (out ++ [x]) (by simp; omega) (fun y hy => by
     rcases List.mem_append.1 hy with hy | hy
     · exact hn y hy
     · rw [List.mem_singleton.1 hy]; have := (good_name hx).1; omega)
   rw [e] at ih
   exact rline_good hx hs he (by omega) ih
theorem rparse_any {s : List UInt8} (hs : s.length ≤ 20000) : ∀ (N a : Nat), a ≤ s.length → s.length - a ≤ N → ∀ out : List GTally, out.length + (s.length - a) ≤ 100000 → (∀ x ∈ out, x.name.length ≤ 4000000) →
  Ev (fun n => go_ref45_Parse_L0 n s (a : Int) out) ([], 12) ∨ ∃ l, Ev (fun n => go_ref45_Parse_L0 n s (a : Int) out) (out ++ l, 0) ∧ tcheck (out ++ l) = 0 ∧ ttext l = s.drop a := by
 have base : ∀ out : List GTally, out.length ≤ 100000 → (∀ x ∈ out, x.name.length ≤ 4000000) → Ev (fun n => go_ref45_Parse_L0 n s (s.length : Int) out) ([], 12) ∨ ∃ l, Ev (fun n => go_ref45_Parse_L0 n s (s.length : Int) out) (out ++ l, 0) ∧ tcheck (out ++ l) = 0 ∧ ttext l = s.drop s.length := fun out ho hn => by
  have h := rrfin (s := s) (m := out) (by omega) hn
  unfold fin at h
  by_cases hc : tcheck out = 0
  ·rw [if_pos hc] at h
   exact .inr ⟨[], by rw [List.append_nil]; exact h, by rw [List.append_nil]; exact hc, by rw [List.drop_length]; rfl⟩
  ·rw [if_neg hc] at h; exact .inl h
 intro N
 induction N with
 | zero =>
   intro a ha hN out ho hn
   have : a = s.length := by omega
   subst this
   exact base out (by omega) hn
 | succ N ih =>
   intro a ha hN out ho hn
   by_cases hlt : a < s.length
   · rcases rline_any hs hlt (out := out) (by omega) with h | ⟨x, j, h1, h2, h3, h⟩
     · exact .inl h
     · have hnm : x.name.length ≤ 4000000 := by
         have q1 := esc_ge x.name
         have q2 := congrArg List.length h3
         have q3 : (tl x.name x.count x.volume).length ≥ (esc x.name).length := by unfold tl; simp; omega
         simp only [List.length_drop, List.length_take, List.length_append, List.length_singleton] at q2
         omega
       rcases ih j h2 (by omega) (out ++ [x]) (by simp; omega) (fun y hy => by
         rcases List.mem_append.1 hy with hy | hy
         · exact hn y hy
         · rw [List.mem_singleton.1 hy]; exact hnm) with h' | ⟨l, i1, i2, i3⟩
       · exact .inl (h _ h')
       · have e : out ++ [x] ++ l = out ++ x :: l := by simp
         rw [e] at i1 i2
         refine .inr ⟨x :: l, h _ i1, i2, ?_⟩
         have q := sl_app (s := s) (a := a) (b := j) (c := s.length) (by omega) h2
         rw [List.take_length, h3] at q
         rw [q, ttext, i3]
         simp
   · have : a = s.length := by omega
     subst this
     exact base out (by omega) hn
theorem ref45_Parse (s : List UInt8) : (s.length ≤ 20000 ∧ ∃ l, tcheck l = 0 ∧ ttext l = s) ∧ (∀ l, tcheck l = 0 → ttext l = s → Ev (fun n => go_ref45_Parse n s) (l, 0)) ∨ ¬ (s.length ≤ 20000 ∧ ∃ l, tcheck l = 0 ∧ ttext l = s) ∧ Ev (fun n => go_ref45_Parse n s) ([], 12) := by
 by_cases hs : s.length ≤ 20000
 ·have st : ∀ r, Ev (fun n => go_ref45_Parse_L0 n s ((0 : Nat) : Int) []) r → Ev (fun n => go_ref45_Parse n s) r := fun r h => by
   rw [ev_ref45_Parse, Ev.pif_f (by simp; omega)]; exact h
  by_cases hx : ∃ l, tcheck l = 0 ∧ ttext l = s
  ·refine .inl ⟨⟨hs, hx⟩, fun l h1 h2 => st _ ?_⟩
   obtain ⟨g1, g2⟩ := tcheck_good h1
   have := rparse_good hs l g2 0 (Nat.zero_le _) (by rw [List.drop_zero, h2]) [] (by simp; omega) (fun x hx => by cases hx)
   rw [List.nil_append] at this
   unfold fin at this
   rw [if_pos h1] at this
   exact this
  ·refine .inr ⟨fun h => hx h.2, st _ ?_⟩
   rcases rparse_any hs s.length 0 (Nat.zero_le _) (by omega) [] (by simp; omega) (fun x hx => by cases hx) with h | ⟨l, h1, h2, h3⟩
   ·exact h
   ·rw [List.nil_append] at h2
    rw [List.drop_zero] at h3
    exact (hx ⟨l, h2, h3⟩).elim
 ·refine .inr ⟨fun h => hs h.1, ?_⟩
  rw [ev_ref45_Parse, Ev.pif_t (by simp; omega), Ev.some_iff]
end Go.Proofs.YtagebdhlgnlcnaaGreatDoor


namespace Go.Proofs.YtagebdhlgnlcnaaGreatDoor
open Go Go.Ab
set_option linter.unusedVariables false
set_option linter.unusedSimpArgs false
theorem ref45_Great {l : List GTally} (hl : l.length ≤ 4000000) : ∃ b, Ev (fun n => go_ref45_Great n l) b := by
 have stop : ∀ k : Nat, ∃ b, Ev (fun n => go_ref45_Great_L1 n l (k : Int) false) b := fun k => ⟨_, by rw [ev_ref45_Great_L1, Ev.pif_f (by rfl), Ev.some_iff]⟩
 have loop : ∀ k, k ≤ l.length → ∃ b, Ev (fun n => go_ref45_Great_L0 n (k : Int) l) b :=
  down (by
   obtain ⟨b, hb⟩ := stop l.length
   exact ⟨b, by rw [ev_ref45_Great_L0, Ev.pif_f (by simp)]; exact hb⟩) fun k hk ih => by
   by_cases h : k < 220
   ·obtain ⟨b, hb⟩ := ih
    by_cases hn : 200 < l[k].name.length
    ·refine ⟨true, ?_⟩
     rw [ev_ref45_Great_L0, Ev.pif_t (by simpa using hk), show decide ((k : Int) < 220) = true by simp; omega, ev_ref45_Great_L1, Ev.pif_t (by rfl), Ev.opt_iff (ix_lt hk), Ev.pif_t (by simp; omega), Ev.some_iff]
    ·refine ⟨b, ?_⟩
     rw [ev_ref45_Great_L0, Ev.pif_t (by simpa using hk), show decide ((k : Int) < 220) = true by simp; omega, ev_ref45_Great_L1, Ev.pif_t (by rfl), Ev.opt_iff (ix_lt hk), Ev.pif_f (by simp; omega), wrk (by omega)]
     exact hb
   ·obtain ⟨b, hb⟩ := stop k
    refine ⟨b, ?_⟩
    rw [ev_ref45_Great_L0, Ev.pif_t (by simpa using hk), show decide ((k : Int) < 220) = false by simp; omega]
    exact hb
 obtain ⟨b, hb⟩ := loop 0 (Nat.zero_le _)
 exact ⟨b, by rw [ev_ref45_Great]; exact hb⟩
theorem ref45_Same_self {l : List GTally} (hl : l.length ≤ 4000000) : Ev (fun n => go_ref45_Same n l l) true := by
 have loop : ∀ k, k ≤ l.length → Ev (fun n => go_ref45_Same_L0 n (k : Int) l l) true :=
  down (by rw [ev_ref45_Same_L0, Ev.pif_f (by simp), Ev.some_iff]) fun k hk ih => by
   rw [ev_ref45_Same_L0, Ev.pif_t (by simpa using hk), Ev.opt_iff (ix_lt hk), Ev.opt_iff (ix_lt hk), Ev.pif_f (by simp), wrk (by omega)]
   exact ih
 rw [ev_ref45_Same, Ev.pif_f (by simp)]
 exact loop 0 (Nat.zero_le _)
theorem parse_both (s : List UInt8) : ∃ (m : List GTally) (c : Int), Ev (fun n => go_report_Parse n s) (m, c) ∧ Ev (fun n => go_ref45_Parse n s) (m, c) ∧ m.length ≤ 200 := by
 rcases report_Parse s with ⟨⟨hs, l, h1, h2⟩, hp⟩ | ⟨hn, hp⟩
 ·rcases ref45_Parse s with ⟨_, hr⟩ | ⟨hn, _⟩
  ·exact ⟨l, 0, hp l h1 h2, hr l h1 h2, (tcheck_good h1).1⟩
  ·exact (hn ⟨hs, l, h1, h2⟩).elim
 ·rcases ref45_Parse s with ⟨h, _⟩ | ⟨_, hr⟩
  ·exact (hn h).elim
  ·exact ⟨[], 12, hp, hr, Nat.zero_le _⟩
theorem sum_len : ∀ l : List GTally, l.length ≤ (l.map GTally.size).sum ∧ ∀ x ∈ l, x.name.length ≤ (l.map GTally.size).sum
 | [] => ⟨Nat.le_refl _, fun x hx => by cases hx⟩
 | y :: l => by
   obtain ⟨h1, h2⟩ := sum_len l
   have hy := GTally.size_eq y
   rw [List.map_cons, List.sum_cons, List.length_cons]
   refine ⟨by omega, fun x hx => ?_⟩
   rcases List.mem_cons.1 hx with rfl | hx
   · omega
   · have := h2 x hx; omega
theorem texts45_law (l : List GTally) (s : List UInt8) (hb : (l.map GTally.size).sum + s.length ≤ 1048576) : ∃ n, go_gambrellaw45_ReportTexts n l s = some true := by
 refine Ev.get (r := true) ?_
 obtain ⟨q1, q2⟩ := sum_len l
 have hl : l.length ≤ 4000000 := by omega
 have hn : ∀ x ∈ l, x.name.length ≤ 4000000 := fun x hx => by have := q2 x hx; omega
 have lt : Ev (fun n => go_gambrellaw45_ReportTexts_L0 n s l true) true := by rw [ev_gambrellaw45_ReportTexts_L0, Ev.pif_t (by rfl), Ev.some_iff]
 have lf : Ev (fun n => go_gambrellaw45_ReportTexts_L0 n s l false) true := by
  obtain ⟨m, c, h1, h2, h3⟩ := parse_both s
  rw [ev_gambrellaw45_ReportTexts_L0, Ev.pif_f (by rfl), Ev.bind_iff (report_Text hl hn), Ev.bind_iff (ref45_Text hl hn), Ev.bind_iff h1, Ev.bind_iff h2, Ev.pif_t (by simp), Ev.pif_t (by simp), Ev.bind_iff (ref45_Same_self (l := m) (by omega)), Ev.pif_t (by rfl), Ev.some_iff]
  simp
 obtain ⟨g, hg⟩ := ref45_Great hl
 rw [ev_gambrellaw45_ReportTexts, Ev.bind_iff hg]
 cases g
 ·rw [Ev.pif_f (by rfl)]
  cases decide ((s.length : Int) > 25000)
  ·exact lf
  ·exact lt
 ·rw [Ev.pif_t (by rfl)]; exact lt
end Go.Proofs.YtagebdhlgnlcnaaGreatDoor

