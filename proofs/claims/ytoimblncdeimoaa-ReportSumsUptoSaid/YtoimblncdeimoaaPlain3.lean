/-
  ReportSums: WHAT THE FUNCTIONS COME TO.
-/
import Derived.Test.YtoimblncdeimoaaPlain2
namespace Go.Ab
open Go
set_option linter.unusedVariables false
set_option linter.unusedSimpArgs false

theorem cap1 : IntKind.i64.wrap (1000000000 + 1) = 1000000001 := wrI (by decide) (by decide)
theorem cap2 : IntKind.i64.wrap (1000000000000000000 + 1) = 1000000000000000001 := wrI (by decide) (by decide)
theorem bigT_eq (x : GTally) : bigT x = (decide (1000000000 < x.count) || decide (1000000000000000000 < x.volume)) := rfl

theorem within_ev {l : List GTally} (hb : l.length ≤ 1048576) : Ev (fun n => go_ref45_within n l) (withinV l) := by
  refine .succ (fun n => by rw [go_ref45_within]) ?_
  refine .cond (fun h => .pure ?_) fun h => ?_
  · have := of_decide_eq_true h
    unfold withinV; rw [if_pos (by omega)]
  · have := of_decide_eq_false h
    unfold withinV; rw [if_neg (by omega)]
    have hl := down (len := l.length) (Q := fun k => Ev (fun n => go_ref45_within_L1 n l (k : Int)) (if (l.drop k).any bigT then 16 else 0)) (by
        refine .succ (fun n => by rw [go_ref45_within_L1]) ?_
        refine .f (by simp) ?_
        exact .pure (by simp)) (fun k hk ih => by
        rw [← List.getElem_cons_drop (h := hk)]
        have j : ∀ b, b = bigT l[k] → Ev (fun n => go_ref45_within_J1 n l (k : Int) b) (if (l[k] :: l.drop (k + 1)).any bigT then 16 else 0) := fun b hb => by
          refine .succ (fun n => by rw [go_ref45_within_J1]) ?_
          refine .cond (fun h => .pure ?_) fun h => ?_
          · rw [List.any_cons, ← hb, h]; rfl
          · rw [List.any_cons, ← hb, h, Bool.false_or, wrk (by omega)]; exact ih
        refine .succ (fun n => by rw [go_ref45_within_L1]) ?_
        refine .t (by simpa using hk) ?_
        refine .opt (ix_lt hk) ?_
        refine .cond (fun h => j _ ?_) fun h => j _ ?_
        · rw [bigT_eq, h]; rfl
        · rw [bigT_eq, h]; rfl) 0 (Nat.zero_le _)
    exact Ev.to hl (by rw [List.drop_zero])

/-! ### a line put in -/
theorem set_mid {α : Type} {l : List α} {k : Nat} {x : α} (hk : k < l.length) : l.set k x = l.take k ++ x :: l.drop (k + 1) := by
  rw [List.set_eq_take_append_cons_drop, if_pos hk]
theorem shift_ins {l : List GTally} {k : Nat} {z : GTally} (hk : k ≤ l.length) : ∃ w, shiftO (l ++ [z]) ((k + 1 : Nat) : Int) (k : Int) = some (l.take k ++ w :: l.drop k) := by
  have hlen : k < (l ++ [z]).length := by simp; omega
  refine ⟨(l ++ [z])[k], ?_⟩
  unfold shiftO
  rw [if_pos ⟨by omega, by simp; omega, by omega, by simp; omega⟩]
  congr 1
  have e1 : (l ++ [z]).take (k + 1) = l.take k ++ [(l ++ [z])[k]] := by
    rw [List.take_add_one, List.getElem?_eq_getElem hlen]
    rw [List.take_append_of_le_length hk]; rfl
  have e2 : min ((l ++ [z]).length - ((k : Int)).toNat) ((l ++ [z]).length - (((k + 1 : Nat) : Int)).toNat) = l.length - k := by
    simp; omega
  rw [e2, show (((k + 1 : Nat) : Int)).toNat = k + 1 by omega, show ((k : Int)).toNat = k by omega, e1, List.append_assoc]
  congr 1
  rw [List.drop_eq_nil_of_le (show (l ++ [z]).length ≤ k + 1 + (l.length - k) by simp; omega), List.append_nil]
  rw [List.drop_append_of_le_length hk, List.take_append_of_le_length (by simp), List.take_of_length_le (by simp)]
  rfl
theorem add_ev {l : List GTally} {x : GTally} (hb : l.length ≤ 100000) : Ev (fun n => go_ref45_add_at n l x) (addT l x) := by
  have ins : ∀ k, k ≤ l.length → Ev (fun n => go_ref45_add_at_J2 n l x (k : Int) false) (l.take k ++ x :: l.drop k) := fun k hk => by
    obtain ⟨w, hw⟩ := shift_ins (l := l) (k := k) (z := GTally.mk ([]) 0 0) hk
    refine .succ (fun n => by rw [go_ref45_add_at_J2]) ?_
    refine .f rfl ?_
    refine .opt (ext_ok (by simp; omega)) ?_
    refine .opt (y := l.take k ++ w :: l.drop k) (by rw [wrk (by omega)]; exact hw) ?_
    have hk2 : k < (l.take k ++ w :: l.drop k).length := by simp; omega
    refine .opt (ix_lt hk2) ?_
    refine .pure ?_
    congr 1
    rw [show ((k : Int)).toNat = k by omega, set_mid hk2]
    rw [List.take_append_of_le_length (by simp; omega), List.take_of_length_le (by simp; omega), List.drop_append]
    congr 2
    rw [List.drop_eq_nil_of_le (by simp; omega), List.nil_append, show k + 1 - (l.take k).length = 1 by simp; omega]
    rfl
  have hl := down (len := l.length) (Q := fun k => Ev (fun n => go_ref45_add_at_L1 n l x (k : Int)) (l.take k ++ addT (l.drop k) x)) (by
      refine .succ (fun n => by rw [go_ref45_add_at_L1]) ?_
      refine .f (by simp) ?_
      refine .succ (fun n => by rw [go_ref45_add_at_J1]) ?_
      refine .f rfl ?_
      refine .f (by simp) ?_
      exact Ev.to (ins l.length (Nat.le_refl _)) (by rw [List.drop_length]; rfl)) (fun k hk ih => by
      rw [← List.getElem_cons_drop (h := hk)]
      refine .succ (fun n => by rw [go_ref45_add_at_L1]) ?_
      refine .t (by simpa using hk) ?_
      refine .opt (ix_lt hk) ?_
      refine .succ (fun n => by rw [go_ref45_add_at_J1]) ?_
      refine .cond (fun h => ?_) fun h => ?_
      · rw [wrk (by omega)]
        refine Ev.to ih ?_
        rw [show addT (l[k] :: l.drop (k + 1)) x = l[k] :: addT (l.drop (k + 1)) x by rw [addT]; exact if_pos h]
        rw [List.take_add_one, List.getElem?_eq_getElem hk, List.append_assoc]; rfl
      · have hlt : ltT l[k] x = false := h
        refine .t (by simpa using hk) ?_
        refine .opt (ix_lt hk) ?_
        by_cases he : l[k].name = x.name
        · have he' : (l[k].name == x.name) = true := by simpa using he
          rw [he']
          rw [show addT (l[k] :: l.drop (k + 1)) x = upd l[k] x :: l.drop (k + 1) by rw [addT, if_neg (by rw [hlt]; decide), if_pos he']]
          refine .succ (fun n => by rw [go_ref45_add_at_J2]) ?_
          refine .t rfl ?_
          refine .opt (ix_lt hk) ?_
          refine .opt (y := GTally.mk l[k].name (mnI (IntKind.i64.wrap (l[k].count + x.count)) 1000000001) l[k].volume) (by
            rw [show ((k : Int)).toNat = k by omega, ix_lt (by simpa using hk)]
            simp) ?_
          refine .pure ?_
          congr 1
          rw [show ((k : Int)).toNat = k by omega, List.set_set, set_mid hk]
          rfl
        · have he' : (l[k].name == x.name) = false := by simpa using he
          rw [he']
          rw [show addT (l[k] :: l.drop (k + 1)) x = x :: l[k] :: l.drop (k + 1) by rw [addT, if_neg (by rw [hlt]; decide), if_neg (by rw [he']; decide)]]
          refine Ev.to (ins k (by omega)) ?_
          rw [← List.getElem_cons_drop (h := hk)]) 0 (Nat.zero_le _)
  refine .succ (fun n => by rw [go_ref45_add_at]) ?_
  exact Ev.to hl (by simp)

theorem put_ev (m : List (List UInt8 × GTally)) (x : GTally) : Ev (fun n => go_report_book_put_at n x m) (putT m x) := by
  refine .same (fun n => by rw [go_report_book_put_at]) ?_
  refine .bind (y := mnI (IntKind.i64.wrap (((mget m x.name).getD (GTally.mk ([]) 0 0)).count + x.count)) 1000000001) (.same (g := fun _ => some (mnI (IntKind.i64.wrap (((mget m x.name).getD (GTally.mk ([]) 0 0)).count + x.count)) 1000000001)) (fun n => by rw [go_report_sum_int, cap1]) (.pure rfl)) ?_
  refine .bind (y := mnI (IntKind.i64.wrap (((mget m x.name).getD (GTally.mk ([]) 0 0)).volume + x.volume)) 1000000000000000001) (.same (g := fun _ => some (mnI (IntKind.i64.wrap (((mget m x.name).getD (GTally.mk ([]) 0 0)).volume + x.volume)) 1000000000000000001)) (fun n => by rw [go_report_sum_int64, cap2]) (.pure rfl)) ?_
  exact .pure rfl

/-! ### merging -/
noncomputable def mergeV (a b : List GTally) : List GTally × Int :=
  if chk a ≠ 0 then ([], chk a) else if chk b ≠ 0 then ([], chk b) else linesV (b.foldl addT a)
theorem bne_of {x : Int} (h : x ≠ 0) : (!(x == 0)) = true := by simpa using h
theorem bne_not {x : Int} (h : x = 0) : (!(x == 0)) = false := by simpa using h

theorem ref_merge {a b : List GTally} (ha : (a.map GTally.size).sum ≤ 1048576) (hb : (b.map GTally.size).sum ≤ 1048576) : Ev (fun n => go_ref45_Merge n a b) (mergeV a b) := by
  refine .succ (fun n => by rw [go_ref45_Merge]) ?_
  refine .bind (ref_chk ha) ?_
  rcases chk_cases a with e | e
  · refine .f (bne_not e) ?_
    refine .bind (ref_chk hb) ?_
    rcases chk_cases b with e2 | e2
    · obtain ⟨l1, s1, t1⟩ := chk_zero e
      obtain ⟨l2, s2, t2⟩ := chk_zero e2
      refine .f (bne_not e2) ?_
      refine .opt (ext_ok (by simp; omega)) ?_
      have hl := down (len := b.length) (Q := fun k => ∀ l : List GTally, l.length + (b.length - k) ≤ 1000 → Ev (fun n => go_ref45_Merge_L1 n b l (k : Int)) (linesV ((b.drop k).foldl addT l))) (fun l hl => by
          refine .succ (fun n => by rw [go_ref45_Merge_L1]) ?_
          refine .f (by simp) ?_
          refine .bind (within_ev (by omega)) ?_
          rw [List.drop_length]
          show Ev _ (linesV l)
          rcases Int.decEq (withinV l) 0 with e | e
          · refine .t (bne_of e) ?_
            refine .bind (within_ev (by omega)) ?_
            refine .pure ?_
            unfold linesV; rw [if_neg (by simpa using e)]
          · refine .f (bne_not e) ?_
            refine .pure ?_
            unfold linesV; rw [if_pos (by simpa using e)]) (fun k hk ih l hl => by
          rw [← List.getElem_cons_drop (h := hk), List.foldl_cons]
          refine .succ (fun n => by rw [go_ref45_Merge_L1]) ?_
          refine .t (by simpa using hk) ?_
          refine .opt (ix_lt hk) ?_
          refine .bind (add_ev (by omega)) ?_
          rw [wrk (by omega)]
          exact ih _ (by have := add_len l b[k]; omega)) 0 (Nat.zero_le _) ([] ++ a) (by simp; omega)
      refine Ev.to hl ?_
      unfold mergeV
      rw [if_neg (by simpa using e), if_neg (by simpa using e2), List.drop_zero, List.nil_append]
    · refine .t (bne_of e2) ?_
      refine .bind (ref_chk hb) ?_
      refine .pure ?_
      unfold mergeV
      rw [if_neg (by simpa using e), if_pos e2]
  · refine .t (bne_of e) ?_
    refine .bind (ref_chk ha) ?_
    refine .pure ?_
    unfold mergeV
    rw [if_pos e]

theorem own_merge {a b : List GTally} (ha : (a.map GTally.size).sum ≤ 1048576) (hb : (b.map GTally.size).sum ≤ 1048576) : Ev (fun n => go_report_Merge_own n a b) (mergeV a b) := by
  have inner : ∀ (xs : List GTally) (i j : Int), IntKind.i64.wrap (i + 1) = j → (xs.map GTally.size).sum ≤ 1048576 → ∀ (r : List GTally × Int) (m : List (List UInt8 × GTally)), Ev (fun n => go_report_Merge_own_L1 n a b (xs.foldl putT m) j) r → Ev (fun n => go_report_Merge_own_L2 n a b i xs m 0) r := fun xs i j hij hs r m h => by
    have hlen := len_le_sum' (l := xs) (f := GTally.size) fun x _ => by rw [GTally.size_eq]; omega
    have hl := down (len := xs.length) (Q := fun k => ∀ m : List (List UInt8 × GTally), Ev (fun n => go_report_Merge_own_L1 n a b ((xs.drop k).foldl putT m) j) r → Ev (fun n => go_report_Merge_own_L2 n a b i xs m (k : Int)) r) (fun m h => by
        refine .succ (fun n => by rw [go_report_Merge_own_L2]) ?_
        refine .f (by simp) ?_
        rw [List.drop_length] at h
        rw [hij]; exact h) (fun k hk ih m h => by
        rw [← List.getElem_cons_drop (h := hk), List.foldl_cons] at h
        refine .succ (fun n => by rw [go_report_Merge_own_L2]) ?_
        refine .t (by simpa using hk) ?_
        refine .opt (ix_lt hk) ?_
        refine .bind (put_ev _ _) ?_
        rw [wrk (by omega)]
        exact ih _ h) 0 (Nat.zero_le _) m (by rw [List.drop_zero]; exact h)
    exact hl
  refine .succ (fun n => by rw [go_report_Merge_own]) ?_
  refine .succ (fun n => by rw [go_report_Merge_own_L1]) ?_
  refine .t (by decide) ?_
  refine .opt (y := a) rfl ?_
  refine .bind (own_chk ha) ?_
  rcases chk_cases a with e | e
  · refine .f (bne_not e) ?_
    refine inner a 0 1 (wrI (by decide) (by decide)) ha _ _ ?_
    refine .succ (fun n => by rw [go_report_Merge_own_L1]) ?_
    refine .t (by decide) ?_
    refine .opt (y := b) rfl ?_
    refine .bind (own_chk hb) ?_
    rcases chk_cases b with e2 | e2
    · obtain ⟨l1, s1, t1⟩ := chk_zero e
      obtain ⟨l2, s2, t2⟩ := chk_zero e2
      refine .f (bne_not e2) ?_
      refine inner b 1 2 (wrI (by decide) (by decide)) hb _ _ ?_
      refine .succ (fun n => by rw [go_report_Merge_own_L1]) ?_
      refine .f (by decide) ?_
      have hr : BkRel (b.foldl putT (a.foldl putT [])) (b.foldl addT a) := by
        have h1 := (rel_nil.puts t1).puts t2
        rwa [adds_strict (xs := a) (l := []) s1, List.nil_append] at h1
      refine .bind (y := linesV (b.foldl addT a)) (.same (g := fun _ => some (linesV (b.foldl addT a))) (fun n => by rw [go_report_book_lines_at, hr.lines]) (.pure rfl)) ?_
      refine .pure ?_
      unfold mergeV
      rw [if_neg (by simpa using e), if_neg (by simpa using e2)]
    · refine .t (bne_of e2) ?_
      refine .pure ?_
      unfold mergeV
      rw [if_neg (by simpa using e), if_pos e2]
  · refine .t (bne_of e) ?_
    refine .pure ?_
    unfold mergeV
    rw [if_pos e]

/-! ### totals -/
def addUp (l : List GTally) (c v : Int) : Int × Int := l.foldl (fun p x => (mnI (IntKind.i64.wrap (p.1 + x.count)) 1000000001, mnI (IntKind.i64.wrap (p.2 + x.volume)) 1000000000000000001)) (c, v)
def totV (p : Int × Int) : GTally × Int := if bigT (GTally.mk [] p.1 p.2) then (GTally.mk [] 0 0, 16) else (GTally.mk [] p.1 p.2, 0)
noncomputable def totalV (l : List GTally) : GTally × Int := if chk l ≠ 0 then (GTally.mk [] 0 0, chk l) else totV (addUp l 0 0)
theorem own_total {l : List GTally} (hb : (l.map GTally.size).sum ≤ 1048576) : Ev (fun n => go_report_Total n l) (totalV l) := by
  have hlen := len_le_sum' (l := l) (f := GTally.size) fun x _ => by rw [GTally.size_eq]; omega
  refine .succ (fun n => by rw [go_report_Total]) ?_
  refine .bind (own_chk hb) ?_
  unfold totalV
  rcases chk_cases l with e | e
  · refine .f (bne_not e) ?_
    rw [if_neg (by simpa using e)]
    have hl := down (len := l.length) (Q := fun k => ∀ c v : Int, Ev (fun n => go_report_Total_L1 n l c v (k : Int)) (totV (addUp (l.drop k) c v))) (fun c v => by
        rw [List.drop_length]
        show Ev _ (totV (c, v))
        have j : ∀ b, b = bigT (GTally.mk [] c v) → Ev (fun n => go_report_Total_J1 n c v b) (totV (c, v)) := fun b hb => by
          refine .succ (fun n => by rw [go_report_Total_J1]) ?_
          unfold totV
          refine .cond (fun h => .pure ?_) fun h => .pure ?_
          · rw [← hb, h]; rfl
          · rw [← hb, h]; rfl
        refine .succ (fun n => by rw [go_report_Total_L1]) ?_
        refine .f (by simp) ?_
        refine .cond (fun h => j _ ?_) fun h => j _ ?_
        · rw [bigT_eq]; simp only; rw [h]; rfl
        · rw [bigT_eq]; simp only; rw [h]; rfl) (fun k hk ih c v => by
        rw [← List.getElem_cons_drop (h := hk)]
        refine .succ (fun n => by rw [go_report_Total_L1]) ?_
        refine .t (by simpa using hk) ?_
        refine .opt (ix_lt hk) ?_
        refine .bind (y := mnI (IntKind.i64.wrap (c + l[k].count)) 1000000001) (.same (g := fun _ => some (mnI (IntKind.i64.wrap (c + l[k].count)) 1000000001)) (fun n => by rw [go_report_sum_int, cap1]) (.pure rfl)) ?_
        refine .bind (y := mnI (IntKind.i64.wrap (v + l[k].volume)) 1000000000000000001) (.same (g := fun _ => some (mnI (IntKind.i64.wrap (v + l[k].volume)) 1000000000000000001)) (fun n => by rw [go_report_sum_int64, cap2]) (.pure rfl)) ?_
        rw [wrk (by omega)]
        exact ih _ _) 0 (Nat.zero_le _) 0 0
    exact Ev.to hl (by rw [List.drop_zero])
  · refine .t (bne_of e) ?_
    rw [if_pos e]
    exact .pure rfl
theorem within_one (x : GTally) : withinV [x] = if bigT x then 16 else 0 := by
  unfold withinV
  rw [if_neg (by simp)]
  simp
theorem ref_total {l : List GTally} (hb : (l.map GTally.size).sum ≤ 1048576) : Ev (fun n => go_ref45_Total n l) (totalV l) := by
  have hlen := len_le_sum' (l := l) (f := GTally.size) fun x _ => by rw [GTally.size_eq]; omega
  refine .succ (fun n => by rw [go_ref45_Total]) ?_
  refine .bind (ref_chk hb) ?_
  unfold totalV
  rcases chk_cases l with e | e
  · refine .f (bne_not e) ?_
    rw [if_neg (by simpa using e)]
    have hl := down (len := l.length) (Q := fun k => ∀ c v : Int, Ev (fun n => go_ref45_Total_L1 n l c v (k : Int)) (totV (addUp (l.drop k) c v))) (fun c v => by
        rw [List.drop_length]
        show Ev _ (totV (c, v))
        refine .succ (fun n => by rw [go_ref45_Total_L1]) ?_
        refine .f (by simp) ?_
        refine .bind (within_ev (by simp)) ?_
        rw [within_one]
        unfold totV
        cases bigT (GTally.mk [] c v)
        · exact .f rfl (.pure rfl)
        · exact .t rfl (.pure rfl)) (fun k hk ih c v => by
        rw [← List.getElem_cons_drop (h := hk)]
        refine .succ (fun n => by rw [go_ref45_Total_L1]) ?_
        refine .t (by simpa using hk) ?_
        refine .opt (ix_lt hk) ?_
        rw [wrk (by omega)]
        exact ih _ _) 0 (Nat.zero_le _) 0 0
    exact Ev.to hl (by rw [List.drop_zero])
  · refine .t (bne_of e) ?_
    refine .bind (ref_chk hb) ?_
    rw [if_pos e]
    exact .pure rfl

/-! ### the same -/
theorem tally_same (x : GTally) : (!((x.name == x.name) && ((x.count == x.count) && (x.volume == x.volume)))) = false := by simp
theorem same_at_ev {l : List GTally} (hb : l.length ≤ 1048576) : Ev (fun n => go_ref45_Same_at n l l) true := by
  refine .succ (fun n => by rw [go_ref45_Same_at]) ?_
  refine .f (by simp) ?_
  exact down (len := l.length) (Q := fun k => Ev (fun n => go_ref45_Same_at_L1 n l l (k : Int)) true) (by
    refine .succ (fun n => by rw [go_ref45_Same_at_L1]) ?_
    exact .f (by simp) (.pure rfl)) (fun k hk ih => by
    refine .succ (fun n => by rw [go_ref45_Same_at_L1]) ?_
    refine .t (by simpa using hk) ?_
    refine .opt (ix_lt hk) ?_
    refine .opt (ix_lt hk) ?_
    refine .f (tally_same _) ?_
    rw [wrk (by omega)]; exact ih) 0 (Nat.zero_le _)
theorem same_at2_ev {l : List GTally} (hb : l.length ≤ 1048576) : Ev (fun n => go_ref45_Same_at_2 n l l) true := by
  refine .succ (fun n => by rw [go_ref45_Same_at_2]) ?_
  refine .f (by simp) ?_
  exact down (len := l.length) (Q := fun k => Ev (fun n => go_ref45_Same_at_2_L1 n l l (k : Int)) true) (by
    refine .succ (fun n => by rw [go_ref45_Same_at_2_L1]) ?_
    exact .f (by simp) (.pure rfl)) (fun k hk ih => by
    refine .succ (fun n => by rw [go_ref45_Same_at_2_L1]) ?_
    refine .t (by simpa using hk) ?_
    refine .opt (ix_lt hk) ?_
    refine .opt (ix_lt hk) ?_
    refine .f (tally_same _) ?_
    rw [wrk (by omega)]; exact ih) 0 (Nat.zero_le _)
theorem great_ev {l : List GTally} (hb : l.length ≤ 1048576) : ∃ b, Ev (fun n => go_ref45_Great n l) b := by
  have hl := down (len := l.length) (Q := fun k => ∃ b, Ev (fun n => go_ref45_Great_L1 n l (k : Int)) b) (by
    refine ⟨decide (220 < (l.length : Int)), .succ (fun n => by rw [go_ref45_Great_L1]) ?_⟩
    refine .f (by simp) ?_
    refine .succ (fun n => by rw [go_ref45_Great_J1]) ?_
    exact .f rfl (.pure rfl)) (fun k hk ih => by
    by_cases h : decide ((k : Int) < 220) = true
    · by_cases h2 : decide (200 < (l[k].name.length : Int)) = true
      · refine ⟨true, .succ (fun n => by rw [go_ref45_Great_L1]) ?_⟩
        refine .t (by simpa using hk) ?_
        refine .succ (fun n => by rw [go_ref45_Great_J1]) ?_
        refine .t h ?_
        refine .opt (ix_lt hk) ?_
        exact .t h2 (.pure rfl)
      · obtain ⟨b, ih⟩ := ih
        refine ⟨b, .succ (fun n => by rw [go_ref45_Great_L1]) ?_⟩
        refine .t (by simpa using hk) ?_
        refine .succ (fun n => by rw [go_ref45_Great_J1]) ?_
        refine .t h ?_
        refine .opt (ix_lt hk) ?_
        refine .f (by simpa using h2) ?_
        rw [wrk (by omega)]; exact ih
    · refine ⟨decide (220 < (l.length : Int)), .succ (fun n => by rw [go_ref45_Great_L1]) ?_⟩
      refine .t (by simpa using hk) ?_
      refine .succ (fun n => by rw [go_ref45_Great_J1]) ?_
      exact .f (by simpa using h) (.pure rfl)) 0 (Nat.zero_le _)
  obtain ⟨b, hl⟩ := hl
  exact ⟨b, .succ (fun n => by rw [go_ref45_Great]; rfl) hl⟩

theorem foldl_add_len (b : List GTally) : ∀ a : List GTally, (b.foldl addT a).length ≤ a.length + b.length := by
  induction b with
  | nil => intro a; simp
  | cons x b ih => intro a; rw [List.foldl_cons]; have := ih (addT a x); have := add_len a x; simp; omega
theorem merge_len {a b : List GTally} (h : a.length + b.length ≤ 1048576) : (mergeV a b).1.length ≤ 1048576 := by
  unfold mergeV linesV
  split
  · simp
  · split
    · simp
    · split
      · have := foldl_add_len b a; simp; omega
      · simp

theorem law_ev {a b : List GTally} (hb : (a.map GTally.size).sum + (b.map GTally.size).sum ≤ 1048576) : Ev (fun n => go_gambrellaw45_ReportSums n a b) true := by
  have la := len_le_sum' (l := a) (f := GTally.size) fun x _ => by rw [GTally.size_eq]; omega
  have lb := len_le_sum' (l := b) (f := GTally.size) fun x _ => by rw [GTally.size_eq]; omega
  have main : Ev (fun n => go_gambrellaw45_ReportSums_J1 n a b false) true := by
    refine .succ (fun n => by rw [go_gambrellaw45_ReportSums_J1]) ?_
    refine .f rfl ?_
    refine .opt (ext_ok (by simp; omega)) ?_
    refine .bind (own_merge (by omega) (by omega)) ?_
    refine .bind (ref_merge (by omega) (by omega)) ?_
    refine .bind (own_total (by omega)) ?_
    refine .bind (ref_total (by omega)) ?_
    refine .bind (own_chk (by omega)) ?_
    refine .bind (ref_chk (by omega)) ?_
    refine .f (by simp) ?_
    have hm := merge_len (a := a) (b := b) (by omega)
    refine .bind (same_at_ev hm) ?_
    refine .f rfl ?_
    refine .f (by simp) ?_
    refine .f (tally_same _) ?_
    rw [show (!((totalV a).2 == (totalV a).2)) = false by simp]
    refine .succ (fun n => by rw [go_gambrellaw45_ReportSums_J2]) ?_
    refine .f rfl ?_
    exact down (len := (mergeV a b).1.length) (Q := fun k => ∀ l : List GTally, l.length = (mergeV a b).1.length → Ev (fun n => go_gambrellaw45_ReportSums_L1 n a ([] ++ a) l (k : Int)) true) (fun l hl => by
      refine .succ (fun n => by rw [go_gambrellaw45_ReportSums_L1]) ?_
      refine .f (by simp [hl]) ?_
      rw [List.nil_append]
      refine .bind (same_at2_ev (by omega)) ?_
      exact .pure rfl) (fun k hk ih l hl => by
      refine .succ (fun n => by rw [go_gambrellaw45_ReportSums_L1]) ?_
      refine .t (by rw [hl]; simpa using hk) ?_
      refine .opt (ix_lt (show k < l.length by omega)) ?_
      rw [wrk (by omega)]
      exact ih _ (by simpa using hl)) 0 (Nat.zero_le _) _ rfl
  have skip : Ev (fun n => go_gambrellaw45_ReportSums_J1 n a b true) true := by
    refine .succ (fun n => by rw [go_gambrellaw45_ReportSums_J1]) ?_
    exact .t rfl (.pure rfl)
  obtain ⟨b1, h1⟩ := great_ev (l := a) (by omega)
  obtain ⟨b2, h2⟩ := great_ev (l := b) (by omega)
  refine .succ (fun n => by rw [go_gambrellaw45_ReportSums]) ?_
  refine .bind h1 ?_
  refine .cond (fun _ => skip) fun _ => ?_
  refine .bind h2 ?_
  cases b2
  · exact main
  · exact skip
theorem sums_plain (x0 x1 : List GTally) (hb : (x0.map GTally.size).sum + (x1.map GTally.size).sum ≤ 1048576) : ∃ n, go_gambrellaw45_ReportSums n x0 x1 = some true := (law_ev hb).get
end Go.Ab
