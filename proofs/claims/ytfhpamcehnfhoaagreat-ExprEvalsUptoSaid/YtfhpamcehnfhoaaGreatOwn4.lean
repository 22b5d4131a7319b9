/-
  EXPRESSIONS: NAMES. THE LAW.
-/
import Derived.Test.YtfhpamcehnfhoaaGreatOwn3
import Derived.Test.YtfhpamcehnfhoaaGreatLib7
namespace Go.Proofs.YtfhpamcehnfhoaaGreat
open Go Go.Ab
set_option linter.unusedVariables false
set_option linter.unusedSimpArgs false
mutual
def enames : GExpr → List (List UInt8) → List (List UInt8)
  | ⟨op, _, nm, l⟩, acc => enamesL l (if op = 2 ∧ nm ∉ acc then acc ++ [nm] else acc)
def enamesL : List GExpr → List (List UInt8) → List (List UInt8)
  | [], acc => acc
  | x :: l, acc => enamesL l (enames x acc)
end
theorem enames_eq (e : GExpr) (acc : List (List UInt8)) : enames e acc = enamesL e.args (if e.op = 2 ∧ e.name ∉ acc then acc ++ [e.name] else acc) := by cases e; rw [enames]
mutual
def eused : GExpr → List (List UInt8) → List (List UInt8)
  | ⟨op, _, nm, l⟩, acc => eusedL l (if op = 2 then ins acc nm else acc)
def eusedL : List GExpr → List (List UInt8) → List (List UInt8)
  | [], acc => acc
  | x :: l, acc => eusedL l (eused x acc)
end
theorem eused_eq (e : GExpr) (acc : List (List UInt8)) : eused e acc = eusedL e.args (if e.op = 2 then ins acc e.name else acc) := by cases e; rw [eused]
theorem enames_both : ∀ (e : GExpr) (a b : List (List UInt8)), a.Nodup → Strict b → (∀ x, x ∈ a ↔ x ∈ b) → (enames e a).Nodup ∧ Strict (eused e b) ∧ (∀ x, x ∈ enames e a ↔ x ∈ eused e b) ∧ (enames e a).length ≤ a.length + eparts e ∧ (eused e b).length ≤ b.length + eparts e := eind fun e ih a b ha hb hab => by
  have hL : ∀ (l : List GExpr), (∀ x ∈ l, x ∈ e.args) → ∀ a b : List (List UInt8), a.Nodup → Strict b → (∀ x, x ∈ a ↔ x ∈ b) → (enamesL l a).Nodup ∧ Strict (eusedL l b) ∧ (∀ x, x ∈ enamesL l a ↔ x ∈ eusedL l b) ∧ (enamesL l a).length ≤ a.length + epartsL l ∧ (eusedL l b).length ≤ b.length + epartsL l := fun l => by
    induction l with
    | nil => intro _ a b ha hb hab; simp only [enamesL, eusedL, epartsL]; exact ⟨ha, hb, hab, Nat.le_refl _, Nat.le_refl _⟩
    | cons x l ihl =>
      intro hm a b ha hb hab
      obtain ⟨h1, h2, h3, h4, h5⟩ := ih x (hm x List.mem_cons_self) a b ha hb hab
      obtain ⟨k1, k2, k3, k4, k5⟩ := ihl (fun y hy => hm y (List.mem_cons_of_mem _ hy)) _ _ h1 h2 h3
      simp only [enamesL, eusedL, epartsL]
      exact ⟨k1, k2, k3, by omega, by omega⟩
  rw [enames_eq, eused_eq, eparts_eq]
  by_cases h2 : e.op = 2
  · rw [if_pos h2]
    by_cases hn : e.name ∈ a
    · rw [if_neg (by simp [hn])]
      obtain ⟨k1, k2, k3, k4, k5⟩ := hL e.args (fun _ h => h) a (ins b e.name) ha (ins_strict hb) (fun x => by
        rw [mem_ins, ← hab]
        exact ⟨.inl, fun h => h.elim id fun h => by rw [h]; exact hn⟩)
      have := ins_len e.name b
      exact ⟨k1, k2, k3, by omega, by omega⟩
    · rw [if_pos ⟨h2, hn⟩]
      obtain ⟨k1, k2, k3, k4, k5⟩ := hL e.args (fun _ h => h) (a ++ [e.name]) (ins b e.name) (by
        rw [List.nodup_append]
        refine ⟨ha, by simp, fun x hx y hy => ?_⟩
        rw [List.mem_singleton.1 hy]; intro h; subst h; exact hn hx) (ins_strict hb) (fun x => by
        rw [mem_ins, ← hab, List.mem_append, List.mem_singleton])
      have := ins_len e.name b
      rw [List.length_append, List.length_singleton] at k4
      exact ⟨k1, k2, k3, by omega, by omega⟩
  · rw [if_neg h2, if_neg (fun h => h2 h.1)]
    obtain ⟨k1, k2, k3, k4, k5⟩ := hL e.args (fun _ h => h) a b ha hb hab
    exact ⟨k1, k2, k3, by omega, by omega⟩
theorem enames_sort (e : GExpr) : sortS (enames e []) = eused e [] := by
  obtain ⟨h1, h2, h3, _⟩ := enames_both e [] [] (by simp) (by simp [Strict]) (by simp)
  exact strict_unique (sortS_strict h1) h2 fun x => by rw [(sortS_perm _).mem_iff, h3]
theorem enames_len : ∀ (e : GExpr) (a : List (List UInt8)), (enames e a).length ≤ a.length + eparts e := eind fun e ih a => by
  have hL : ∀ (l : List GExpr), (∀ x ∈ l, x ∈ e.args) → ∀ a : List (List UInt8), (enamesL l a).length ≤ a.length + epartsL l := fun l => by
    induction l with
    | nil => intro _ a; simp [enamesL, epartsL]
    | cons x l ihl =>
      intro hm a
      have h1 := ih x (hm x List.mem_cons_self) a
      have h2 := ihl (fun y hy => hm y (List.mem_cons_of_mem _ hy)) (enames x a)
      simp only [enamesL, epartsL]; omega
  rw [enames_eq, eparts_eq]
  have := hL e.args (fun _ h => h) (if e.op = 2 ∧ e.name ∉ a then a ++ [e.name] else a)
  have h2 : (if e.op = 2 ∧ e.name ∉ a then a ++ [e.name] else a).length ≤ a.length + 1 := by split <;> simp
  omega
theorem eused_len : ∀ (e : GExpr) (a : List (List UInt8)), (eused e a).length ≤ a.length + eparts e := eind fun e ih a => by
  have hL : ∀ (l : List GExpr), (∀ x ∈ l, x ∈ e.args) → ∀ a : List (List UInt8), (eusedL l a).length ≤ a.length + epartsL l := fun l => by
    induction l with
    | nil => intro _ a; simp [eusedL, epartsL]
    | cons x l ihl =>
      intro hm a
      have h1 := ih x (hm x List.mem_cons_self) a
      have h2 := ihl (fun y hy => hm y (List.mem_cons_of_mem _ hy)) (eused x a)
      simp only [eusedL, epartsL]; omega
  rw [eused_eq, eparts_eq]
  have hi := ins_len e.name a
  have := hL e.args (fun _ h => h) (if e.op = 2 then ins a e.name else a)
  split at this
  · rename_i h; rw [if_pos h]; omega
  · rename_i h; rw [if_neg h]; omega
theorem index_str {l : List (List UInt8)} (hl : l.length ≤ 1048576) {s : List UInt8} : ∃ i : Int, Ev (fun n => go_slices_Index_string_string n s l) (i, l) ∧ decide (i ≥ 0) = decide (s ∈ l) := by
  have loop : ∀ k, k ≤ l.length → ∃ i : Int, Ev (fun n => go_slices_Index_string_string_L0 n (k : Int) s (l.length : Int) l) (i, l) ∧ decide (i ≥ 0) = decide (s ∈ l.drop k) :=
    down ⟨-1, by rw [ev_slices_Index_string_string_L0, Ev.pif_f (by simp), Ev.some_iff], by simp⟩ fun k hk ih => by
      obtain ⟨i, h1, h2⟩ := ih
      by_cases he : s = l[k]
      · refine ⟨k, ?_, ?_⟩
        · rw [ev_slices_Index_string_string_L0, Ev.pif_t (by simpa using hk), Ev.opt_iff (ix_lt hk), Ev.pif_t (by simpa using he), Ev.some_iff]
        · have : s ∈ l.drop k := by rw [← List.getElem_cons_drop (h := hk), he]; exact List.mem_cons_self
          simp [this]
      · refine ⟨i, ?_, ?_⟩
        · rw [ev_slices_Index_string_string_L0, Ev.pif_t (by simpa using hk), Ev.opt_iff (ix_lt hk), Ev.pif_f (by simpa using he), wrk (by omega)]; exact h1
        · rw [h2]
          have : (s ∈ l.drop k) ↔ (s ∈ l.drop (k + 1)) := by
            rw [← List.getElem_cons_drop (h := hk), List.mem_cons]
            exact ⟨fun h => h.elim (fun h => (he h).elim) id, .inr⟩
          exact decide_eq_decide.2 this.symm
  obtain ⟨i, h1, h2⟩ := loop 0 (Nat.zero_le _)
  exact ⟨i, by rw [ev_slices_Index_string_string]; exact h1, by simpa using h2⟩
theorem expr_names : ∀ (e : GExpr) (acc : List (List UInt8)), acc.length + eparts e ≤ 1048576 → Ev (fun n => go_expr_names n e acc) (enames e acc) := eind fun e ih acc hb => by
  rw [eparts_eq] at hb
  have loop : ∀ k, k ≤ e.args.length → ∀ acc : List (List UInt8), acc.length + epartsL (e.args.drop k) ≤ 1048576 → Ev (fun n => go_expr_names_L2 n (k : Int) e.args (e.args.length : Int) acc) (enamesL (e.args.drop k) acc) :=
    down (fun acc hb => by rw [ev_expr_names_L2, Ev.pif_f (by simp), Ev.some_iff]; simp [enamesL]) fun k hk ihk acc hb => by
      have hx := List.getElem_mem hk
      have hlen := epartsL_len e.args
      rw [← List.getElem_cons_drop (h := hk)] at hb ⊢
      simp only [enamesL, epartsL] at hb ⊢
      have := enames_len e.args[k] acc
      have hk2 : k ≤ 1048577 := by
        have := epartsL_len e.args; omega
      rw [ev_expr_names_L2, Ev.pif_t (by simpa using hk), Ev.opt_iff (ix_lt hk), GExpr.re_eq, Ev.bind_iff (ih _ hx _ (by omega)), wrk (by omega)]
      exact ihk _ (by omega)
  have l1 : ∀ acc : List (List UInt8), acc.length + epartsL e.args ≤ 1048576 → Ev (fun n => go_expr_names_L1 n acc e) (enamesL e.args acc) := fun acc hb => by
    rw [ev_expr_names_L1]; simpa using loop 0 (Nat.zero_le _) acc (by simpa using hb)
  rw [ev_expr_names, enames_eq]
  by_cases h2 : e.op = 2
  · obtain ⟨i, h3, h4⟩ := index_str (l := acc) (by omega) (s := e.name)
    have hc : Ev (fun n => go_slices_Contains_string_string n e.name acc) (decide (e.name ∈ acc), acc) := by
      rw [ev_slices_Contains_string_string, Ev.bind_iff h3, Ev.some_iff, h4]
    rw [Ev.pif_t (by simpa using h2), Ev.bind_iff hc, GExpr.re_eq, ev_expr_names_L0]
    by_cases hn : e.name ∈ acc
    · rw [Ev.pif_f (by simpa using hn), if_neg (by simp [hn]), GExpr.re_eq]
      exact l1 acc (by omega)
    · rw [Ev.pif_t (by simpa using hn), if_pos ⟨h2, hn⟩, Ev.opt_iff (ext_ok (by simp; omega)), GExpr.re_eq]
      exact l1 _ (by simp; omega)
  · rw [Ev.pif_f (by simpa using h2), if_neg (fun h => h2 h.1), GExpr.re_eq, ev_expr_names_L0, Ev.pif_f (by rfl), GExpr.re_eq]
    exact l1 _ (by omega)
theorem tw_all {α : Type} {p : α → Bool} : ∀ {l : List α}, (∀ x ∈ l, p x = true) → l.takeWhile p = l ∧ l.dropWhile p = []
  | [], _ => ⟨rfl, rfl⟩
  | x :: l, h => by
    have hx := h x List.mem_cons_self
    obtain ⟨h1, h2⟩ := tw_all (l := l) fun y hy => h y (List.mem_cons_of_mem _ hy)
    rw [List.takeWhile_cons_of_pos hx, List.dropWhile_cons_of_pos hx, h1, h2]; exact ⟨rfl, rfl⟩
theorem shift_ins {l : List (List UInt8)} {k : Nat} (hk : k ≤ l.length) (s : List UInt8) :
    shiftO (l ++ [[]]) ((k + 1 : Nat) : Int) (k : Int) = some (l.take k ++ [(l ++ [[]])[k]'(by simp; omega)] ++ l.drop k) ∧ ((l.take k ++ [(l ++ [[]])[k]'(by simp; omega)] ++ l.drop k).set k s = l.take k ++ s :: l.drop k) := by
  constructor
  · unfold shiftO
    rw [if_pos (by simp; omega)]
    congr 1
    have e1 : ((k + 1 : Nat) : Int).toNat = k + 1 := by simp
    have e2 : ((k : Nat) : Int).toNat = k := by simp
    rw [e1, e2]
    have e3 : min ((l ++ [[]]).length - k) ((l ++ [[]]).length - (k + 1)) = l.length - k := by simp; omega
    rw [e3, show k + 1 + (l.length - k) = l.length + 1 by omega]
    have e4 : (l ++ [[]]).drop (l.length + 1) = [] := List.drop_of_length_le (by simp)
    have e5 : ((l ++ [[]]).drop k).take (l.length - k) = l.drop k := by
      rw [List.drop_append_of_le_length hk, List.take_append_of_le_length (by simp), List.take_of_length_le (by simp)]
    have e6 : (l ++ [[]]).take (k + 1) = l.take k ++ [(l ++ [[]])[k]'(by simp; omega)] := by
      have hlt : k < (l ++ [[]]).length := by simp; omega
      rw [← take_succ_get hlt, List.take_append_of_le_length hk]
    rw [e4, e5, e6, List.append_nil]
  · have hl : (l.take k).length = k := by simp; omega
    rw [List.append_assoc, List.set_append, if_neg (by omega), hl, Nat.sub_self]; rfl
theorem ref04_used : ∀ (e : GExpr) (acc : List (List UInt8)), acc.length + eparts e ≤ 1048576 → Ev (fun n => go_ref04_used n e acc) (eused e acc) := eind fun e ih acc hb => by
  rw [eparts_eq] at hb
  have loop : ∀ k, k ≤ e.args.length → ∀ acc : List (List UInt8), acc.length + epartsL (e.args.drop k) ≤ 1048576 → Ev (fun n => go_ref04_used_L4 n (k : Int) acc e) (eusedL (e.args.drop k) acc) :=
    down (fun acc hb => by rw [ev_ref04_used_L4, Ev.pif_f (by simp), Ev.some_iff]; simp [eusedL]) fun k hk ihk acc hb => by
      have hx := List.getElem_mem hk
      have hlen := epartsL_len e.args
      rw [← List.getElem_cons_drop (h := hk)] at hb ⊢
      simp only [eusedL, epartsL] at hb ⊢
      have := eused_len e.args[k] acc
      rw [ev_ref04_used_L4, Ev.pif_t (by simpa using hk), Ev.opt_iff (ix_lt hk), GExpr.re_eq, Ev.bind_iff (ih _ hx _ (by omega)), wrk (by omega), GExpr.re_eq]
      exact ihk _ (by omega)
  have l3 : ∀ acc : List (List UInt8), acc.length + epartsL e.args ≤ 1048576 → Ev (fun n => go_ref04_used_L3 n acc e) (eusedL e.args acc) := fun acc hb => by
    rw [ev_ref04_used_L3, GExpr.re_eq]; simpa using loop 0 (Nat.zero_le _) acc (by simpa using hb)
  rw [ev_ref04_used, GExpr.re_eq, eused_eq]
  by_cases h2 : e.op = 2
  case neg => rw [Ev.pif_f (by simpa using h2), if_neg h2]; exact l3 _ (by omega)
  rw [Ev.pif_t (by simpa using h2), if_pos h2]
  have hil := ins_len e.name acc
  -- behind the place
  have fin : ∀ k, k ≤ acc.length → acc.takeWhile (fun x => Op.bytesLess x e.name) = acc.take k → acc.dropWhile (fun x => Op.bytesLess x e.name) = acc.drop k → Ev (fun n => go_ref04_used_L1 n (k : Int) false e acc) (eusedL e.args (ins acc e.name)) := fun k hk ht hd => by
    have hins := ins_at e.name acc
    rw [ht, hd] at hins
    have put : ins acc e.name = acc.take k ++ e.name :: acc.drop k → Ev (fun n => go_ref04_used_L2 n (k : Int) true e acc) (eusedL e.args (ins acc e.name)) := fun hi => by
      obtain ⟨s1, s2⟩ := shift_ins hk e.name
      have hx : ext acc [[]] = some (acc ++ [[]]) := ext_ok (by simp; omega)
      have hc1 : cutO (acc ++ [[]]) ((k + 1 : Nat) : Int) = some () := by unfold cutO; rw [if_pos (by simp; omega)]
      have hc2 : cutO (acc ++ [[]]) (k : Int) = some () := by unfold cutO; rw [if_pos (by simp; omega)]
      have hg : ix (acc.take k ++ [(acc ++ [[]])[k]'(by simp; omega)] ++ acc.drop k) (k : Int) = some ((acc ++ [[]])[k]'(by simp; omega)) := by
        rw [ix_nat, List.append_assoc, List.getElem?_append_right (by simp; omega)]
        simp [Nat.min_eq_left hk]
      rw [ev_ref04_used_L2, Ev.pif_t (by rfl), Ev.opt_iff hx, wrk (by omega), Ev.opt_iff hc1, Ev.opt_iff hc2, Ev.opt_iff s1, Ev.opt_iff hg, GExpr.re_eq, Int.toNat_natCast, s2, ← hi]
      exact l3 _ (by omega)
    rw [ev_ref04_used_L1, Ev.pif_f (by rfl), GExpr.re_eq]
    by_cases he : k = acc.length
    · rw [Ev.pif_t (by simp; omega)]
      exact put (by rw [hins, if_neg (by rw [List.drop_of_length_le (by omega)]; simp)])
    · have hlt : k < acc.length := by omega
      rw [Ev.pif_f (by simp; omega), Ev.opt_iff (ix_lt hlt)]
      have hhead : (acc.drop k).head? = some acc[k] := by rw [← List.getElem_cons_drop (h := hlt)]; rfl
      by_cases heq : acc[k] = e.name
      · rw [show (!(acc[k] == e.name)) = false by simpa using heq, ev_ref04_used_L2, Ev.pif_f (by rfl), GExpr.re_eq]
        have : ins acc e.name = acc := by rw [hins, if_pos (by rw [hhead, heq])]
        rw [this]
        exact l3 _ (by omega)
      · rw [show (!(acc[k] == e.name)) = true by simpa using heq]
        exact put (by rw [hins, if_neg (by rw [hhead]; simpa using heq)])
  have place : ∀ k, k ≤ acc.length → (acc.take k).all (fun x => Op.bytesLess x e.name) = true → Ev (fun n => go_ref04_used_L0 n (k : Int) e acc) (eusedL e.args (ins acc e.name)) :=
    down (Q := fun k => (acc.take k).all (fun x => Op.bytesLess x e.name) = true → Ev (fun n => go_ref04_used_L0 n (k : Int) e acc) (eusedL e.args (ins acc e.name))) (fun hall => by
      rw [List.take_length] at hall
      rw [List.all_eq_true] at hall
      rw [ev_ref04_used_L0, Ev.pif_f (by simp), GExpr.re_eq]
      refine fin _ (Nat.le_refl _) ?_ ?_
      · rw [List.take_length]; exact (tw_all hall).1
      · rw [List.drop_length]; exact (tw_all hall).2) fun k hk ihk hall => by
      have hsplit : acc = acc.take k ++ acc.drop k := (List.take_append_drop k acc).symm
      rw [ev_ref04_used_L0, Ev.pif_t (by simpa using hk), Ev.opt_iff (ix_lt hk), GExpr.re_eq]
      cases hb : Op.bytesLess acc[k] e.name
      · rw [List.all_eq_true] at hall
        refine fin k (by omega) ?_ ?_
        · conv => lhs; rw [hsplit]
          rw [List.takeWhile_append_of_pos hall, ← List.getElem_cons_drop (h := hk), List.takeWhile_cons_of_neg (by simp [hb]), List.append_nil]
        · conv => lhs; rw [hsplit]
          rw [List.dropWhile_append_of_pos hall, ← List.getElem_cons_drop (h := hk), List.dropWhile_cons_of_neg (by simp [hb])]
      · rw [ev_ref04_used_L1, Ev.pif_t (by rfl), wrk (by omega), GExpr.re_eq]
        refine ihk ?_
        rw [← take_succ_get hk, List.all_append, hall]; simp [hb]
  exact place 0 (Nat.zero_le _) (by simp)
noncomputable def eNames (e : GExpr) : List (List UInt8) × Int := if echeck e ≠ 0 then ([], echeck e) else (eused e [], 0)
theorem expr_Names {e : GExpr} (hw : e.wf) (hs : e.size ≤ 1048576) : Ev (fun n => go_expr_Names n e) (eNames e) := by
  rw [ev_expr_Names, GExpr.re_eq, Ev.bind_iff (expr_Check hw hs)]
  unfold eNames
  by_cases hc : echeck e = 0
  case neg => rw [Ev.pif_t (by simpa using hc), Ev.some_iff, if_pos hc]
  obtain ⟨_, hp, _⟩ := echeck_fine hc
  have hl := enames_len e []
  have hsort : Ev (fun n => go_slices_Sort_string_string n (enames e [])) (eused e []) := by
    refine .same (fun n => ?_) (.pure rfl)
    unfold go_slices_Sort_string_string
    rw [if_pos (by simp at hl; omega), enames_sort]
  rw [Ev.pif_f (by simpa using hc), if_neg (by simpa using hc), Ev.bind_iff (expr_names e [] (by simp; omega)), Ev.bind_iff hsort, Ev.some_iff]
theorem ref04_Names {e : GExpr} (hs : e.size ≤ 1048576) : Ev (fun n => go_ref04_Names n e) (eNames e) := by
  rw [ev_ref04_Names, GExpr.re_eq, Ev.bind_iff (ref04_Check hs)]
  unfold eNames
  by_cases hc : echeck e = 0
  case neg => rw [Ev.pif_t (by simpa using hc), Ev.bind_iff (ref04_Check hs), Ev.some_iff, if_pos hc]
  obtain ⟨_, hp, _⟩ := echeck_fine hc
  rw [Ev.pif_f (by simpa using hc), if_neg (by simpa using hc), Ev.bind_iff (ref04_used e [] (by simp; omega)), Ev.some_iff]
theorem evals_plain (e : GExpr) (env : List GBind) (hw : e.wf) (hbw : ∀ b ∈ env, b.wf) (hs : e.size + (env.map GBind.size).sum ≤ 1048576) : ∃ n, go_gambrellaw04_ExprEvals n e env = some true := by
  have hbw' : ∀ b ∈ env, b.value.wf := fun b hb => by have := hbw b hb; rw [GBind.wf_eq] at this; exact this.2
  refine Ev.get (r := true) ?_
  have hsz : (eEval e env).2.size ≤ 1048576 := by
    have h0 : v0.size ≤ 1048576 := by rw [GValue.size_eq, GRatio.size_eq]; simp [v0]
    unfold eEval
    split
    · exact h0
    rename_i hc
    split
    · exact h0
    rename_i hb
    have hc : echeck e = 0 := by simpa using hc
    have hb : ebinds env = 0 := by simpa using hb
    by_cases hz : (eev env e).1 = 0
    · have := (vok (eev_ok (env_ok hb) e (echeck_fine hc).1 hz)).2; omega
    · rw [eev_err e hz]; exact h0
  have l2 : ∀ l : List (List UInt8), l.length ≤ 1048576 → ∀ k, k ≤ l.length → Ev (fun n => go_gambrellaw04_ExprEvals_L2 n (k : Int) l l) true := fun l hl =>
    down (by rw [ev_gambrellaw04_ExprEvals_L2, Ev.pif_f (by simp), Ev.some_iff]) fun k hk ih => by
      rw [ev_gambrellaw04_ExprEvals_L2, Ev.pif_t (by simpa using hk), Ev.opt_iff (ix_lt hk), Ev.opt_iff (ix_lt hk), Ev.pif_f (by simp), wrk (by omega)]
      exact ih
  have hnl : (eNames e).1.length ≤ 1048576 := by
    unfold eNames
    split
    · simp
    · rename_i hc
      have hc : echeck e = 0 := by simpa using hc
      have := eused_len e []
      have := (echeck_fine hc).2.1
      simp at *; omega
  have l0 : ∀ b, Ev (fun n => go_gambrellaw04_ExprEvals_L0 n env b e) true := fun b => by
    cases b
    case true => rw [ev_gambrellaw04_ExprEvals_L0, Ev.pif_t (by rfl), Ev.some_iff]
    rw [ev_gambrellaw04_ExprEvals_L0, Ev.pif_f (by rfl), GExpr.re_eq]
    rw [Ev.bind_iff (expr_Eval hw (by omega) hbw' (by omega)), Ev.bind_iff (ref04_Eval (by omega) (by omega)), Ev.bind_iff (expr_Names hw (by omega)), Ev.bind_iff (ref04_Names (by omega)), Ev.bind_iff (expr_Check hw (by omega)), Ev.bind_iff (ref04_Check (by omega))]
    rw [Ev.pif_f (by simp), GValue.re_eq, Ev.bind_iff (ref03_Same _ _ hsz), Ev.pif_f (by simp), Ev.pif_f (by simp), Ev.pif_f (by simp)]
    rw [show ((eNames e).2 != (eNames e).2) = false by simp, ev_gambrellaw04_ExprEvals_L1, Ev.pif_f (by rfl)]
    exact l2 _ hnl 0 (Nat.zero_le _)
  obtain ⟨g, hg⟩ := ref04_Great (e := e) (by omega)
  obtain ⟨h, hh⟩ := ref04_GreatBinds (env := env) (by omega)
  rw [ev_gambrellaw04_ExprEvals, GExpr.re_eq, Ev.bind_iff hg]
  cases g
  · rw [Ev.pif_f (by rfl), Ev.bind_iff hh]; exact l0 _
  · rw [Ev.pif_t (by rfl)]; exact l0 _
end Go.Proofs.YtfhpamcehnfhoaaGreat
