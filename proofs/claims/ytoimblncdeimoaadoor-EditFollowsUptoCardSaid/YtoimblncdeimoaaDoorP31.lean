/-
  OVERRIDES AFTER A RENAMING: THE PROGRAM AND THE REFERENCE COME TO THE SAME.
-/
import Derived.Test.YtoimblncdeimoaaDoorP30
import Derived.Lib.Join
namespace Go.Ab
open Go
set_option linter.unusedVariables false
set_option linter.unusedSimpArgs false

/-! ### what is computed -/
def renStep (a b s : List UInt8) : List UInt8 := if (cutAt 91 s).1 == a then b ++ s.drop (cutAt 91 s).1.length else s
def renPath (a b p : List UInt8) : List UInt8 := Lib.join ((parts 47 p).map (renStep a b)) [47]
def renOver (a b : List UInt8) (o : GOver) : GOver := GOver.mk (renPath a b o.path) o.kind (if o.kind == 2 then (if o.name == a then b else o.name) else o.name)
def followL (l : List GOver) (a b : List UInt8) : List GOver × Int :=
  if !(formedL l == 0) then ([], formedL l) else if !(nameOk a) || !(nameOk b) then ([], 12) else (l.map (renOver a b), 0)

/-! ### lists -/
theorem drop_tw {α : Type} {p : α → Bool} : ∀ {s : List α}, s.drop (s.takeWhile p).length = s.dropWhile p
  | [] => rfl
  | c :: t => by
    rw [List.takeWhile_cons, List.dropWhile_cons]
    split
    · rw [List.length_cons, List.drop_succ_cons, drop_tw]
    · rfl
theorem dw_has {b : UInt8} : ∀ {s : List UInt8}, s.any (· == b) = true → s.dropWhile (· != b) = b :: (s.dropWhile (· != b)).tail
  | [], h => by simp at h
  | c :: t, h => by
    by_cases hc : c = b
    · subst hc; simp
    · have h' : (c == b) = false := by simpa using hc
      have hn : (c != b) = true := by simp [bne, h']
      rw [List.any_cons, h', Bool.false_or] at h
      rw [List.dropWhile_cons, if_pos hn]
      exact dw_has h
theorem dw_no {b : UInt8} {s : List UInt8} (h : s.any (· == b) = false) : s.dropWhile (· != b) = [] := by
  have h1 : s.takeWhile (· != b) = s := congrArg Prod.fst (cut_no h)
  have h2 := drop_tw (p := (· != b)) (s := s)
  rw [h1, List.drop_length] at h2
  exact h2.symm
theorem take_map_succ {α β : Type} {f : α → β} {l : List α} {k : Nat} (h : k < l.length) : (l.take k).map f ++ [f l[k]] = (l.take (k + 1)).map f := by
  rw [List.take_add_one, List.getElem?_eq_getElem h, List.map_append]; rfl
/-- a list of which the first k elements are new -/
def upd {α : Type} (f : α → α) (ps : List α) (k : Nat) : List α := (ps.take k).map f ++ ps.drop k
theorem upd_len {α : Type} {f : α → α} {ps : List α} {k : Nat} (h : k ≤ ps.length) : (upd f ps k).length = ps.length := by simp [upd]; omega
theorem upd_zero {α : Type} {f : α → α} {ps : List α} : upd f ps 0 = ps := by simp [upd]
theorem upd_all {α : Type} {f : α → α} {ps : List α} : upd f ps ps.length = ps.map f := by simp [upd]
theorem upd_at {α : Type} {f : α → α} {ps : List α} {k : Nat} (h : k < ps.length) : ix (upd f ps k) (k : Int) = some ps[k] := by
  rw [ix_nat, upd, List.getElem?_append_right (by simp; omega)]
  simp [Nat.min_eq_left (Nat.le_of_lt h), h]
theorem upd_set {α : Type} {f : α → α} {ps : List α} {k : Nat} (h : k < ps.length) : (upd f ps k).set k (f ps[k]) = upd f ps (k + 1) := by
  have hl : ((ps.take k).map f).length = k := by simp; omega
  unfold upd
  rw [← List.getElem_cons_drop (h := h), List.set_append_right _ _ (by rw [hl]; exact Nat.le_refl _), hl, Nat.sub_self, List.set_cons_zero, ← take_map_succ h, List.append_assoc]
  rfl
theorem upd_keep {α : Type} {f : α → α} {ps : List α} {k : Nat} (h : k < ps.length) (he : f ps[k] = ps[k]) : upd f ps k = upd f ps (k + 1) := by
  rw [← upd_set h, he]
  refine (List.ext_getElem? fun j => ?_).symm
  rw [List.getElem?_set]
  split
  · rename_i hj
    subst hj
    have := upd_at (f := f) h
    rw [ix_nat] at this
    rw [this, if_pos (by rw [upd_len (by omega)]; exact h)]
  · rfl
theorem ix_set {α : Type} {l : List α} {k : Nat} {x : α} (h : k < l.length) : ix (l.set k x) (k : Int) = some x := by
  rw [ix_nat, List.getElem?_set_self h]
theorem sum_const {α : Type} {f : α → Nat} {c : Nat} : ∀ {l : List α}, (∀ x ∈ l, f x ≤ c) → (l.map f).sum ≤ l.length * c
  | [], _ => by simp
  | x :: l, h => by
    have h1 := h x (by simp)
    have h2 := sum_const (l := l) (f := f) (c := c) fun y hy => h y (by simp [hy])
    rw [List.map_cons, List.sum_cons, List.length_cons, Nat.succ_mul]
    omega
theorem join_le (xs : List (List UInt8)) : (Lib.join xs [47]).length ≤ xs.length + (xs.map (·.length)).sum := by
  cases xs with
  | nil => simp [Lib.join_nil]
  | cons x r =>
    rw [Lib.join_cons, List.length_append, Lib.joinTail_length]
    simp [Lib.lens]; omega

/-! ### a step -/
theorem ren_has {a b s : List UInt8} (h : ((cutAt 91 s).1 == a) = true) (hc : (cutAt 91 s).2.2 = true) : renStep a b s = b ++ ([91] ++ (cutAt 91 s).2.1) := by
  rw [renStep, if_pos h]
  congr 1
  show s.drop (s.takeWhile (· != 91)).length = _
  rw [drop_tw, dw_has hc]
  simp [cutAt]
theorem ren_no {a b s : List UInt8} (h : ((cutAt 91 s).1 == a) = true) (hc : (cutAt 91 s).2.2 = false) : renStep a b s = b := by
  rw [renStep, if_pos h]
  show b ++ s.drop (s.takeWhile (· != 91)).length = _
  rw [drop_tw, dw_no hc, List.append_nil]
theorem ren_other {a b s : List UInt8} (h : ((cutAt 91 s).1 == a) = false) : renStep a b s = s := by rw [renStep, h]; rfl
theorem ren_len (a b s : List UInt8) : (renStep a b s).length ≤ b.length + s.length := by
  unfold renStep
  split
  · simp only [List.length_append, List.length_drop]; omega
  · omega

/-! ### paths that are well formed -/
structure PathOk (p : List UInt8) : Prop where
  len : p.length ≤ 4000
  steps : Go.Ab.steps p = parts 47 p
  num : (parts 47 p).length ≤ 40
  ok : ∀ s ∈ parts 47 p, readOk s = true
theorem pathOk {o : GOver} (h : overOk o = true) : PathOk o.path := by
  simp only [overOk, Bool.and_eq_true, beq_iff_eq, Bool.not_eq_true'] at h
  obtain ⟨⟨h1, h2⟩, _⟩ := h
  have hs : Go.Ab.steps o.path = parts 47 o.path := by unfold Go.Ab.steps; rw [h2]; rfl
  unfold labelCheck at h1
  split at h1
  · cases h1
  · split at h1
    · cases h1
    · split at h1
      · rename_i a b c
        exact ⟨by omega, hs, by rw [← hs]; omega, fun s hm => List.all_eq_true.1 c s (by rw [hs]; exact hm)⟩
      · cases h1
theorem PathOk.part {p s : List UInt8} (h : PathOk p) (hs : s ∈ parts 47 p) : s.length ≤ 4000 := by have := parts_len hs; have := h.len; omega
theorem PathOk.join {p a b : List UInt8} (h : PathOk p) (hb : b.length ≤ 40) : (renPath a b p).length ≤ 200000 := by
  have h1 := join_le ((parts 47 p).map (renStep a b))
  have h2 := sum_const (f := fun x : List UInt8 => x.length) (c := 4040) (l := (parts 47 p).map (renStep a b)) fun x hx => by
    obtain ⟨s, hs, rfl⟩ := List.mem_map.1 hx
    have := ren_len a b s
    have := h.part hs
    omega
  rw [List.length_map] at h1 h2
  have h3 := h.num
  have h4 := Nat.mul_le_mul_right 4040 h3
  unfold renPath
  omega
theorem nameOk_len {s : List UInt8} (h : nameOk s = true) : s.length ≤ 40 := by
  cases s with
  | nil => cases h
  | cons c t => simp only [nameOk, Bool.and_eq_true, decide_eq_true_eq] at h; exact h.2

/-! ### the reference -/
theorem ref_path {xs : List (List UInt8)} (hn : xs.length ≤ 1000000) (hb : (Lib.join xs [47]).length ≤ 1000000) : Ev (fun n => go_ref02_Path n xs) (Lib.join xs [47]) := by
  refine .succ (fun n => by rw [go_ref02_Path]) ?_
  cases xs with
  | nil => exact .succ (fun n => by rw [go_ref02_Path_L1]) (.f (by simp) (.pure (by rw [Lib.join_nil])))
  | cons x r =>
    rw [Lib.join_cons] at hb ⊢
    rw [List.length_append] at hb
    rw [List.length_cons] at hn
    have hl := down (len := r.length) (Q := fun k => Ev (fun n => go_ref02_Path_L1 n (x :: r) (x ++ Lib.joinTail [47] (r.take k)) ((k + 1 : Nat) : Int)) (x ++ Lib.joinTail [47] r)) (by
        refine .succ (fun n => by rw [go_ref02_Path_L1]) (.f (by simp) (.pure ?_))
        rw [List.take_length]) (fun k hk ih => by
        have h1 := Lib.joinTail_take_le [47] r k
        have h2 := Lib.joinTail_take_le [47] r (k + 1)
        have h3 := Lib.joinTail_take_succ [47] r k r[k] (List.getElem?_eq_getElem hk)
        have h4 := congrArg List.length h3
        simp only [List.length_append, List.length_singleton] at h4
        refine .succ (fun n => by rw [go_ref02_Path_L1]) (.t (by simp; omega) (.t (by simp) (.opt (cat_ok (by simp; omega)) ?_)))
        refine .succ (fun n => by rw [go_ref02_Path_J1]) ?_
        refine .opt (y := r[k]) (by rw [ix_nat]; simp [hk]) (.opt (cat_ok (by simp; omega)) ?_)
        rw [wrk (by omega), List.append_assoc, List.append_assoc, ← List.append_assoc (Lib.joinTail _ _), ← h3]
        exact ih) 0 (Nat.zero_le _)
    refine .succ (fun n => by rw [go_ref02_Path_L1]) (.t (by simp) (.f (by simp) ?_))
    refine .succ (fun n => by rw [go_ref02_Path_J1]) ?_
    refine .opt (y := x) rfl (.opt (cat_ok (by simp; omega)) ?_)
    have e : IntKind.i64.wrap (0 + 1) = ((0 + 1 : Nat) : Int) := wrk (k := 0) (by omega)
    rw [e]
    simpa [Lib.joinTail] using hl

theorem ref_renamed {p a b : List UInt8} (hp : PathOk p) (hb : b.length ≤ 40) : Ev (fun n => go_ref31_RenamedPath n p a b) (renPath a b p) := by
  have hlen := hp.len
  have hnum := hp.num
  have hj := hp.join (a := a) hb
  refine .succ (fun n => by rw [go_ref31_RenamedPath]) (.bind (ref_cut (by omega)) ?_)
  rw [hp.steps]
  refine .opt (ext_ok (by simp; omega)) ?_
  rw [List.nil_append]
  have hl := down (len := (parts 47 p).length) (Q := fun k => Ev (fun n => go_ref31_RenamedPath_L1 n a b (upd (renStep a b) (parts 47 p) k) (k : Int)) (renPath a b p)) (by
      refine .succ (fun n => by rw [go_ref31_RenamedPath_L1]) (.f (by rw [upd_len (Nat.le_refl _)]; simp) ?_)
      rw [upd_all]
      refine .bind (ref_path (by simp; omega) (by show (renPath a b p).length ≤ _; omega)) (.pure rfl)) (fun k hk ih => by
      have hm : (parts 47 p)[k] ∈ parts 47 p := List.getElem_mem hk
      have h40 := hp.part hm
      obtain ⟨x, y, hs, hx⟩ := ref_step_n (s := (parts 47 p)[k]) (by omega)
      have hx := hx (hp.ok _ hm)
      subst hx
      have htw : ((parts 47 p)[k].takeWhile (· != 91)).length ≤ (parts 47 p)[k].length := cutAt_one 91 _
      have next : ∀ l, l = upd (renStep a b) (parts 47 p) (k + 1) → Ev (fun n => go_ref31_RenamedPath_J1 n a b (k : Int) l) (renPath a b p) := fun l e => by
        refine .succ (fun n => by rw [go_ref31_RenamedPath_J1]) ?_
        rw [wrk (by omega), e]; exact ih
      refine .succ (fun n => by rw [go_ref31_RenamedPath_L1]) (.t (by rw [upd_len (by omega)]; simpa using hk) (.opt (upd_at hk) (.bind hs ?_)))
      refine .cond (fun h => ?_) fun h => next _ (upd_keep hk (ren_other h))
      have h : ((cutAt 91 (parts 47 p)[k]).1 == a) = true := h
      refine .opt (upd_at hk) (.opt (sub_nat htw (Nat.le_refl _)) (.opt (cat_ok (by simp; omega)) (next _ ?_)))
      rw [Int.toNat_natCast, ← upd_set hk, List.take_length]
      congr 1
      rw [renStep, if_pos h]; rfl) 0 (Nat.zero_le _)
  rw [upd_zero] at hl
  exact hl

theorem ref_follow {l : List GOver} {a b : List UInt8} (hb : (l.map GOver.size).sum ≤ 1048576) (ha1 : a.length ≤ 1048576) (hb1 : b.length ≤ 1048576) : Ev (fun n => go_ref31_Follow n l a b) (followL l a b) := by
  refine .succ (fun n => by rw [go_ref31_Follow]) (.bind (ref_Formed hb) ?_)
  refine .cond (fun h => .bind (ref_Formed hb) (.pure (by rw [followL, if_pos h]))) fun h => ?_
  have hf : formedL l = 0 := by simpa using h
  have e1 : followL l a b = if !(nameOk a) || !(nameOk b) then ([], 12) else (l.map (renOver a b), 0) := by rw [followL, if_neg (by rw [h]; decide)]
  have jt : Ev (fun n => go_ref31_Follow_J1 n l a b true) ([], 12) := .succ (fun n => by rw [go_ref31_Follow_J1]) (.t rfl (.pure rfl))
  refine .bind (ref_name ha1) (.cond (fun h => jt.to (by rw [e1, h]; rfl)) fun h => .bind (ref_name hb1) ?_)
  cases hnb : nameOk b
  · exact jt.to (by rw [e1, hnb]; simp)
  rw [hnb, h] at e1
  have hbl := nameOk_len hnb
  have h60 : l.length ≤ 60 ∧ l.all overOk = true := by
    unfold formedL at hf
    split at hf
    · cases hf
    · split at hf
      · rename_i c d; exact ⟨by omega, d⟩
      · cases hf
  have hl := down (len := l.length) (Q := fun k => Ev (fun n => go_ref31_Follow_L1 n l a b ((l.take k).map (renOver a b)) (k : Int)) (l.map (renOver a b), 0)) (by
      refine .succ (fun n => by rw [go_ref31_Follow_L1]) (.f (by simp) (.pure ?_))
      rw [List.take_length]) (fun k hk ih => by
      have hp := pathOk (List.all_eq_true.1 h60.2 _ (List.getElem_mem hk))
      have next : ∀ nm, nm = (renOver a b l[k]).name → Ev (fun n => go_ref31_Follow_J2 n l a b ((l.take k).map (renOver a b)) (k : Int) l[k] (renPath a b l[k].path) nm) (l.map (renOver a b), 0) := fun nm e => by
        refine .succ (fun n => by rw [go_ref31_Follow_J2]) (.opt (ext_ok (by simp; omega)) ?_)
        rw [wrk (by omega), e]
        have : (l.take k).map (renOver a b) ++ [GOver.mk (renPath a b l[k].path) l[k].kind (renOver a b l[k]).name] = (l.take (k + 1)).map (renOver a b) := take_map_succ (f := renOver a b) hk
        rw [this]; exact ih
      refine .succ (fun n => by rw [go_ref31_Follow_L1]) (.t (by simpa using hk) (.opt (ix_lt hk) (.bind (ref_renamed hp hbl) ?_)))
      refine .cond (fun h => ?_) fun h => next _ (by simp [renOver, h])
      refine .bind (y := if l[k].name == a then b else l[k].name) (.same (fun n => by rw [go_ref31_other]) (.cond (fun h => .pure (by rw [if_pos h])) fun h => .pure (by rw [if_neg (by rw [h]; decide)]))) (next _ ?_)
      show _ = if l[k].kind == 2 then _ else _
      rw [if_pos h]) 0 (Nat.zero_le _)
  refine .succ (fun n => by rw [go_ref31_Follow_J1]) (.f (by decide) ?_)
  rw [e1]; exact hl

/-! ### the program's own -/
theorem own_attach0 {l : List GOver} (hb : (l.map GOver.size).sum ≤ 1048576) : ∃ bs, Ev (fun n => go_override_Attach n [] l) (bs, formedL l) := by
  have hlen := len_le_sum' (l := l) (f := GOver.size) fun x _ => x.size_pos
  cases h0 : (formedL l == 0)
  · refine ⟨[], .succ (fun n => by rw [go_override_Attach]) ?_⟩
    refine .bind (own_formed hb) ?_
    refine .t ?_ (.pure rfl)
    rw [h0]; rfl
  · have e : formedL l = 0 := by simpa using h0
    have hl := down (len := l.length) (Q := fun k => ∀ acc : List Bool, acc.length ≤ k → ∃ bs, Ev (fun n => go_override_Attach_L2 n l ([] : List (List UInt8 × Bool)) acc (k : Int)) (bs, 0)) (fun acc _ => ⟨acc, .succ (fun n => by rw [go_override_Attach_L2]) (.f (by simp) (.pure rfl))⟩) (fun k hk ih acc ha => by
        obtain ⟨bs, h⟩ := ih (acc ++ [((mget ([] : List (List UInt8 × Bool)) l[k].path).getD false)]) (by simp; omega)
        refine ⟨bs, .succ (fun n => by rw [go_override_Attach_L2]) ?_⟩
        refine .t (by simpa using hk) ?_
        refine .opt (ix_lt hk) ?_
        refine .opt (ext_ok (by simp; omega)) ?_
        rw [wrk (by omega)]; exact h) 0 (Nat.zero_le _) [] (by simp)
    obtain ⟨bs, hbs⟩ := hl
    refine ⟨bs, .succ (fun n => by rw [go_override_Attach]) ?_⟩
    refine .bind (own_formed hb) ?_
    refine .f (by rw [h0]; rfl) ?_
    refine .succ (fun n => by rw [go_override_Attach_L1]) (.f (by simp) ?_)
    rw [e]; exact hbs

theorem own_inner {l acc : List GOver} {a b : List UInt8} {j : Int} {o : GOver} (hp : PathOk o.path) (hb : b.length ≤ 40) {r : List GOver × Int}
    (hfin : ∀ nm, nm = (renOver a b o).name → Ev (fun n => go_edit_Follow_J5 n l a b acc j o (renPath a b o.path) nm) r) :
    Ev (fun n => go_edit_Follow_L2 n l a b acc j o (parts 47 o.path) (parts 47 o.path) 0) r := by
  have hlen := hp.len
  have hnum := hp.num
  have hj := hp.join (a := a) hb
  have j4 : ∀ c, c = (o.kind == 2 && o.name == a) → Ev (fun n => go_edit_Follow_J4 n l a b acc j o (renPath a b o.path) c) r := fun c hc => by
    refine .succ (fun n => by rw [go_edit_Follow_J4]) (.cond (fun h => hfin _ ?_) fun h => hfin _ ?_)
    · rw [h] at hc
      have : (o.kind == 2) = true ∧ (o.name == a) = true := by simpa using hc.symm
      show _ = if o.kind == 2 then _ else _
      rw [if_pos this.1, if_pos this.2]
    · rw [h] at hc
      show _ = if o.kind == 2 then _ else _
      cases h1 : o.kind == 2
      · rfl
      · rw [h1, Bool.true_and] at hc
        rw [if_pos rfl, ← hc]; rfl
  have hl := down (len := (parts 47 o.path).length) (Q := fun k => Ev (fun n => go_edit_Follow_L2 n l a b acc j o (parts 47 o.path) (upd (renStep a b) (parts 47 o.path) k) (k : Int)) r) (by
      refine .succ (fun n => by rw [go_edit_Follow_L2]) (.f (by simp) ?_)
      rw [upd_all]
      have hjn : Ev (fun n => go_strings_Join_s47 n ((parts 47 o.path).map (renStep a b))) (renPath a b o.path) := ⟨0, fun m _ => by
        show go_strings_Join_s47 m _ = _
        rw [go_strings_Join_s47]
        exact if_pos ⟨by simp; omega, by show (renPath a b o.path).length ≤ _; omega⟩⟩
      refine .bind hjn ?_
      exact .cond (fun h => j4 _ (by rw [h, Bool.true_and])) fun h => j4 _ (by rw [h, Bool.false_and])) (fun k hk ih => by
      have hm : (parts 47 o.path)[k] ∈ parts 47 o.path := List.getElem_mem hk
      have h40 := hp.part hm
      have hr := cutAt_rest 91 (parts 47 o.path)[k]
      have j2 : ∀ l', l' = upd (renStep a b) (parts 47 o.path) (k + 1) → Ev (fun n => go_edit_Follow_J2 n l a b acc j o (parts 47 o.path) (k : Int) l') r := fun l' e => by
        refine .succ (fun n => by rw [go_edit_Follow_J2]) ?_
        rw [wrk (by omega), e]; exact ih
      have j3 : ∀ l', l' = upd (renStep a b) (parts 47 o.path) (k + 1) → Ev (fun n => go_edit_Follow_J3 n l a b acc j o (parts 47 o.path) (k : Int) l') r := fun l' e => .succ (fun n => by rw [go_edit_Follow_J3]) (j2 l' e)
      refine .succ (fun n => by rw [go_edit_Follow_L2]) ?_
      refine .t (by simpa using hk) ?_
      refine .opt (upd_at hk) ?_
      refine .bind (cut91 (s := (parts 47 o.path)[k]) (by omega)) ?_
      refine .cond (fun h => ?_) fun h => j2 _ (upd_keep hk (ren_other h))
      refine .opt (upd_at hk) (.cond (fun hc => ?_) fun hc => j3 _ ?_)
      · have hlt : k < (upd (renStep a b) (parts 47 o.path) k).length := by rw [upd_len (by omega)]; exact hk
        refine .opt (y := b) (by rw [Int.toNat_natCast]; exact ix_set hlt) (.opt (cat_ok (by simp; omega)) (.opt (cat_ok (by simp; omega)) (j3 _ ?_)))
        rw [Int.toNat_natCast, List.set_set, ← ren_has (b := b) h hc]
        exact upd_set hk
      · rw [Int.toNat_natCast]
        have := upd_set (f := renStep a b) hk
        rw [ren_no h hc] at this
        exact this) 0 (Nat.zero_le _)
  rw [upd_zero] at hl
  exact hl

theorem own_follow {l : List GOver} {a b : List UInt8} (hb : (l.map GOver.size).sum ≤ 1048576) (ha1 : a.length ≤ 1048576) (hb1 : b.length ≤ 1048576) : Ev (fun n => go_edit_Follow n l a b) (followL l a b) := by
  obtain ⟨bs, hat⟩ := own_attach0 hb
  refine .succ (fun n => by rw [go_edit_Follow]) (.bind hat ?_)
  refine .cond (fun h => .pure (by rw [followL, if_pos h])) fun h => ?_
  have hf : formedL l = 0 := by simpa using h
  have e1 : followL l a b = if !(nameOk a) || !(nameOk b) then ([], 12) else (l.map (renOver a b), 0) := by rw [followL, if_neg (by rw [h]; decide)]
  have jt : Ev (fun n => go_edit_Follow_J1 n l a b true) ([], 12) := .succ (fun n => by rw [go_edit_Follow_J1]) (.t rfl (.pure rfl))
  refine .bind (label_name ha1) (.cond (fun h => jt.to (by rw [e1, h]; rfl)) fun h => .bind (label_name hb1) ?_)
  cases hnb : nameOk b
  · exact jt.to (by rw [e1, hnb]; simp)
  rw [hnb, h] at e1
  have hbl := nameOk_len hnb
  have h60 : l.length ≤ 60 ∧ l.all overOk = true := by
    unfold formedL at hf
    split at hf
    · cases hf
    · split at hf
      · rename_i c d; exact ⟨by omega, d⟩
      · cases hf
  have hl := down (len := l.length) (Q := fun k => Ev (fun n => go_edit_Follow_L1 n l a b ((l.take k).map (renOver a b)) (k : Int)) (l.map (renOver a b), 0)) (by
      refine .succ (fun n => by rw [go_edit_Follow_L1]) (.f (by simp) (.pure ?_))
      rw [List.take_length]) (fun k hk ih => by
      have hp := pathOk (List.all_eq_true.1 h60.2 _ (List.getElem_mem hk))
      have hpl := hp.len
      refine .succ (fun n => by rw [go_edit_Follow_L1]) (.t (by simpa using hk) (.opt (ix_lt hk) ?_))
      refine .bind (y := parts 47 l[k].path) (.same (fun n => by rw [go_strings_Split_own_s47]) (.pure (if_pos (by omega)))) (own_inner hp hbl fun nm e => ?_)
      refine .succ (fun n => by rw [go_edit_Follow_J5]) (.opt (ext_ok (by simp; omega)) ?_)
      rw [wrk (by omega), e]
      have : (l.take k).map (renOver a b) ++ [GOver.mk (renPath a b l[k].path) l[k].kind (renOver a b l[k]).name] = (l.take (k + 1)).map (renOver a b) := take_map_succ (f := renOver a b) hk
      rw [this]; exact ih) 0 (Nat.zero_le _)
  refine .succ (fun n => by rw [go_edit_Follow_J1]) (.f (by decide) ?_)
  rw [e1]; exact hl

/-! ### the law -/
theorem same_overs {l : List GOver} (hb : l.length ≤ 1048576) : Ev (fun n => go_ref31_SameOvers n l l) true := by
  refine .succ (fun n => by rw [go_ref31_SameOvers]) (.f (by simp) ?_)
  exact down (len := l.length) (Q := fun k => Ev (fun n => go_ref31_SameOvers_L1 n l l (k : Int)) true) (.succ (fun n => by rw [go_ref31_SameOvers_L1]) (.f (by simp) (.pure rfl))) (fun k hk ih => by
    refine .succ (fun n => by rw [go_ref31_SameOvers_L1]) ?_
    refine .t (by simpa using hk) ?_
    refine .opt (ix_lt hk) ?_
    refine .opt (ix_lt hk) ?_
    refine .f (by simp) ?_
    rw [wrk (by omega)]; exact ih) 0 (Nat.zero_le _)

theorem follows_plain (x0 : List GOver) (x1 x2 : List UInt8) (hb : (x0.map GOver.size).sum + x1.length + x2.length ≤ 1048576) : ∃ n, go_gambrellaw31_EditFollows n x0 x1 x2 = some true := by
  have hlen := len_le_sum' (l := x0) (f := GOver.size) fun x _ => x.size_pos
  have j2 : ∀ c, c = true → Ev (fun n => go_gambrellaw31_EditFollows_J2 n c) true := fun c h => .same (fun n => by rw [go_gambrellaw31_EditFollows_J2]) (.pure (by rw [h]))
  have hfl : (followL x0 x1 x2).1.length ≤ 1048576 := by
    unfold followL
    split
    · simp
    · split
      · simp
      · simp; omega
  have j1 : ∀ c, Ev (fun n => go_gambrellaw31_EditFollows_J1 n x0 x1 x2 c) true := fun c => by
    refine .same (fun n => by rw [go_gambrellaw31_EditFollows_J1]) (.cond (fun _ => .pure rfl) fun _ => ?_)
    refine .bind (own_follow (by omega) (by omega) (by omega)) (.bind (ref_follow (by omega) (by omega) (by omega)) (.bind (same_overs hfl) ?_))
    exact .t rfl (j2 _ (by simp))
  obtain ⟨g, hg⟩ := great30_ev (l := x0) (by omega)
  refine Ev.get (f := fun n => go_gambrellaw31_EditFollows n x0 x1 x2) (.same (fun n => by rw [go_gambrellaw31_EditFollows]) (.bind hg ?_))
  exact .cond (fun _ => j1 _) fun _ => .cond (fun _ => j1 _) fun _ => j1 _
end Go.Ab
