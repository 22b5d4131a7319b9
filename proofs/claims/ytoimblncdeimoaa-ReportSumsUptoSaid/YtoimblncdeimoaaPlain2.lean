/-
  REPORTS: LINES ADDED TO A SORTED LIST, AND PUT INTO A MAP.
-/
import Derived.Test.YtoimblncdeimoaaPlain1
namespace Go.Ab
open Go
set_option linter.unusedVariables false
set_option linter.unusedSimpArgs false

/-! ### what a list that passes the check is -/
def Strict (l : List GTally) : Prop := l.Pairwise fun x y => ltT x y = true
theorem Strict.asc {l : List GTally} (h : Strict l) : Asc l := List.Pairwise.imp (fun h => bl_asymm h) h
theorem Strict.nodup {l : List GTally} (h : Strict l) : (l.map (·.name)).Nodup := by
  rw [List.Nodup, List.pairwise_map]
  refine List.Pairwise.imp (fun h e => ?_) h
  unfold ltT at h
  rw [e, bl_irrefl] at h; cases h
theorem chk_zero {l : List GTally} (h : chk l = 0) : l.length ≤ 200 ∧ Strict l ∧ ∀ x ∈ l, tOk x = true := by
  unfold chk at h
  split at h
  · cases h
  · rename_i h200
    have hall : ∀ j, j < l.length → stepOk l j := by
      unfold chkFrom at h
      split at h
      · rename_i hh; exact fun j hj => hh j (Nat.zero_le _) hj
      · cases h
    refine ⟨by omega, ?_, fun x hx => ?_⟩
    · refine List.pairwise_iff_getElem.2 fun i j hi hj hij => ?_
      induction j with
      | zero => omega
      | succ j ih =>
        obtain ⟨x, hx, h1, h2⟩ := hall (j + 1) hj
        rw [List.getElem?_eq_getElem hj] at hx; injection hx with hx
        have h3 := h2 j l[j] rfl (List.getElem?_eq_getElem (by omega))
        rw [hx]
        by_cases e : i = j
        · subst e; exact h3
        · exact bl_trans (ih (by omega) (by omega)) h3
    · obtain ⟨j, hj⟩ := List.mem_iff_getElem?.1 hx
      have hjl : j < l.length := (List.getElem?_eq_some_iff.1 hj).1
      obtain ⟨y, hy, h1, _⟩ := hall j hjl
      rw [hj] at hy; injection hy with hy; subst hy; exact h1
theorem chk_cases (l : List GTally) : chk l = 0 ∨ chk l ≠ 0 := by omega

/-! ### adding -/
def upd (y x : GTally) : GTally := GTally.mk y.name (mnI (IntKind.i64.wrap (y.count + x.count)) 1000000001) (mnI (IntKind.i64.wrap (y.volume + x.volume)) 1000000000000000001)
def addT : List GTally → GTally → List GTally
  | [], x => [x]
  | y :: l, x => if ltT y x then y :: addT l x else if y.name == x.name then upd y x :: l else x :: y :: l
def gT (x z : GTally) : GTally := if z.name == x.name then upd z x else z
theorem gT_name (x z : GTally) : (gT x z).name = z.name := by unfold gT; split <;> rfl
theorem gT_ne {x z : GTally} (h : z.name ≠ x.name) : gT x z = z := by unfold gT; rw [if_neg (by simpa using h)]
theorem add_len (l : List GTally) (x : GTally) : (addT l x).length ≤ l.length + 1 := by
  induction l with
  | nil => simp [addT]
  | cons y l ih =>
    unfold addT
    split
    · simp; omega
    · split <;> simp
theorem add_found {l : List GTally} {x y : GTally} (hs : Strict l) (hy : y ∈ l) (e : y.name = x.name) : addT l x = l.map (gT x) := by
  induction l with
  | nil => cases hy
  | cons z l ih =>
    obtain ⟨h1, h2⟩ := List.pairwise_cons.1 hs
    unfold addT
    have hltx : ∀ w : GTally, ltT w y = true → w.name ≠ x.name := fun w hw ee => by
      unfold ltT at hw; rw [e, ee, bl_irrefl] at hw; cases hw
    split
    · rename_i hlt
      have hne : z.name ≠ x.name := fun ee => by unfold ltT at hlt; rw [ee, bl_irrefl] at hlt; cases hlt
      have hy' : y ∈ l := by
        rcases List.mem_cons.1 hy with rfl | h
        · exact (hne e).elim
        · exact h
      rw [ih h2 hy', List.map_cons, gT_ne hne]
    · rename_i hlt
      split
      · rename_i he
        have he' : z.name = x.name := by simpa using he
        rw [List.map_cons, show gT x z = upd z x by unfold gT; rw [if_pos he]]
        congr 1
        conv => lhs; rw [← List.map_id l]
        refine List.map_congr_left fun w hw => ?_
        rw [gT_ne]; rfl
        intro ee
        have := h1 w hw
        unfold ltT at this; rw [he', ee, bl_irrefl] at this; cases this
      · rename_i he
        have he' : z.name ≠ x.name := by simpa using he
        rcases List.mem_cons.1 hy with rfl | h
        · exact (he' e).elim
        · have := h1 y h
          unfold ltT at this hlt; rw [e] at this; exact (hlt this).elim
theorem add_new {l : List GTally} {x : GTally} (hs : Strict l) (hn : ∀ y ∈ l, y.name ≠ x.name) : (addT l x).Perm (x :: l) ∧ Strict (addT l x) := by
  induction l with
  | nil => exact ⟨List.Perm.refl _, by simp [addT, Strict]⟩
  | cons z l ih =>
    obtain ⟨h1, h2⟩ := List.pairwise_cons.1 hs
    obtain ⟨p, s⟩ := ih h2 fun y hy => hn y (List.mem_cons_of_mem _ hy)
    unfold addT
    split
    · rename_i hlt
      refine ⟨(p.cons z).trans (List.Perm.swap _ _ _), List.pairwise_cons.2 ⟨fun w hw => ?_, s⟩⟩
      rcases List.mem_cons.1 (p.mem_iff.1 hw) with rfl | h
      · exact hlt
      · exact h1 w h
    · rename_i hlt
      have hne := hn z (List.mem_cons_self ..)
      rw [if_neg (by simpa using hne)]
      refine ⟨List.Perm.refl _, List.pairwise_cons.2 ⟨fun w hw => ?_, hs⟩⟩
      have hxz : ltT x z = true := by
        cases h : ltT x z
        · exact (hne (bl_total (by simpa [ltT] using hlt) h)).elim
        · rfl
      rcases List.mem_cons.1 hw with rfl | h
      · exact hxz
      · exact bl_trans hxz (h1 w h)
theorem add_last {l : List GTally} {x : GTally} (h : ∀ y ∈ l, ltT y x = true) : addT l x = l ++ [x] := by
  induction l with
  | nil => rfl
  | cons y l ih =>
    unfold addT
    rw [if_pos (h y (List.mem_cons_self ..)), ih fun z hz => h z (List.mem_cons_of_mem _ hz)]; rfl

/-! ### a map -/
def putT (m : List (List UInt8 × GTally)) (x : GTally) : List (List UInt8 × GTally) :=
  mput m x.name (GTally.mk x.name (mnI (IntKind.i64.wrap (((mget m x.name).getD (GTally.mk ([]) 0 0)).count + x.count)) 1000000001) (mnI (IntKind.i64.wrap (((mget m x.name).getD (GTally.mk ([]) 0 0)).volume + x.volume)) 1000000000000000001))
theorem mget_cons {T : Type} (p : List UInt8 × T) (m : List (List UInt8 × T)) (k : List UInt8) : mget (p :: m) k = if k == p.1 then some p.2 else mget m k := by
  unfold mget
  rw [List.find?_cons]
  cases k == p.1 <;> rfl
theorem mput_cons {T : Type} (p : List UInt8 × T) (m : List (List UInt8 × T)) (k : List UInt8) (x : T) : mput (p :: m) k x = if k == p.1 then (k, x) :: m else p :: mput m k x := by
  unfold mput
  rw [List.findIdx?_cons]
  cases k == p.1
  · simp only [Bool.false_eq_true, if_false]
    cases m.findIdx? fun p => k == p.1 <;> rfl
  · rfl
theorem mput_new {T : Type} {k : List UInt8} {v : T} : ∀ {m : List (List UInt8 × T)}, (∀ p ∈ m, p.1 ≠ k) → mput m k v = m ++ [(k, v)] ∧ mget m k = none
  | [], _ => ⟨rfl, rfl⟩
  | p :: m, h => by
    have hp : (k == p.1) = false := by
      rw [beq_eq_false_iff_ne]; exact fun e => h p (List.mem_cons_self ..) e.symm
    obtain ⟨e1, e2⟩ := mput_new (v := v) fun q hq => h q (List.mem_cons_of_mem _ hq)
    rw [mput_cons, mget_cons, hp]
    simp [e1, e2]
theorem mput_found {T : Type} {k : List UInt8} {v w : T} : ∀ {m : List (List UInt8 × T)}, (m.map (·.1)).Nodup → (k, w) ∈ m → mput m k v = m.map (fun p => if p.1 == k then (k, v) else p) ∧ mget m k = some w
  | [], _, h => by cases h
  | p :: m, hn, h => by
    rw [List.map_cons, List.nodup_cons] at hn
    rw [mput_cons, mget_cons, List.map_cons]
    by_cases hp : k = p.1
    · subst hp
      have hk : ∀ q ∈ m, q.1 ≠ p.1 := fun q hq e => hn.1 (List.mem_map.2 ⟨q, hq, e⟩)
      have hw : p.2 = w := by
        rcases List.mem_cons.1 h with e | e
        · rw [← e]
        · exact (hk _ e rfl).elim
      simp only [beq_self_eq_true, if_true, hw, and_true]
      congr 1
      conv => lhs; rw [← List.map_id m]
      exact List.map_congr_left fun q hq => by rw [if_neg (by simpa using hk q hq)]; rfl
    · have hp' : (k == p.1) = false := by rw [beq_eq_false_iff_ne]; exact hp
      have hp2 : (p.1 == k) = false := by rw [beq_eq_false_iff_ne]; exact fun e => hp e.symm
      have hm : (k, w) ∈ m := by
        rcases List.mem_cons.1 h with e | e
        · rw [← e] at hp; exact (hp rfl).elim
        · exact e
      obtain ⟨e1, e2⟩ := mput_found (v := v) hn.2 hm
      simp only [hp', hp2, Bool.false_eq_true, if_false, e1, e2, and_self]

structure BkRel (m : List (List UInt8 × GTally)) (l : List GTally) : Prop where
  keys : ∀ p ∈ m, p.1 = p.2.name
  perm : (m.map (·.2)).Perm l
  strict : Strict l
theorem BkRel.names {m : List (List UInt8 × GTally)} {l : List GTally} (h : BkRel m l) : m.map (·.1) = (m.map (·.2)).map (·.name) := by
  rw [List.map_map]; exact List.map_congr_left fun p hp => h.keys p hp
theorem BkRel.nodup {m : List (List UInt8 × GTally)} {l : List GTally} (h : BkRel m l) : ((m.map (·.2)).map (·.name)).Nodup :=
  (h.perm.map _).nodup_iff.2 h.strict.nodup
theorem tOk_iff {x : GTally} (h : tOk x = true) : 1 ≤ x.count ∧ x.count ≤ 1000000000 ∧ 0 ≤ x.volume ∧ x.volume ≤ 1000000000000000000 := by
  simp only [tOk, Bool.and_eq_true, decide_eq_true_eq] at h; omega
theorem mnI_le {x y : Int} (h : x ≤ y) : mnI x y = x := by unfold mnI; rw [if_neg (by omega)]
theorem BkRel.put {m : List (List UInt8 × GTally)} {l : List GTally} {x : GTally} (h : BkRel m l) (hx : tOk x = true) : BkRel (putT m x) (addT l x) := by
  by_cases hf : ∃ y ∈ l, y.name = x.name
  · obtain ⟨y, hy, e⟩ := hf
    obtain ⟨p, hp, hp2⟩ := List.mem_map.1 (h.perm.mem_iff.2 hy)
    have hp1 : p = (x.name, y) := by
      have := h.keys p hp
      rw [hp2, e] at this
      exact Prod.ext this hp2
    subst hp1
    obtain ⟨e1, e2⟩ := mput_found (v := upd y x) (by rw [h.names]; exact h.nodup) hp
    have ep : putT m x = m.map (fun p => if p.1 == x.name then (x.name, upd y x) else p) := by
      unfold putT
      rw [e2]
      simp only [Option.getD_some]
      rw [← e1]
      congr 1
      unfold upd; rw [e]
    have ep2 : (putT m x).map (·.2) = (m.map (·.2)).map (gT x) := by
      rw [ep, List.map_map, List.map_map]
      refine List.map_congr_left fun q hq => ?_
      have hqk := h.keys q hq
      simp only [Function.comp]
      unfold gT
      rw [hqk]
      split
      · rename_i hh
        have hh' : q.2.name = x.name := by simpa using hh
        have : q.2 = y := nodup_inj h.nodup (List.mem_map.2 ⟨q, hq, rfl⟩) (List.mem_map.2 ⟨_, hp, rfl⟩) (by rw [hh', e])
        rw [this]
      · rfl
    refine ⟨fun q hq => ?_, ?_, ?_⟩
    · rw [ep] at hq
      obtain ⟨q0, hq0, rfl⟩ := List.mem_map.1 hq
      split
      · show x.name = (upd y x).name
        rw [← e]; rfl
      · exact h.keys q0 hq0
    · rw [ep2, add_found h.strict hy e]; exact h.perm.map _
    · rw [add_found h.strict hy e]
      refine List.pairwise_map.2 (List.Pairwise.imp (fun {a b} hab => ?_) h.strict)
      unfold ltT; rw [gT_name, gT_name]; exact hab
  · have hn : ∀ y ∈ l, y.name ≠ x.name := fun y hy e => hf ⟨y, hy, e⟩
    obtain ⟨pp, ss⟩ := add_new h.strict hn
    have hk : ∀ p ∈ m, p.1 ≠ x.name := fun p hp e => hn p.2 (h.perm.mem_iff.1 (List.mem_map.2 ⟨p, hp, rfl⟩)) (by rw [← h.keys p hp, e])
    obtain ⟨e1, e2⟩ := mput_new (v := x) hk
    have hb := tOk_iff hx
    have ep : putT m x = m ++ [(x.name, x)] := by
      unfold putT
      rw [e2]
      simp only [Option.getD_none, Int.zero_add]
      rw [← e1]
      congr 1
      rw [wrI (by omega) (by omega), wrI (by omega) (by omega), mnI_le (by omega), mnI_le (by omega)]
    refine ⟨fun q hq => ?_, ?_, ss⟩
    · rw [ep] at hq
      rcases List.mem_append.1 hq with hq | hq
      · exact h.keys q hq
      · simp at hq; subst hq; rfl
    · rw [ep, List.map_append]
      refine (List.perm_append_comm).trans ?_
      exact ((h.perm).cons x).trans pp.symm
theorem BkRel.puts {xs : List GTally} {m : List (List UInt8 × GTally)} {l : List GTally} (h : BkRel m l) (hx : ∀ x ∈ xs, tOk x = true) : BkRel (xs.foldl putT m) (xs.foldl addT l) := by
  induction xs generalizing m l with
  | nil => exact h
  | cons x xs ih => exact ih (h.put (hx x (List.mem_cons_self ..))) fun y hy => hx y (List.mem_cons_of_mem _ hy)
theorem adds_strict : ∀ {xs l : List GTally}, Strict (l ++ xs) → xs.foldl addT l = l ++ xs
  | [], l, _ => by simp
  | x :: xs, l, h => by
    have h1 : ∀ y ∈ l, ltT y x = true := fun y hy => (List.pairwise_append.1 h).2.2 y hy x (List.mem_cons_self ..)
    rw [List.foldl_cons, add_last h1, adds_strict (by rw [List.append_assoc]; exact h), List.append_assoc]; rfl
theorem rel_nil : BkRel [] [] := ⟨fun _ h => (List.not_mem_nil h).elim, List.Perm.refl _, List.Pairwise.nil⟩

def withinV (l : List GTally) : Int := if 200 < l.length then 4 else if l.any bigT then 16 else 0
def linesV (l : List GTally) : List GTally × Int := if withinV l == 0 then (l, 0) else ([], withinV l)
theorem any_perm {p : GTally → Bool} {l m : List GTally} (h : l.Perm m) : l.any p = m.any p := by
  rw [Bool.eq_iff_iff, List.any_eq_true, List.any_eq_true]
  exact ⟨fun ⟨x, hx, hp⟩ => ⟨x, h.mem_iff.1 hx, hp⟩, fun ⟨x, hx, hp⟩ => ⟨x, h.mem_iff.2 hx, hp⟩⟩
theorem BkRel.lines {m : List (List UInt8 × GTally)} {l : List GTally} (h : BkRel m l) : bookLines m = some (linesV l) := by
  have hl : m.length = l.length := by rw [← h.perm.length_eq, List.length_map]
  have ha : (m.any fun p => bigT p.2) = l.any bigT := by
    rw [← any_perm h.perm, List.any_map]; rfl
  have hn : (m.map (·.2.name)).Nodup := by
    have := h.nodup; rw [List.map_map] at this; exact this
  have hs : ((m.map (·.2)).mergeSort fun x y => !(ltT y x)) = l :=
    asc_unique ((List.mergeSort_perm _ _).trans h.perm) (sortT_asc _) h.strict.asc (((List.mergeSort_perm (m.map (·.2)) fun x y => !(ltT y x)).map GTally.name).nodup_iff.2 h.nodup)
  unfold bookLines linesV withinV
  rw [hl, ha, if_pos hn, hs]
  by_cases h1 : 200 < l.length
  · simp [h1]
  · cases h2 : l.any bigT
    · simp [h1]
    · simp [h1]
end Go.Ab
