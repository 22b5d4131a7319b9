/-
  WHAT A LAW IS GIVEN: arguments that read as data are abstract values over a memory in which nothing is owned.
-/
import Derived.Test.YtfhpamcehnfhoaaGreatDoorAbDraw
import Derived.WalkKit
import Derived.ProofKit
import Derived.OpenShut
import Derived.JoinedCond
import Derived.Carry
namespace Go.Ab
open Go
set_option linter.unusedSimpArgs false
set_option linter.unusedVariables false

/-! ### sizes -/
mutual
def bulk {H : Type} : DataW H → Nat
  | .lit (.string bytes) => bytes.length + 1
  | .lit _ => 1
  | .nil => 1
  | .ptr d => bulk d + 1
  | .slice elems spare => bulkAll elems + bulkAll spare + 1
  | .agg parts => bulkAll parts + 1
  | .iface _ d => bulk d + 1
  | .map entries => bulkEntries entries + 1
  | .held _ => 1
def bulkAll {H : Type} : List (DataW H) → Nat
  | [] => 0
  | d :: r => bulk d + bulkAll r
def bulkEntries {H : Type} : List (Lit × DataW H) → Nat
  | [] => 0
  | x :: r => bulkEntry x + bulkEntries r
def bulkEntry {H : Type} : Lit × DataW H → Nat
  | (.string bytes, d) => bytes.length + bulk d + 1
  | (_, d) => bulk d + 1
end

/-! ### what is read over no owned object -/
def g0 : Gh := ⟨fun _ _ => False, fun _ _ => 0, fun _ _ => 0, fun _ _ => 0⟩
def H0 : Heap := ⟨0, [], fun _ _ => none⟩
theorem get0 (l i : Nat) : H0.get l i = none := by unfold Heap.get H0; split <;> simp
theorem own0 (g : Gh) (b : Nat) : ¬ Own g H0 b := fun ⟨l, i, o, h, _⟩ => by rw [get0] at h; cases h
theorem good0 (W : World) (hl : GlobOk W g0 H0) : Good W g0 H0 where
  dom l i o h := by rw [get0] at h; cases h
  lt l i o h := by rw [get0] at h; cases h
  inj l i o l' i' o' h := by rw [get0] at h; cases h
  fresh l i h := h.elim
  obj l i o h := by rw [get0] at h; cases h
  glob := hl
theorem cells_agg (cs : List V) : (V.agg cs).cells = cs := rfl

structure Ty (α : Type) where
  el : α → V
  len : Nat
  size : α → Nat
  wf : α → Prop
  hlen : ∀ x, (el x).cells.length = len

/-- cells from an offset on -/
def RelC (W : World) (cs : List Value) (o : Nat) (vs : List V) : Prop := ∀ (j : Nat) (v : V), vs[j]? = some v → ∃ c, cs[o + j]? = some c ∧ c.oneCell' = true ∧ Rel W g0 H0 v c

structure Reads (P : Program) (n t : Nat) {α : Type} (T : Ty α) : Prop where
  get : ∀ {H : Type} (enc : TypeId × Value → H) (W : World) (cs : List Value) (d : DataW H) (ps : List MemPlace), DataW.trod enc P W 0 (fun _ => true) true n t cs = some (d, ps) →
    ∃ x, cs.length = T.len ∧ RelC W cs 0 (T.el x).cells ∧ T.wf x ∧ T.size x ≤ bulk d

def Ty.int (k : IntKind) : Ty Int := ⟨fun n => .int k n, 1, fun _ => 1, fun n => k.min ≤ n ∧ n ≤ k.max, fun _ => rfl⟩
def Ty.bool : Ty Bool := ⟨fun n => .bool n, 1, fun _ => 1, fun _ => True, fun _ => rfl⟩
def Ty.str : Ty (List UInt8) := ⟨fun n => .str n, 1, fun s => s.length + 1, fun _ => True, fun _ => rfl⟩
def Ty.slice {α : Type} (T : Ty α) : Ty (List α) := ⟨fun xs => .sl T.len (xs.map T.el) false, 1, fun xs => (xs.map T.size).sum + 1, fun xs => ∀ x ∈ xs, T.wf x, fun _ => rfl⟩

variable {P : Program}

theorem relC_one {W : World} {c : Value} {v : V} (h1 : c.oneCell' = true) (h : Rel W g0 H0 v c) (hv : v.cells = [v]) : RelC W [c] 0 v.cells := fun j u hj => by
  rw [hv] at hj
  cases j with
  | zero => simp at hj; subst hj; exact ⟨c, rfl, h1, h⟩
  | succ j => simp at hj


theorem reads_int {t : Nat} {k : IntKind} (ht : P.underlying t = some (.int k)) (n : Nat) : Reads P n t (.int k) := .mk fun enc W cs d ps h => by
  obtain ⟨m, rfl, hx, hw⟩ := DataW.trod_int ht h
  injection hx with h1 h2; subst h1
  exact ⟨m, rfl, relC_one rfl (.int _ _) rfl, by simpa [Ty.int, Lit.wf] using hw, by simp [Ty.int, bulk]⟩
theorem reads_bool {t : Nat} (ht : P.underlying t = some .bool) (n : Nat) : Reads P n t .bool := .mk fun enc W cs d ps h => by
  obtain ⟨m, rfl, hx⟩ := DataW.trod_bool ht h
  injection hx with h1 h2; subst h1
  exact ⟨m, rfl, relC_one rfl (.bool _) rfl, trivial, by simp [Ty.bool, bulk]⟩
theorem reads_str {t : Nat} (ht : P.underlying t = some .string) (n : Nat) : Reads P n t .str := .mk fun enc W cs d ps h => by
  obtain ⟨s, rfl, hx, hw⟩ := DataW.trod_string ht h
  injection hx with h1 h2; subst h1
  exact ⟨s.data.toList, rfl, relC_one rfl (.str _) rfl, trivial, by simp [Ty.str, bulk]⟩

theorem cells_get {W : World} {a : Addr} {n : Nat} {cs : List Value} (h : W.cells? 0 a n = some cs) : cs.length = n ∧ ∀ i, i < n → W.cell? (a.add i) = cs[i]? := by
  unfold World.cells? at h
  rw [if_pos (Nat.zero_le _)] at h
  exact ⟨by simpa using mapM_some_length h, fun i hi => mapM_some_get h i i (by simp [hi])⟩

theorem choose_list {α : Type} {n : Nat} {p : Nat → α → Prop} (h : ∀ i, i < n → ∃ x, p i x) : ∃ xs : List α, xs.length = n ∧ ∀ i x, xs[i]? = some x → p i x := by
  induction n with
  | zero => exact ⟨[], rfl, by simp⟩
  | succ n ih =>
    obtain ⟨xs, h1, h2⟩ := ih fun i hi => h i (by omega)
    obtain ⟨x, hx⟩ := h n (by omega)
    refine ⟨xs ++ [x], by simp [h1], fun i y hy => ?_⟩
    rw [List.getElem?_append] at hy
    split at hy
    · exact h2 i y hy
    · have := (List.getElem?_eq_some_iff.1 hy).1
      simp at this
      have e : i = n := by omega
      subst e; rw [h1] at hy; simp at hy; subst hy; exact hx

theorem bulkAll_sum {H : Type} {α : Type} (f : α → Nat) : ∀ (xs : List α) (ds : List (DataW H)), xs.length = ds.length → (∀ (i : Nat) (x : α) (d : DataW H), xs[i]? = some x → ds[i]? = some d → f x ≤ bulk d) → (xs.map f).sum ≤ bulkAll ds
  | [], ds, _, _ => by simp
  | x :: xs, [], h, _ => by simp at h
  | x :: xs, d :: ds, h, hh => by
    have h1 := hh 0 x d rfl rfl
    have h2 := bulkAll_sum f xs ds (by simpa using h) fun i x d h1 h2 => hh (i + 1) x d (by simpa using h1) (by simpa using h2)
    simp only [List.map_cons, List.sum_cons, bulkAll]; omega

theorem reads_slice {t e : Nat} (ht : P.underlying t = some (.slice e)) {α : Type} {T : Ty α} (hc : P.cellsOf e = T.len) (hz : 0 < T.len) {n : Nat} (he : ∀ m, m < n → Reads P m e T) : Reads P n t T.slice := .mk fun enc W cs d ps h => by
  rcases DataW.trod_slice ht h with ⟨rfl, hx⟩ | ⟨a, len, cap, elems, rest, m, rfl, rfl, hx, _, h1, h2, h3, h4, h5, _⟩
  · injection hx with h1 h2; subst h1
    refine ⟨[], rfl, relC_one rfl (.slnil _ _) rfl, by simp [Ty.slice], by simp [Ty.slice, bulk]⟩
  · injection hx with hx1 hx2; subst hx1
    rw [hc] at h4
    have key : ∀ i, i < len → ∃ x : α, (∀ j v, (T.el x).cells[j]? = some v → ∃ c, W.cell? (a.add (i * T.len + j)) = some c ∧ c.oneCell' = true ∧ Rel W g0 H0 v c) ∧ T.wf x ∧ (∀ d, elems[i]? = some d → T.size x ≤ bulk d.1) ∧ a.spot = none := fun i hi => by
      have h6 := h4 i hi
      have hlt : i < elems.length := by omega
      rw [List.getElem?_eq_getElem hlt, Option.bind_eq_some_iff] at h6
      obtain ⟨cs', q1, q2⟩ := h6
      obtain ⟨k1, k2⟩ := cells_get q1
      obtain ⟨x, x1, x2, x3, x4⟩ := (he m (by omega)).get enc W cs' _ _ q2
      refine ⟨x, fun j v hj => ?_, x3, fun d hd => by rw [List.getElem?_eq_getElem hlt] at hd; injection hd with hd; subst hd; exact x4, ?_⟩
      · obtain ⟨c, c1, c2, c3⟩ := x2 j v hj
        rw [Nat.zero_add] at c1
        refine ⟨c, ?_, c2, c3⟩
        have hj' := (List.getElem?_eq_some_iff.1 c1).1
        rw [← c1, ← k2 j (by omega)]
        unfold Addr.add
        split
        · rename_i h0; have : i * T.len = 0 := by omega
          have : j = 0 := by omega
          simp [*]
        · by_cases hj0 : j = 0
          · subst hj0; rw [if_pos rfl, if_neg (by omega)]; simp
          · rw [if_neg hj0]
            by_cases hi0 : i * T.len = 0
            · simp [hi0]
            · rw [if_neg hi0]; simp [Nat.add_assoc]
      · have h0 := h4 0 (by omega)
        rw [List.getElem?_eq_getElem (show 0 < elems.length by omega), Option.bind_eq_some_iff] at h0
        obtain ⟨cs0, z1, _⟩ := h0
        have z2 := (cells_get z1)
        have z3 := z2.2 0 hz
        have : cs0[0]? = some (cs0[0]'(by omega)) := List.getElem?_eq_getElem _
        rw [this] at z3
        simp only [Nat.zero_mul, Addr.add, if_true] at z3
        unfold World.cell? at z3
        split at z3
        · split at z3
          · cases z3
          · rename_i hs; simpa using hs
        · cases z3
    obtain ⟨xs, hl, hall⟩ := choose_list key
    refine ⟨xs, rfl, ?_, fun x hx => ?_, ?_⟩
    · refine relC_one rfl ?_ rfl
      show Rel W g0 H0 (.sl T.len (xs.map T.el) false) _
      by_cases h0 : len = 0
      · have : xs = [] := List.eq_nil_of_length_eq_zero (by omega)
        subst this; subst h0
        exact .sle _ _ a cap (by simp)
      · have hs : a.spot = none := (hall 0 (xs[0]'(by omega)) (List.getElem?_eq_getElem _)).2.2.2
        have hadd : ∀ k, a.add k = ⟨a.block, a.off + k, none⟩ := fun k => by
          unfold Addr.add
          split
          · rename_i hk; subst hk; cases a; simp at hs; subst hs; rfl
          · rfl
        have ha : a = ⟨a.block, a.off, none⟩ := by cases a; simp at hs; subst hs; rfl
        have hln : len = (xs.map T.el).length := by simp [hl]
        have e1 : ∀ (j : Nat) (x : V) (t : Nat) (v : V), (xs.map T.el)[j]? = some x → x.cells[t]? = some v → ∃ c, W.cell? ⟨a.block, a.off + j * T.len + t, none⟩ = some c ∧ c.oneCell' = true ∧ Rel W g0 H0 v c := fun j x t v hj ht => by
          rw [List.getElem?_map, Option.map_eq_some_iff] at hj
          obtain ⟨y, hy, rfl⟩ := hj
          obtain ⟨c, c1, c2, c3⟩ := (hall j y hy).1 t v ht
          rw [hadd] at c1
          exact ⟨c, by rw [Nat.add_assoc]; exact c1, c2, c3⟩
        rw [ha, hln]
        refine .sl T.len (xs.map T.el) false a.block a.off cap (fun j t => (W.cell? ⟨a.block, a.off + j * T.len + t, none⟩).getD undef) (own0 _ _) hz (by omega) (by simp) (fun j x hj => ?_) (fun j x t v hj ht => ?_) (fun j x t v hj ht => ?_) (fun j x t v hj ht => ?_)
        · rw [List.getElem?_map, Option.map_eq_some_iff] at hj
          obtain ⟨y, hy, rfl⟩ := hj
          exact T.hlen y
        · obtain ⟨c, c1, _, _⟩ := e1 j x t v hj ht; rw [c1]; rfl
        · obtain ⟨c, c1, c2, _⟩ := e1 j x t v hj ht; rw [c1]; exact c2
        · obtain ⟨c, c1, _, c3⟩ := e1 j x t v hj ht; rw [c1]; exact c3
    · obtain ⟨i, hi⟩ := List.mem_iff_getElem?.1 hx
      exact (hall i x hi).2.1
    · have := bulkAll_sum T.size xs (elems.map (·.1)) (by simp; omega) fun i x d hx hd => by
        rw [List.getElem?_map, Option.map_eq_some_iff] at hd
        obtain ⟨y, hy, rfl⟩ := hd
        exact (hall i x hx).2.2.1 y hy
      simp only [Ty.slice, bulk]; omega

/-! ### structs -/
structure ReadsF (P : Program) (n : Nat) (fs : List Field) (o : Nat) {α : Type} (T : Ty α) : Prop where
  get : ∀ {H : Type} (enc : TypeId × Value → H) (W : World) (cs : List Value) (xs : List (DataW H × List MemPlace)), xs.length = fs.length →
    (∀ (i : Nat) (f : Field), fs[i]? = some f → DataW.trod enc P W 0 (fun _ => true) true n f.type ((cs.drop f.offset).take (P.cellsOf f.type)) = xs[i]?) →
    ∃ x, RelC W cs o (T.el x).cells ∧ T.wf x ∧ T.size x ≤ bulkAll (xs.map (·.1))

def Ty.unit : Ty Unit := ⟨fun _ => .agg [], 0, fun _ => 0, fun _ => True, fun _ => rfl⟩
def Ty.pair {α β : Type} (A : Ty α) (B : Ty β) : Ty (α × β) := ⟨fun x => .agg ((A.el x.1).cells ++ (B.el x.2).cells), A.len + B.len, fun x => A.size x.1 + B.size x.2, fun x => A.wf x.1 ∧ B.wf x.2, fun x => by rw [cells_agg, List.length_append, A.hlen, B.hlen]⟩
def Ty.struct {α : Type} (A : Ty α) : Ty α := ⟨fun x => .agg (A.el x).cells, A.len, fun x => A.size x + 1, A.wf, fun x => by rw [cells_agg, A.hlen]⟩

theorem readsF_nil {n o : Nat} : ReadsF P n [] o .unit := .mk fun enc W cs xs h _ => by
  have : xs = [] := List.eq_nil_of_length_eq_zero (by simpa using h)
  subst this
  exact ⟨(), fun j v hj => by simp [Ty.unit, V.cells] at hj, trivial, by simp [Ty.unit]⟩

theorem readsF_cons {n o : Nat} {f : Field} {fs : List Field} {α β : Type} {A : Ty α} {B : Ty β} (ho : f.offset = o) (_hk : P.cellsOf f.type = A.len) (ha : Reads P n f.type A) (hb : ReadsF P n fs (o + A.len) B) : ReadsF P n (f :: fs) o (.pair A B) := .mk fun enc W cs xs h hh => by
  obtain ⟨y, ys, rfl⟩ : ∃ y ys, xs = y :: ys := by
    cases xs with
    | nil => simp at h
    | cons y ys => exact ⟨y, ys, rfl⟩
  obtain ⟨x, x1, x2, x3, x4⟩ := ha.get enc W _ _ _ (hh 0 f rfl)
  obtain ⟨z, z1, z2, z3⟩ := hb.get enc W cs ys (by simpa using h) fun i f hf => by have := hh (i + 1) f (by simpa using hf); simpa using this
  refine ⟨(x, z), fun j v hj => ?_, ⟨x3, z2⟩, by simp only [Ty.pair, List.map_cons, bulkAll]; omega⟩
  rw [show ((Ty.pair A B).el (x, z)).cells = (A.el x).cells ++ (B.el z).cells from rfl, List.getElem?_append] at hj
  split at hj
  · rename_i hlt
    obtain ⟨c, c1, c2, c3⟩ := x2 j v hj
    refine ⟨c, ?_, c2, c3⟩
    rw [Nat.zero_add, List.getElem?_take] at c1
    split at c1
    · rw [List.getElem?_drop, ho] at c1; exact c1
    · cases c1
  · rename_i hge
    obtain ⟨c, c1, c2, c3⟩ := z1 _ v hj
    refine ⟨c, ?_, c2, c3⟩
    rw [A.hlen] at hge c1
    rw [← c1]; congr 1; omega

theorem reads_struct {t : Nat} {fs : Array Field} (ht : P.underlying t = some (.struct fs)) {α : Type} {A : Ty α} (hk : P.cellsOf t = A.len) {n : Nat} (h : ∀ m, m < n → ReadsF P m fs.toList 0 A) : Reads P n t A.struct := .mk fun enc W cs d ps hd => by
  obtain ⟨xs, m, rfl, hx, h1, h2, h3⟩ := DataW.trod_struct ht hd
  injection hx with hx1 hx2; subst hx1
  obtain ⟨x, x1, x2, x3⟩ := (h m (by omega)).get enc W cs xs (by simpa using h2) fun i f hf => h3 i f (by simpa using hf)
  exact ⟨x, by rw [h1, hk]; rfl, x1, x2, by simp only [Ty.struct, bulk]; omega⟩

theorem Reads.conv {n t : Nat} {α β : Type} {A : Ty α} {B : Ty β} (h : Reads P n t A) (g : α → β) (hel : ∀ x, B.el (g x) = A.el x) (hl : B.len = A.len) (hw : ∀ x, A.wf x → B.wf (g x)) (hs : ∀ x, B.size (g x) ≤ A.size x) : Reads P n t B := .mk fun enc W cs d ps hd => by
  obtain ⟨x, x1, x2, x3, x4⟩ := h.get enc W cs d ps hd
  exact ⟨g x, by rw [x1, hl], by rw [hel]; exact x2, hw x x3, Nat.le_trans (hs x) x4⟩

/-! ### arguments -/
structure ArgOf (P : Program) (t : Nat) {α : Type} (T : Ty α) : Prop where
  get : ∀ {H : Type} (enc : TypeId × Value → H) (W : World) (base : Nat) (v : Value) (d : DataW H) (ps : List MemPlace), DataW.Trod enc P W 0 (fun _ => true) true t v d ps → Value.okWide P W .any base t v →
    ∃ x, Rel W g0 H0 (T.el x) v ∧ T.wf x ∧ T.size x ≤ bulk d

theorem no_agg {W : World} {r : Reach} {base t : Nat} {cs : Array Value} (h : Cell.okWide P W r base t (.agg cs)) : False := by
  unfold Cell.okWide at h
  split at h <;> try (simp_all; done)
  unfold Cell.ok at h
  split at h <;> simp_all

theorem arg_leaf {t : Nat} {α : Type} {T : Ty α} (h : ∀ n, Reads P n t T) (hc : ∀ x, (T.el x).cells = [T.el x]) (hnot : (match P.underlying t with | some (.struct _) | some (.array _ _) => false | _ => true) = true) : ArgOf P t T := .mk fun enc W base v d ps hd hv => by
  obtain ⟨fuel, hd⟩ := hd
  obtain ⟨x, x1, x2, x3, x4⟩ := (h fuel).get enc W _ d ps hd
  refine ⟨x, ?_, x3, x4⟩
  have hcell : v.cells = #[v] := by
    unfold Value.okWide at hv
    split at hv
    · simp_all
    · simp_all
    · cases v <;> first | rfl | exact (no_agg hv).elim
  obtain ⟨c, c1, c2, c3⟩ := x2 0 (T.el x) (by rw [hc]; rfl)
  rw [hcell] at c1
  simp at c1
  subst c1; exact c3

theorem arg_struct {t : Nat} {fs : Array Field} {α : Type} {T : Ty α} (ht : P.underlying t = some (.struct fs)) (h : ∀ n, Reads P n t T) (hc : ∀ x, T.el x = .agg (T.el x).cells) : ArgOf P t T := .mk fun enc W base v d ps hd hv => by
  obtain ⟨fuel, hd⟩ := hd
  obtain ⟨x, x1, x2, x3, x4⟩ := (h fuel).get enc W _ d ps hd
  refine ⟨x, ?_, x3, x4⟩
  unfold Value.okWide at hv
  rw [ht] at hv
  obtain ⟨cs, rfl, h1, _⟩ := hv
  rw [hc]
  have hx1 : cs.size = T.len := by simpa [Value.cells] using x1
  have get : ∀ j v, (T.el x).cells[j]? = some v → (cs.getD j undef).oneCell' = true ∧ Rel W g0 H0 v (cs.getD j undef) := fun j v hj => by
    obtain ⟨c, c1, c2, c3⟩ := x2 j v hj
    simp only [Value.cells, Nat.zero_add, Array.getElem?_toList] at c1
    rw [Array.getD_eq_getD_getElem?, c1]; exact ⟨c2, c3⟩
  exact .agg _ _ (by rw [hx1, T.hlen]) (fun j v hj => (get j v hj).1) fun j v hj => (get j v hj).2

/-! ### the law -/
theorem law_post {fn : Func} {s : ChangeSpec} {W W' : World} {args : Array Value} {H : Type} {enc : TypeId × Value → H} {ds gs : List (DataW H)} {before : List MemPlace} {tb : Nat} {fresh handsOn : Bool}
    (hl : laidOutB P = true) (hv : s.vars = []) (hp : ∀ t ∈ fn.params.toList, P.readableRec t = true ∧ t < P.types.size) (hrt : fn.resultTypes = #[tb]) (htb : P.underlying tb = some .bool)
    (hs : (s.fn H ds).results = [.lit (.bool true)] ∧ (s.fn H ds).args = ds ∧ (s.fn H ds).vars = []) (hW : DataW.Whole enc P fn.params.toList s.vars false W args.toList ds gs before) (hg : RowKit.Below W.heap.size W W') :
    s.post enc P fn false fresh handsOn false W args (.bool true) W' := by
  have hW0 := hW
  obtain ⟨p, q, hA, hV, rfl, hfz, hnd⟩ := hW
  rw [hv] at hV
  obtain ⟨rfl, rfl⟩ := ChangeShapes.trodVars_none hV
  have hlt := hW0.lt
  simp only [List.append_nil] at hlt
  have again : ∀ (ts : List Nat) (vs : List Value) (ds : List (DataW H)) (p : List MemPlace), (∀ t ∈ ts, P.readableRec t = true ∧ t < P.types.size) → (∀ x ∈ p, x.block < W.heap.size) → DataW.TrodAll enc P W 0 (fun _ => true) true ts vs ds p →
      DataW.TrodAll enc P W' 0 (fun b => decide (b < W.heap.size)) true ts vs ds p := by
    intro ts
    induction ts with
    | nil => intro vs ds p _ _ h; obtain ⟨rfl, rfl, rfl⟩ := ChangeShapes.trodAll_nil h; exact ChangeShapes.trodAll_mk0
    | cons t ts ih =>
      intro vs ds p h1 h2 h
      obtain ⟨v, vs', d, ds', p', q', rfl, rfl, rfl, k1, k2⟩ := ChangeShapes.trodAll_cons h
      exact trodAll_cons_mk (RowKit.Below.trod hl (h1 t (by simp)).1 (h1 t (by simp)).2 k1 hg fun x hx => h2 x (by simp [hx])) (ih vs' ds' q' (fun t ht => h1 t (by simp [ht])) (fun x hx => h2 x (by simp [hx])) k2)
  refine ⟨ds, [], p ++ [], [], p, [], hW0, ?_, ?_, ?_, ?_, fun h => by cases h⟩
  · rw [List.append_nil, hs.1, hrt]
    have hb : ∀ b, DataW.TrodAll enc P W' b (fun _ => false) handsOn [tb] [.bool true] [.lit (.bool true)] [] := fun b => by
      have := trodAll_cons_mk (P := P) (enc := enc) (w := W') (base := b) (spare := fun _ => false) (held := handsOn) (RowKit.shut_bool htb true) ChangeShapes.trodAll_mk0
      simpa using this
    exact hb _
  · rw [List.append_nil, hs.2.1]
    exact again _ _ _ _ hp hlt hA
  · rw [List.append_nil, hs.2.2, hv]; exact rfl
  · exact hg.frame _

theorem below_of_step {W W' : World} {g g' : Gh} {H' : Heap} (h : Step W g H0 W' g' H') : RowKit.Below W.heap.size W W' :=
  ⟨h.os, h.tape, h.output, h.size, fun k hk => h.block k hk (own0 _ _)⟩

theorem law_calls {f : Nat} {vargs : List V} {H' : Heap} {cargs : Array Value} {W : World} (h : HCall P f vargs H0 (.bool true) H') (hent : ∀ args w, (callFunc f args).run P w = .ok (.enter f args) w) (ha : RelA W g0 H0 vargs cargs) (hl : GlobOk W g0 H0 := by intro k cs h; simp [gl] at h) :
    Calls P f cargs W fun e W' => e = .returned (.bool true) ∧ RowKit.Below W.heap.size W W' := by
  rcases h W g0 cargs (good0 W hl) ha with ⟨_, hc⟩ | ⟨c, W', g', hc, _⟩
  · refine hc.mono fun e W' ⟨c, g', he, hs, _, hr⟩ => ?_
    cases hr
    exact ⟨he, below_of_step hs⟩
  · rw [hent] at hc; cases hc

theorem relA_nil {W : World} {g : Gh} {H : Heap} : RelA W g H [] #[] := ⟨rfl, by simp⟩
theorem relA_of {W : World} {g : Gh} {H : Heap} {vs : List V} {cs : List Value} (h : cs.length = vs.length) (hh : ∀ (j : Nat) (v : V), vs[j]? = some v → ∃ c, cs[j]? = some c ∧ Rel W g H v c) : RelA W g H vs cs.toArray :=
  ⟨by simpa using h, fun j v hj => by obtain ⟨c, c1, c2⟩ := hh j v hj; rw [Array.getD_eq_getD_getElem?]; simpa [c1] using c2⟩

end Go.Ab
