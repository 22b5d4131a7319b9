import Derived.Test.YtfhpamcehnfhoaaGreatDoorAbPure4
namespace Go.Ab
open Go
set_option linter.unusedSimpArgs false
set_option linter.unusedVariables false
section
variable {W : World} {g : Gh} {H : Heap} {P : Program}

/-! ### maps: a look-up -/

def sameV (d : TypeDesc) (x y : V) : Option Bool :=
  match x, y with
  | .int k a, .int k' b => match d with | .int _ => if k = k' then some (a == b) else none | _ => none
  | .str a, .str b => match d with | .string => some (a == b) | _ => none
  | .bool a, .bool b => match d with | .bool => some (a == b) | _ => none
  | _, _ => none

/-- the place and the value of a key -/
def findV (d : TypeDesc) (k : V) : List (V × V) → Nat → Option (Option (Nat × V))
  | [], _ => some none
  | e :: es, i => match sameV d k e.1 with
    | some b => if b then some (some (i, e.2)) else findV d k es (i + 1)
    | none => none

theorem sameV_sound {d : TypeDesc} {x y : V} {a b : Value} {r : Bool} (h : sameV d x y = some r) (hx : Rel W g H x a) (hy : Rel W g H y b) : Instr.sameNow d a b = some r := by
  unfold sameV at h
  split at h
  · cases hx; cases hy
    split at h
    · simpa [Instr.sameNow] using h
    · cases h
  · cases hx; cases hy
    split at h
    · injection h with h; subst h
      simp only [Instr.sameNow, Option.some.injEq]
      show ((⟨_⟩ : ByteArray) == ⟨_⟩) = _
      rw [beq_toListBytes]; simp
    · cases h
  · cases hx; cases hy
    split at h
    · simpa [Instr.sameNow] using h
    · cases h
  · cases h

theorem findV_sound {d : TypeDesc} {k : V} {ck : Value} (hk : Rel W g H k ck) : ∀ (es : List (V × V)) (en : List MapEntry) (i : Nat) (r : Option (Nat × V)), findV d k es i = some r → en.length = es.length →
    (∀ (j : Nat) (p : V × V), es[j]? = some p → ∃ e, en[j]? = some e ∧ Rel W g H p.1 e.key ∧ Rel W g H p.2 e.val) →
    match r with
    | none => Instr.findNow d ck en i = some none
    | some (j, v) => ∃ e, Instr.findNow d ck en i = some (some (j, e.val)) ∧ Rel W g H v e.val ∧ i ≤ j ∧ en[j - i]? = some e ∧ ∃ p, es[j - i]? = some p ∧ sameV d k p.1 = some true
  | [], en, i, r, h, hl, _ => by
    simp only [findV, Option.some.injEq] at h; subst h
    cases en with
    | nil => rfl
    | cons => simp at hl
  | e :: es, en, i, r, h, hl, hr => by
    cases en with
    | nil => simp at hl
    | cons f en =>
      obtain ⟨f', hf, h1, h2⟩ := hr 0 e rfl
      simp only [List.getElem?_cons_zero, Option.some.injEq] at hf; subst hf
      simp only [findV] at h
      split at h
      · rename_i b hb
        have hs := sameV_sound hb hk h1
        split at h
        · rename_i hbt; subst hbt
          simp only [Option.some.injEq] at h; subst h
          exact ⟨f, by simp [Instr.findNow, hs], h2, Nat.le_refl _, by simp, e, by simp, hb⟩
        · rename_i hbt
          have hbf : b = false := by simpa using hbt
          subst hbf
          have ih := findV_sound hk es en (i + 1) r h (by simpa using hl) (fun j p hj => by simpa using hr (j + 1) p (by simpa using hj))
          cases r with
          | none => simp only at ih ⊢; simp [Instr.findNow, hs, ih]
          | some q =>
            obtain ⟨j, v⟩ := q
            simp only at ih ⊢
            obtain ⟨e', k1, k2, k3, k4, p, k5, k6⟩ := ih
            refine ⟨e', by simp [Instr.findNow, hs, k1], k2, by omega, ?_, p, ?_, k6⟩
            · rw [show j - i = (j - (i + 1)) + 1 by omega]; simpa using k4
            · rw [show j - i = (j - (i + 1)) + 1 by omega]; simpa using k5
      · cases h

def zeroV (P : Program) (t : Nat) : Option V := ((P.info? t).bind (·.zero)).map ofConst

theorem run_zero {t : Nat} {v : V} (h : zeroV P t = some v) : ∃ z, (zeroValue t).run P W = .ok z W ∧ Rel W g H v z := by
  simp only [zeroV, Option.map_eq_some_iff, Option.bind_eq_some_iff] at h
  obtain ⟨z, ⟨i, hi, hz⟩, rfl⟩ := h
  exact ⟨z, by simp [zeroValue, typeInfo, hi, hz], rel_ofConst z⟩

def keyKind (P : Program) (k : Nat) (x : V) : Option TypeDesc :=
  match P.underlying k, x with
  | some (.int q), .int _ _ => some (.int q)
  | some .string, .str _ => some .string
  | some .bool, .bool _ => some .bool
  | _, _ => none

theorem keyKind_spec {k : Nat} {x : V} {d : TypeDesc} {c : Value} (h : keyKind P k x = some d) (hx : Rel W g H x c) : P.underlying k = some d ∧ ∀ e n, (Instr.checkKey e (n + 1) k c).run P W = .ok () W := by
  unfold keyKind at h
  split at h
  · rename_i hu; injection h with h; subst h; cases hx; exact ⟨hu, fun e n => by simp [Instr.checkKey, run_underlying' hu]⟩
  · rename_i hu; injection h with h; subst h; cases hx; exact ⟨hu, fun e n => by simp [Instr.checkKey, run_underlying' hu]⟩
  · rename_i hu; injection h with h; subst h; cases hx; exact ⟨hu, fun e n => by simp [Instr.checkKey, run_underlying' hu]⟩
  · cases h

def mapEs (H : Heap) : V → Option (List (V × V))
  | .mapn => some []
  | .map l i => match H.get l i with
    | some (.map es) => some es
    | _ => none
  | _ => none

def pLookup (P : Program) (H : Heap) (t : Nat) (x k : V) (ok : Bool) : Option V :=
  match P.underlying t with
  | some (.map kt e) => match mapEs H x, keyKind P kt k, zeroV P e with
    | some es, some d, some z => match findV d k es 0 with
      | some r => some (match r with
        | some p => if ok then .tup [p.2, .bool true] else p.2
        | none => if ok then .tup [z, .bool false] else z)
      | none => none
    | _, _, _ => none
  | _ => none

theorem rel_tup2 {a b : V} {x y : Value} (h1 : Rel W g H a x) (h2 : Rel W g H b y) : Rel W g H (.tup [a, b]) (.tuple #[x, y]) :=
  .tup _ _ rfl fun j v hj => by
    match j with
    | 0 => simp at hj; subst hj; exact h1
    | 1 => simp at hj; subst hj; exact h2
    | n + 2 => simp at hj

theorem sound_lookup (hG : Good W g H) {t : Nat} {x k v : V} {ok : Bool} {c ck : Value} (h : pLookup P H t x k ok = some v) (hx : Rel W g H x c) (hk : Rel W g H k ck) : Yields P W g H (Instr.lookup t c ck ok) v := by
  unfold pLookup at h
  split at h
  · rename_i kt e hu
    split at h
    · rename_i es d z hes hkk hz
      split at h
      · rename_i r hf
        injection h with h
        obtain ⟨zc, hz1, hz2⟩ := run_zero (W := W) (g := g) (H := H) hz
        obtain ⟨hku, hck⟩ := keyKind_spec hkk hk
        have fin : ∀ (en : List MapEntry), en.length = es.length → (∀ (j : Nat) (p : V × V), es[j]? = some p → ∃ e, en[j]? = some e ∧ Rel W g H p.1 e.key ∧ Rel W g H p.2 e.val) →
            ∃ R, Instr.findNow d ck en 0 = some R ∧ Rel W g H v (match R with | some (_, u) => if ok then .tuple #[u, .bool true] else u | none => if ok then .tuple #[zc, .bool false] else zc) := fun en hn hrel => by
          have hfs := findV_sound (d := d) hk es en 0 r hf hn hrel
          cases r with
          | none =>
            refine ⟨none, hfs, ?_⟩
            subst h
            cases ok
            · exact hz2
            · exact rel_tup2 hz2 (.bool false)
          | some p =>
            obtain ⟨j, u⟩ := p
            obtain ⟨e', k1, k2, _⟩ := hfs
            refine ⟨some (j, e'.val), k1, ?_⟩
            subst h
            cases ok
            · exact k2
            · exact rel_tup2 k2 (.bool true)
        unfold mapEs at hes
        split at hes
        · injection hes with hes; subst hes; cases hx
          obtain ⟨R, hR, hrel⟩ := fin [] rfl (by simp)
          refine .same ?_ hrel
          have hfk := MapKept.run_findKey (P := P) (w := W) (l := []) hku hR
          cases R <;> simp [Instr.lookup, run_underlying' hu, hck, hfk, hz1] <;> cases ok <;> rfl
        · split at hes
          · rename_i l i es' hg
            injection hes with hes; subst hes; cases hx
            obtain ⟨en, clock, h1, h2, _, _, h5⟩ := hG.obj _ _ _ hg
            obtain ⟨R, hR, hrel⟩ := fin en.toList (by simpa using h2) (fun j p hj => by simpa using h5 j p hj)
            refine .same ?_ hrel
            have hfk := MapKept.run_findKey (P := P) (w := W) (l := en.toList) hku hR
            have hgo := run_getObj_map (P := P) W _ _ _ h1
            cases R <;> simp [Instr.lookup, run_underlying' hu, hck, hfk, hz1, hgo] <;> cases ok <;> rfl
          · cases hes
        · cases hes
      · cases h
    · cases h
  · cases h

/-! ### interfaces, functions -/

def pMakeInterface (P : Program) (t : Nat) (x : V) : Option V := if P.concrete t then some (.iface t x) else none

theorem sound_makeInterface {t : Nat} {x v : V} {c : Value} (h : pMakeInterface P t x = some v) (hx : Rel W g H x c) : Yields P W g H (Instr.makeInterface t c) v := by
  unfold pMakeInterface at h
  split at h
  · rename_i hc; injection h with h; subst h
    exact .same (run_makeInterface W t c hc) (.iface _ _ _ hx)
  · cases h

def pTypeAssert (P : Program) (x : V) (asserted : Nat) (ok : Bool) : Option V :=
  match P.underlying asserted, x with
  | some (.interface _), _ => none
  | some _, .iface t v => if t = asserted then some (if ok then .tup [v, .bool true] else v) else none
  | _, _ => none

theorem sound_typeAssert {t u : Nat} {x v : V} {ok : Bool} {c : Value} (h : pTypeAssert P x u ok = some v) (hx : Rel W g H x c) : Yields P W g H (Instr.typeAssert c t u ok) v := by
  unfold pTypeAssert at h
  split at h
  · cases h
  · rename_i d t' v' hd hu
    split at h
    · rename_i ht; subst ht; injection h with h; subst h
      cases hx with
      | iface _ _ cv hv =>
        refine .same (c := if ok then .tuple #[cv, .bool true] else cv) ?_ ?_
        · cases d <;> first | (exact (hd _ rfl).elim) | (simp [Instr.typeAssert, run_underlying' hu])
        · cases ok
          · exact hv
          · exact rel_tup2 hv (.bool true)
    · cases h
  · cases h

def pConvert (P : Program) (s d : Nat) (x : V) : Option V :=
  match x with
  | .int _ n => match P.underlying s, P.underlying d with
    | some _, some (.int k) => some (.int k (k.wrap n))
    | _, _ => none
  | .str a => match P.underlying s, P.underlying d with
    | some _, some .string => some (.str a)
    | _, _ => none
  | _ => none

theorem sound_convert {s d : Nat} {x v : V} {c : Value} (h : pConvert P s d x = some v) (hx : Rel W g H x c) : Yields P W g H (convert s d c) v := by
  unfold pConvert at h
  split at h
  · split at h
    · rename_i hs hd; injection h with h; subst h; cases hx
      exact .same (by simp [convert, run_underlying' hs, run_underlying' hd, Conv.intToInt]) (.int _ _)
    · cases h
  · split at h
    · rename_i hs hd; injection h with h; subst h; cases hx
      exact .same (by simp [convert, run_underlying' hs, run_underlying' hd]) (.str _)
    · cases h
  · cases h

/-- the greater, the less -/
def mxI (x y : Int) : Int := if y > x then y else x
def mnI (x y : Int) : Int := if y < x then y else x
def pMinMax (max : Bool) : List V → Option V
  | [.int k x, .int _ y] => some (.int k (match max with | true => mxI x y | false => mnI x y))
  | [.int k x, .int _ y, .int _ z] => some (.int k (match max with | true => mxI (mxI x y) z | false => mnI (mnI x y) z))
  | _ => none

theorem sound_min {xs : List V} {v : V} {cs : Array Value} {t : Array TypeId} {ty : TypeId} (h : pMinMax false xs = some v) (hn : cs.size = xs.length) (hr : ∀ j x, xs[j]? = some x → Rel W g H x (cs.getD j undef)) : Yields P W g H (Builtin.min_ t ty cs) v := by
  unfold pMinMax at h
  split at h
  · rename_i k x k' y
    injection h with h; subst h
    obtain ⟨a, b, rfl⟩ : ∃ a b, cs = #[a, b] := by
      cases cs with | mk l => match l, hn with | [a, b], _ => exact ⟨a, b, rfl⟩
    have h0 : Rel W g H (.int k x) a := hr 0 _ rfl
    have h1 : Rel W g H (.int k' y) b := hr 1 _ rfl
    cases h0; cases h1
    exact .same (by simp [Builtin.min_, Builtin.min2, mnI]) (.int _ _)
  · rename_i k x k' y k'' z
    injection h with h; subst h
    obtain ⟨a, b, c, rfl⟩ : ∃ a b c, cs = #[a, b, c] := by
      cases cs with | mk l => match l, hn with | [a, b, c], _ => exact ⟨a, b, c, rfl⟩
    have h0 : Rel W g H (.int k x) a := hr 0 _ rfl
    have h1 : Rel W g H (.int k' y) b := hr 1 _ rfl
    have h2 : Rel W g H (.int k'' z) c := hr 2 _ rfl
    cases h0; cases h1; cases h2
    exact .same (by simp [Builtin.min_, Builtin.min2, mnI] <;> (repeat' split) <;> rfl) (.int _ _)
  · cases h

theorem sound_max {xs : List V} {v : V} {cs : Array Value} {t : Array TypeId} {ty : TypeId} (h : pMinMax true xs = some v) (hn : cs.size = xs.length) (hr : ∀ j x, xs[j]? = some x → Rel W g H x (cs.getD j undef)) : Yields P W g H (Builtin.max_ t ty cs) v := by
  unfold pMinMax at h
  split at h
  · rename_i k x k' y
    injection h with h; subst h
    obtain ⟨a, b, rfl⟩ : ∃ a b, cs = #[a, b] := by
      cases cs with | mk l => match l, hn with | [a, b], _ => exact ⟨a, b, rfl⟩
    have h0 : Rel W g H (.int k x) a := hr 0 _ rfl
    have h1 : Rel W g H (.int k' y) b := hr 1 _ rfl
    cases h0; cases h1
    exact .same (by simp [Builtin.max_, Builtin.max2, mxI]) (.int _ _)
  · rename_i k x k' y k'' z
    injection h with h; subst h
    obtain ⟨a, b, c, rfl⟩ : ∃ a b c, cs = #[a, b, c] := by
      cases cs with | mk l => match l, hn with | [a, b, c], _ => exact ⟨a, b, c, rfl⟩
    have h0 : Rel W g H (.int k x) a := hr 0 _ rfl
    have h1 : Rel W g H (.int k' y) b := hr 1 _ rfl
    have h2 : Rel W g H (.int k'' z) c := hr 2 _ rfl
    cases h0; cases h1; cases h2
    exact .same (by simp [Builtin.max_, Builtin.max2, mxI] <;> (repeat' split) <;> rfl) (.int _ _)
  · cases h

end
end Go.Ab
