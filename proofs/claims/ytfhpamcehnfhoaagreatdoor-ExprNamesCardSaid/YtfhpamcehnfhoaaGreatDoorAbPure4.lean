import Derived.Test.YtfhpamcehnfhoaaGreatDoorAbPure3
namespace Go.Ab
open Go
set_option linter.unusedSimpArgs false
set_option linter.unusedVariables false
section
variable {W : World} {g : Gh} {H : Heap} {P : Program}

def pUn (op : UnOp) (x : V) : Option V :=
  match op, x with
  | .neg, .int k n => some (.int k (k.wrap (0 - n)))
  | .not, .bool b => some (.bool (!b))
  | .xor, .int k n => some (.int k (bits .xor k (if k.signed then -1 else k.max) n))
  | _, _ => none

theorem sound_un {op : UnOp} {x v : V} {c : Value} (h : pUn op x = some v) (hx : Rel W g H x c) : Yields P W g H (Op.unary op c) v := by
  unfold pUn at h
  split at h
  · injection h with h; subst h; cases hx; exact .same rfl (.int _ _)
  · injection h with h; subst h; cases hx; exact .same rfl (.bool _)
  · injection h with h; subst h; cases hx; exact .same rfl (.int _ _)
  · cases h

def pLen (P : Program) (H : Heap) (t : Nat) (x : V) : Option V :=
  match x with
  | .str s => match P.underlying t with | some .string => some (.int .i64 s.length) | _ => none
  | .nils => match P.underlying t with | some (.slice _) => some (.int .i64 0) | _ => none
  | .sl _ xs _ => match P.underlying t with | some (.slice _) => some (.int .i64 xs.length) | _ => none
  | .hs l i ver _ n _ => match P.underlying t with
    | some (.slice _) => match H.get l i with | some (.arr ver' _ _ _ _) => if ver' = ver then some (.int .i64 n) else none | _ => none
    | _ => none
  | .mapn => match P.underlying t with | some (.map _ _) => some (.int .i64 0) | _ => none
  | .map l i => match P.underlying t with
    | some (.map _ _) => match H.get l i with | some (.map es) => some (.int .i64 es.length) | _ => none
    | _ => none
  | .agg _ => match P.underlying t with | some (.array n _) => some (.int .i64 n) | _ => none
  | _ => none

theorem sound_len (hG : Good W g H) {t ty : Nat} {x v : V} {c : Value} (h : pLen P H t x = some v) (hx : Rel W g H x c) : Yields P W g H (Builtin.len_ #[t] ty #[c]) v := by
  unfold pLen at h
  split at h
  · split at h
    · rename_i hu; injection h with h; subst h; cases hx
      exact .same (by rw [run_len_string (P := P) W t ty _ hu]; simp [goInt, ByteArray.size]) (.int _ _)
    · cases h
  · split at h
    · rename_i hu; injection h with h; subst h; cases hx
      exact .same (by simp [Builtin.len_, run_underlying' hu, goInt]) (.int _ _)
    · cases h
  · split at h
    · rename_i hu; injection h with h; subst h
      cases hx <;> exact .same (by simp [Builtin.len_, run_underlying' hu, goInt]) (.int _ _)
    · cases h
  · split at h
    · rename_i hu
      split at h
      · rename_i hg
        split at h
        · rename_i hv; subst hv; injection h with h; subst h
          cases hx with
          | hs _ _ _ _ _ _ a m cap hd hv ha =>
            obtain ⟨_, rfl, _⟩ := ha _ _ _ _ hg
            exact .same (by simp [Builtin.len_, run_underlying' hu, goInt]) (.int _ _)
        · cases h
      · cases h
    · cases h
  · split at h
    · rename_i hu; injection h with h; subst h; cases hx
      exact .same (by simp [Builtin.len_, run_underlying' hu, goInt]) (.int _ _)
    · cases h
  · split at h
    · rename_i hu
      split at h
      · rename_i es hg
        injection h with h; subst h
        cases hx
        obtain ⟨en, clock, h1, h2, _⟩ := hG.obj _ _ _ hg
        exact .same (c := .int .i64 en.size) (by simp [Builtin.len_, run_underlying' hu, goInt, run_getObj_map W _ _ _ h1]) (by rw [h2]; exact .int _ _)
      · cases h
    · cases h
  · split at h
    · rename_i hu; injection h with h; subst h; cases hx
      exact .same (by simp [Builtin.len_, run_underlying' hu, goInt]) (.int _ _)
    · cases h
  · cases h

/-! ### slice expressions -/

/-- one bound: at most y; the default if it is not given -/
def bnd (y d : Nat) : Option V → Option Nat
  | none => some d
  | some (.int _ x) => if 0 ≤ x ∧ x ≤ y then some x.toNat else none
  | _ => none

/-- the two or three bounds, of a value of length n whose capacity is at least n -/
def bounds3 (n : Nat) (lo hi mx : Option V) : Option (Nat × Nat × Option Nat) :=
  match mx with
  | none => (bnd n n hi).bind fun h => (bnd h 0 lo).bind fun l => some (l, h, none)
  | some m => (bnd n n (some m)).bind fun m => match hi with
    | none => none
    | some h => (bnd m n (some h)).bind fun h => (bnd h 0 lo).bind fun l => some (l, h, some m)

inductive ORel? (W : World) (g : Gh) (H : Heap) : Option V → Option Value → Prop where
  | none : ORel? W g H none none
  | some {v : V} {c : Value} (h : Rel W g H v c) : ORel? W g H (some v) (some c)

theorem run_bnd {y d Y : Nat} {v : V} {c : Value} {r : Nat} {code : BoundsCode} (hY : y ≤ Y) (h : bnd y d (some v) = some r) (hr : Rel W g H v c) : (Instr.sliceBound c Y code).run P W = .ok r W ∧ r ≤ y := by
  unfold bnd at h
  split at h
  · rename_i heq; cases heq
  · rename_i heq; cases heq
    split at h
    · rename_i hb
      injection h with h; subst h
      cases hr
      refine ⟨run_sliceBound W _ _ _ _ hb.1 (by omega), by omega⟩
    · cases h
  · cases h

theorem run_bounds {n cap : Nat} {lo hi mx : Option V} {clo chi cmx : Option Value} {r : Nat × Nat × Option Nat} (b : Bool) (hn : n ≤ cap) (h : bounds3 n lo hi mx = some r) (h1 : ORel? W g H lo clo) (h2 : ORel? W g H hi chi) (h3 : ORel? W g H mx cmx) :
    (Instr.sliceBounds b n cap clo chi cmx).run P W = .ok (r.1, r.2.1, r.2.2.getD cap) W ∧ r.1 ≤ r.2.1 ∧ r.2.1 ≤ n ∧ (∀ m, r.2.2 = some m → r.2.1 ≤ m ∧ m ≤ n) := by
  unfold bounds3 at h
  cases h3 with
  | none =>
    simp only [Option.bind_eq_some_iff] at h
    obtain ⟨h', hh, l, hl, heq⟩ := h
    injection heq with heq; subst heq
    cases h2 with
    | none =>
      simp only [bnd, Option.some.injEq] at hh; subst hh
      cases h1 with
      | none => simp only [bnd, Option.some.injEq] at hl; subst hl; simp [Instr.sliceBounds]
      | some k1 =>
        obtain ⟨e1, e2⟩ := run_bnd (P := P) (code := .sliceB) (Nat.le_refl _) hl k1
        simp [Instr.sliceBounds, e1, e2]
    | some k2 =>
      obtain ⟨f1, f2⟩ := run_bnd (P := P) (code := if b then .sliceAcap else .sliceAlen) hn hh k2
      cases h1 with
      | none => simp only [bnd, Option.some.injEq] at hl; subst hl; simp [Instr.sliceBounds, f1, f2]
      | some k1 =>
        obtain ⟨e1, e2⟩ := run_bnd (P := P) (code := .sliceB) (Nat.le_refl _) hl k1
        simp [Instr.sliceBounds, e1, e2, f1, f2]
  | some k3 =>
    simp only [Option.bind_eq_some_iff] at h
    obtain ⟨m, hm, h⟩ := h
    obtain ⟨m1, m2⟩ := run_bnd (P := P) (code := if b then .slice3Acap else .slice3Alen) hn hm k3
    cases h2 with
    | none => cases h
    | some k2 =>
      simp only [Option.bind_eq_some_iff] at h
      obtain ⟨h', hh, l, hl, heq⟩ := h
      injection heq with heq; subst heq
      obtain ⟨f1, f2⟩ := run_bnd (P := P) (code := .slice3B) (Nat.le_refl _) hh k2
      cases h1 with
      | none => simp only [bnd, Option.some.injEq] at hl; subst hl; simp [Instr.sliceBounds, f1, f2, m1, m2]; omega
      | some k1 =>
        obtain ⟨e1, e2⟩ := run_bnd (P := P) (code := .slice3C) (Nat.le_refl _) hl k1
        simp [Instr.sliceBounds, e1, e2, f1, f2, m1, m2]; omega

def pSlice (P : Program) (H : Heap) (t : Nat) (x : V) (lo hi mx : Option V) : Option V :=
  match x with
  | .str s => match P.underlying t, mx with
    | some .string, none => (bounds3 s.length lo hi none).map fun r => .str ((s.take r.2.1).drop r.1)
    | _, _ => none
  | .nils => match P.underlying t with
    | some (.slice e) => if (P.underlying e).isSome then (bounds3 0 lo hi mx).map fun _ => .nils else none
    | _ => none
  | .sl sz xs full => match P.underlying t with
    | some (.slice e) => if sz = P.cellsOf e ∧ (P.underlying e).isSome then (bounds3 xs.length lo hi mx).map fun r =>
        .sl sz ((xs.take r.2.1).drop r.1) (match r.2.2 with | some m => m == r.2.1 | none => full && r.2.1 == xs.length)
      else none
    | _ => none
  | .hs l i ver off n full => match P.underlying t with
    | some (.slice e) => match H.get l i with
      | some (.arr ver' _ sz _ _) => if ver' = ver ∧ sz = P.cellsOf e ∧ (P.underlying e).isSome then (bounds3 n lo hi mx).bind fun r =>
          if r.1 = 0 ∨ r.1 < r.2.1 then some (.hs l i ver (off + r.1) (r.2.1 - r.1) (match r.2.2 with | some m => m == r.2.1 | none => full && r.2.1 == n)) else some (.sl sz [] false)
        else none
      | _ => none
    | _ => none
  | _ => none

theorem extract_str (s : List UInt8) (l h : Nat) : (⟨s.toArray⟩ : ByteArray).extract l h = ⟨((s.take h).drop l).toArray⟩ := by
  apply ByteArray.ext
  rw [ByteArray.data_extract]
  apply Array.ext'
  simp [List.drop_take]

theorem orel_of {ρ : Operand → V} {r : Operand → Value} (hρ : ∀ x, Rel W g H (ρ x) (r x)) (o : Option Operand) : ORel? W g H (o.map ρ) (o.map r) := by
  cases o with
  | none => exact .none
  | some x => exact .some (hρ x)

theorem drop_take_get {xs : List V} {l h j : Nat} {x : V} (hj : ((xs.take h).drop l)[j]? = some x) : xs[l + j]? = some x ∧ l + j < h := by
  rw [List.getElem?_drop, List.getElem?_take] at hj
  split at hj
  · exact ⟨hj, by assumption⟩
  · cases hj

theorem sound_slice (hG : Good W g H) {t : Nat} {x v : V} {lo hi mx : Option V} {c : Value} {clo chi cmx : Option Value} (h : pSlice P H t x lo hi mx = some v) (hx : Rel W g H x c)
    (h1 : ORel? W g H lo clo) (h2 : ORel? W g H hi chi) (h3 : ORel? W g H mx cmx) : Yields P W g H (Instr.sliceAt t c clo chi cmx) v := by
  unfold pSlice at h
  split at h
  · rename_i s
    split at h
    · rename_i hu
      simp only [Option.map_eq_some_iff] at h
      obtain ⟨r, hr, rfl⟩ := h
      cases hx
      cases h3
      obtain ⟨e1, e2, e3, _⟩ := run_bounds (P := P) false (Nat.le_refl _) hr h1 h2 .none
      refine .same (c := .string ((⟨s.toArray⟩ : ByteArray).extract r.1 r.2.1)) ?_ ?_
      · rw [run_sliceAt_string W t _ _ _ _ hu]
        have hs : (⟨s.toArray⟩ : ByteArray).size = s.length := by simp [ByteArray.size]
        simp [Instr.slice, run_underlying' hu, hs, e1]
      · rw [extract_str]; exact .str _
    · cases h
  · split at h
    · rename_i e hu
      split at h
      · rename_i he
        obtain ⟨d, hd⟩ := Option.isSome_iff_exists.1 he
        simp only [Option.map_eq_some_iff] at h
        obtain ⟨r, hr, rfl⟩ := h
        cases hx
        obtain ⟨e1, e2, e3, e4⟩ := run_bounds (P := P) true (Nat.le_refl 0) hr h1 h2 h3
        refine .same (c := .slice none 0 0) ?_ .nils
        have hel : P.elem t = e := by simp [Program.elem, hu]
        rw [run_sliceAt_slice W t _ _ _ _ (by rw [hel]; exact hu)]
        have k1 : r.1 = 0 := by omega
        have k2 : r.2.1 = 0 := by omega
        have k3 : r.2.2.getD 0 = 0 := by
          cases hm : r.2.2 with
          | none => rfl
          | some m => have := e4 m hm; simp; omega
        simp [Instr.slice, run_underlying' hu, e1, run_sizeOf' hd, k1, k2, k3]
      · cases h
    · cases h
  · rename_i sz xs full
    split at h
    · rename_i e hu
      split at h
      · rename_i hc
        obtain ⟨rfl, he⟩ := hc
        obtain ⟨d, hd⟩ := Option.isSome_iff_exists.1 he
        simp only [Option.map_eq_some_iff] at h
        obtain ⟨r, hr, rfl⟩ := h
        have hel : P.elem t = e := by simp [Program.elem, hu]
        have hrun : ∀ (a : Option Addr) (cap : Nat), xs.length ≤ cap → (Instr.sliceAt t (.slice a xs.length cap) clo chi cmx).run P W =
            .ok (.slice (if r.2.2.getD cap = r.1 then a else a.map (·.add (r.1 * P.cellsOf e))) (r.2.1 - r.1) (r.2.2.getD cap - r.1)) W := fun a cap hcap => by
          obtain ⟨e1, e2, e3, _⟩ := run_bounds (P := P) true hcap hr h1 h2 h3
          rw [run_sliceAt_slice W t _ _ _ _ (by rw [hel]; exact hu)]
          simp [Instr.slice, run_underlying' hu, e1, run_sizeOf' hd]
        have hb : ∀ cap, xs.length ≤ cap → r.1 ≤ r.2.1 ∧ r.2.1 ≤ xs.length ∧ (∀ m, r.2.2 = some m → r.2.1 ≤ m ∧ m ≤ xs.length) := fun cap hcap => (run_bounds (P := P) true hcap hr h1 h2 h3).2
        have hlen : ((xs.take r.2.1).drop r.1).length = r.2.1 - r.1 := by
          obtain ⟨b1, b2, _⟩ := hb _ (Nat.le_refl _)
          simp; omega
        have hfull : ∀ cap, xs.length ≤ cap → (full = true → cap = xs.length) → (match r.2.2 with | some m => m == r.2.1 | none => full && r.2.1 == xs.length) = true → r.2.2.getD cap - r.1 = r.2.1 - r.1 := fun cap hcap hf hm => by
          cases hm2 : r.2.2 with
          | none =>
            simp only [hm2, Bool.and_eq_true, beq_iff_eq] at hm
            have := hf hm.1
            simp; omega
          | some m =>
            simp only [hm2, beq_iff_eq] at hm
            simp; omega
        -- an empty result
        have hempty : ∀ (a : Option Addr) (cap : Nat), xs.length ≤ cap → (full = true → cap = xs.length) → (a = none → cap = 0) → r.2.1 - r.1 = 0 →
            Rel W g H (.sl (P.cellsOf e) ((xs.take r.2.1).drop r.1) (match r.2.2 with | some m => m == r.2.1 | none => full && r.2.1 == xs.length))
              (.slice (if r.2.2.getD cap = r.1 then a else a.map (·.add (r.1 * P.cellsOf e))) (r.2.1 - r.1) (r.2.2.getD cap - r.1)) := fun a cap hcap hf ha h0 => by
          have hnil : (xs.take r.2.1).drop r.1 = [] := List.eq_nil_of_length_eq_zero (by omega)
          rw [hnil, h0]
          have hff := hfull cap hcap hf
          cases a with
          | none =>
            have := ha rfl
            subst this
            have : r.2.2.getD 0 - r.1 = 0 := by
              cases hm2 : r.2.2 with
              | none => simp
              | some m => have := (hb _ hcap).2.2 m hm2; simp; omega
            rw [this]
            simp only [Option.map_none, ite_self]
            exact .slnil _ _
          | some b =>
            generalize hgen : (if r.2.2.getD cap = r.1 then some b else (some b).map (·.add (r.1 * P.cellsOf e))) = q at *
            cases q with
            | none => split at hgen <;> simp at hgen
            | some b' => exact .sle _ _ b' _ (fun hm => by rw [hff hm]; exact h0)
        cases hx with
        | slnil => exact .same (hrun none 0 (by simp)) (hempty none 0 (by simp) (by simp) (by simp) (by have := (hb _ (Nat.le_refl _)).2.1; simp at this; omega))
        | sle _ _ a cap hf => exact .same (hrun (some a) cap (by simp)) (hempty (some a) cap (by simp) (by simpa using hf) (by simp) (by have := (hb _ (Nat.le_refl _)).2.1; simp at this; omega))
        | sl _ _ _ b o cap cc hob hz hcap hf hs hcc ho1 hr' =>
          refine .same (hrun _ cap hcap) ?_
          by_cases h0 : r.2.1 - r.1 = 0
          · exact hempty _ cap hcap hf (by simp) h0
          · have hm : r.2.2.getD cap ≠ r.1 := by
              cases hm2 : r.2.2 with
              | none => have := (hb _ hcap); simp; omega
              | some m => have := (hb _ hcap).2.2 m hm2; simp; omega
            rw [if_neg hm]
            simp only [Option.map_some, add_eq]
            have hff := hfull cap hcap hf
            generalize hfu : (match r.2.2 with | some m => m == r.2.1 | none => full && r.2.1 == xs.length) = fu at *
            rw [← hlen]
            refine .sl _ _ fu b (o + r.1 * P.cellsOf e) _ (fun j t => cc (r.1 + j) t) hob hz ?_ (fun hf' => ?_) (fun j x hj => hs _ _ (drop_take_get hj).1) (fun j x t v hj ht => ?_) (fun j x t v hj ht => ho1 _ _ _ _ (drop_take_get hj).1 ht) (fun j x t v hj ht => hr' _ _ _ _ (drop_take_get hj).1 ht)
            · rw [hlen]
              cases hm2 : r.2.2 with
              | none => have := (hb _ hcap); simp; omega
              | some m => have := (hb _ hcap).2.2 m hm2; simp; omega
            · rw [hlen]; exact hff hf'
            · have := hcc _ _ _ _ (drop_take_get hj).1 ht
              rw [Nat.add_mul] at this
              rw [← this]; congr 2; omega
      · cases h
    · cases h
  · rename_i l i ver off n full
    split at h
    · rename_i e hu
      split at h
      · rename_i ver' ty sz xs cp hg
        split at h
        · rename_i hc
          obtain ⟨rfl, rfl, he⟩ := hc
          obtain ⟨d, hd⟩ := Option.isSome_iff_exists.1 he
          simp only [Option.bind_eq_some_iff] at h
          obtain ⟨r, hr, h⟩ := h
          split at h
          · rename_i hcond
            injection h with h; subst h
            have hel : P.elem t = e := by simp [Program.elem, hu]
            cases hx with
            | hs _ _ _ _ _ _ a m cap hd' hv ha =>
              obtain ⟨rfl, rfl, ⟨hcap, hcap2, hff⟩, hle⟩ := ha _ _ _ _ hg
              obtain ⟨e1, e2, e3, e4⟩ := run_bounds (P := P) true hcap hr h1 h2 h3
              have hmc : r.2.1 ≤ r.2.2.getD cap ∧ r.2.2.getD cap ≤ cap := by
                cases hm2 : r.2.2 with
                | none => simp; omega
                | some m' => have := e4 m' hm2; simp; omega
              refine .same (c := .slice (some ⟨g.ab l i, (off + r.1) * P.cellsOf e, none⟩) (r.2.1 - r.1) (r.2.2.getD cap - r.1)) ?_ ?_
              · rw [run_sliceAt_slice W t _ _ _ _ (by rw [hel]; exact hu)]
                simp only [Instr.slice, Sem.run_bind, run_underlying' hu, Result.andThen_ok, e1, run_sizeOf' hd, Sem.run_pure]
                congr 2
                split
                · rename_i heq
                  have : r.1 = 0 := by
                    rcases hcond with h0 | h0
                    · exact h0
                    · omega
                  rw [this, Nat.add_zero]
                · simp only [Option.map_some, add_eq, Nat.add_mul]
              · refine .hs _ _ _ _ _ _ _ _ _ hd' hv fun ty' sz' xs' cp' hg' => ?_
                rw [hg] at hg'; injection hg' with hg'; injection hg' with _ _ hsz hxx _
                subst hxx
                refine ⟨by rw [hsz], rfl, ⟨by omega, by omega, fun hf => ?_⟩, by omega⟩
                cases hm2 : r.2.2 with
                | none =>
                  simp only [hm2, Bool.and_eq_true, beq_iff_eq] at hf
                  have := hff hf.1
                  simp; omega
                | some m' =>
                  simp only [hm2, beq_iff_eq] at hf
                  simp; omega
          · rename_i hcond
            injection h with h; subst h
            have hel : P.elem t = e := by simp [Program.elem, hu]
            cases hx with
            | hs _ _ _ _ _ _ a m cap hd' hv ha =>
              obtain ⟨rfl, rfl, ⟨hcap, hcap2, hff⟩, hle⟩ := ha _ _ _ _ hg
              obtain ⟨e1, e2, e3, e4⟩ := run_bounds (P := P) true hcap hr h1 h2 h3
              have h0 : r.2.1 - r.1 = 0 := by omega
              have hrun : (Instr.sliceAt t (.slice (some ⟨g.ab l i, off * P.cellsOf e, none⟩) m cap) clo chi cmx).run P W =
                  .ok (.slice (if r.2.2.getD cap = r.1 then some ⟨g.ab l i, off * P.cellsOf e, none⟩ else (some ⟨g.ab l i, off * P.cellsOf e, none⟩ : Option Addr).map (·.add (r.1 * P.cellsOf e))) (r.2.1 - r.1) (r.2.2.getD cap - r.1)) W := by
                rw [run_sliceAt_slice W t _ _ _ _ (by rw [hel]; exact hu)]
                simp [Instr.slice, run_underlying' hu, e1, run_sizeOf' hd]
              refine .same hrun ?_
              rw [h0]
              split <;> exact .sle _ _ _ _ (fun hf => by cases hf)
        · cases h
      · cases h
    · cases h
  · cases h

end
end Go.Ab
