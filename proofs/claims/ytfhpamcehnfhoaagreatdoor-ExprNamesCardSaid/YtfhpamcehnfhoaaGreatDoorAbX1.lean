/-
  A MACHINE THAT RUNS CLOSED CALLS BY RECKONING: its operations.
-/
import Derived.Test.YtfhpamcehnfhoaaGreatDoorAbX0
namespace Go.Ab
open Go
set_option linter.unusedVariables false
set_option linter.unusedSimpArgs false

def keyOf : V → Option (Nat × Nat)
  | .ptr l i _ => some (l, i)
  | .ap l i _ _ _ => some (l, i)
  | .hs l i _ _ _ _ => some (l, i)
  | .map l i => some (l, i)
  | _ => none
/-- a memory of one object -/
def tinyOf (g : Nat → Nat → Option AObj) (v : V) : Heap := match keyOf v with
  | some (l, i) => ⟨Nat.succ l, [], fun _ _ => g l i⟩
  | none => ⟨0, [], fun _ _ => none⟩
theorem tiny_get {g : Nat → Nat → Option AObj} {v : V} {l i : Nat} (h : keyOf v = some (l, i)) : (tinyOf g v).get l i = g l i := by
  unfold tinyOf
  rw [h]
  unfold Heap.get
  simp
section
variable {P : Program} {g : Nat → Nat → Option AObj} {H : Heap} (hg : ∀ l i o, g l i = some o → H.get l i = some o)
include hg
theorem tiny_some {v : V} {l i : Nat} {o : AObj} (h : keyOf v = some (l, i)) (ho : g l i = some o) : (tinyOf g v).get l i = some o ∧ H.get l i = some o := ⟨by rw [tiny_get h, ho], hg _ _ _ ho⟩
theorem tiny_load {t : Nat} {x v : V} (h : pLoad P (tinyOf g x) t x = some v) : pLoad P H t x = some v := by
  cases x with
  | ptr l i off =>
    simp only [pLoad, tiny_get (g := g) (v := .ptr l i off) rfl] at h
    cases ho : g l i with
    | none => rw [ho] at h; cases h
    | some o => rw [ho] at h; simp only [pLoad, hg _ _ _ ho]; exact h
  | ap l i ver idx off =>
    simp only [pLoad, aelem, tiny_get (g := g) (v := .ap l i ver idx off) rfl] at h
    cases ho : g l i with
    | none => rw [ho] at h; cases h
    | some o => rw [ho] at h; simp only [pLoad, aelem, hg _ _ _ ho]; exact h
  | ref cs off => exact h
  | _ => cases h
theorem tiny_len {t : Nat} {x v : V} (h : pLen P (tinyOf g x) t x = some v) : pLen P H t x = some v := by
  cases x with
  | hs l i ver off n full =>
    simp only [pLen, tiny_get (g := g) (v := .hs l i ver off n full) rfl] at h
    cases ho : g l i with
    | none => rw [ho] at h; simp only at h; split at h <;> cases h
    | some o => rw [ho] at h; simp only [pLen, hg _ _ _ ho]; exact h
  | map l i =>
    simp only [pLen, tiny_get (g := g) (v := .map l i) rfl] at h
    cases ho : g l i with
    | none => rw [ho] at h; simp only at h; split at h <;> cases h
    | some o => rw [ho] at h; simp only [pLen, hg _ _ _ ho]; exact h
  | _ => exact h
theorem tiny_indexAddr {t : Nat} {x y v : V} (h : pIndexAddr P (tinyOf g x) t x y = some v) : pIndexAddr P H t x y = some v := by
  cases x with
  | hs l i ver off n full =>
    cases ho : g l i with
    | none =>
      unfold pIndexAddr at h
      simp only [tiny_get (g := g) (v := .hs l i ver off n full) rfl, ho] at h
      split at h
      · split at h
        · split at h
          · cases h
          · split at h <;> cases h
          · cases h
        · cases h
      · cases h
    | some o =>
      obtain ⟨h1, h2⟩ := tiny_some hg (v := .hs l i ver off n full) rfl ho
      unfold pIndexAddr at h ⊢
      simp only [h1] at h
      simp only [h2]
      exact h
  | _ => exact h
theorem tiny_slice {t : Nat} {x v : V} {lo hi mx : Option V} (h : pSlice P (tinyOf g x) t x lo hi mx = some v) : pSlice P H t x lo hi mx = some v := by
  cases x with
  | hs l i ver off n full =>
    cases ho : g l i with
    | none =>
      unfold pSlice at h
      simp only [tiny_get (g := g) (v := .hs l i ver off n full) rfl, ho] at h
      split at h <;> cases h
    | some o =>
      obtain ⟨h1, h2⟩ := tiny_some hg (v := .hs l i ver off n full) rfl ho
      unfold pSlice at h ⊢
      simp only [h1] at h
      simp only [h2]
      exact h
  | _ => exact h
theorem tiny_mapEs {x : V} {es : List (V × V)} (h : mapEs (tinyOf g x) x = some es) : mapEs H x = some es := by
  cases x with
  | map l i =>
    simp only [mapEs, tiny_get (g := g) (v := .map l i) rfl] at h
    cases ho : g l i with
    | none => rw [ho] at h; cases h
    | some o => rw [ho] at h; simp only [mapEs, hg _ _ _ ho]; exact h
  | mapn => exact h
  | _ => cases h
theorem tiny_lookup {t : Nat} {x k v : V} {ok : Bool} (h : pLookup P (tinyOf g x) t x k ok = some v) : pLookup P H t x k ok = some v := by
  unfold pLookup at h ⊢
  split at h
  · cases he : mapEs (tinyOf g x) x with
    | none => rw [he] at h; simp at h
    | some es => rw [he] at h; rw [tiny_mapEs hg he]; exact h
  · cases h
theorem tiny_elems {sz : Nat} {x : V} {ys : List V} (h : elemsOf (tinyOf g x) sz x = some ys) : elemsOf H sz x = some ys := by
  cases x with
  | hs l i ver off n full =>
    simp only [elemsOf, tiny_get (g := g) (v := .hs l i ver off n full) rfl] at h
    cases ho : g l i with
    | none => rw [ho] at h; cases h
    | some o => rw [ho] at h; simp only [elemsOf, hg _ _ _ ho]; exact h
  | nils => exact h
  | sl s xs f => exact h
  | _ => cases h
theorem tiny_src {sz : Nat} {x : V} {ys : List V} (h : srcOf (tinyOf g x) sz x = some ys) : srcOf H sz x = some ys := by
  cases x with
  | str s => exact h
  | _ =>
    simp only [srcOf] at h ⊢
    exact tiny_elems hg h
end

/-- quiet operations -/
def xpv (P : Program) (g : Nat → Nat → Option AObj) (ρ : Operand → V) (op : Op) : Option V :=
  match op with
  | .load t a => pLoad P (tinyOf g (ρ a)) t (ρ a)
  | .indexAddr t x i => pIndexAddr P (tinyOf g (ρ x)) t (ρ x) (ρ i)
  | .slice t x lo hi mx => pSlice P (tinyOf g (ρ x)) t (ρ x) (lo.map ρ) (hi.map ρ) (mx.map ρ)
  | .lookup t x k ok => pLookup P (tinyOf g (ρ x)) t (ρ x) (ρ k) ok
  | .call c => match c.callee with
    | .builtin .len => match c.args.toList, c.argTypes.toList with
      | [x], [t] => pLen P (tinyOf g (ρ x)) t (ρ x)
      | _, _ => none
    | .builtin .min => pMinMax false (c.args.toList.map ρ)
    | .builtin .max => pMinMax true (c.args.toList.map ρ)
    | _ => none
  | op => pv P ⟨0, [], fun _ _ => none⟩ ρ op
theorem xpv_pv {P : Program} {g : Nat → Nat → Option AObj} {H : Heap} (hg : ∀ l i o, g l i = some o → H.get l i = some o) {ρ : Operand → V} {op : Op} {v : V} (h : xpv P g ρ op = some v) : pv P H ρ op = some v := by
  cases op with
  | load t a => exact tiny_load hg h
  | indexAddr t x i => exact tiny_indexAddr hg h
  | slice t x lo hi mx => exact tiny_slice hg h
  | lookup t x k ok => exact tiny_lookup hg h
  | call c =>
    simp only [xpv] at h
    simp only [pv, pBuiltin]
    split at h
    · rename_i hc
      rw [hc]
      simp only
      split at h
      · rename_i x t e1 e2
        rw [e1, e2]
        exact tiny_len hg h
      · cases h
    · rename_i hc; rw [hc]; exact h
    · rename_i hc; rw [hc]; exact h
    · cases h
  | makeFunc f a b =>
    cases f with
    | func k => exact h
    | _ => cases h
  | _ => exact h

/-! ### operations that turn memory -/
def eStore (P : Program) (g : Nat → Nat → Option AObj) (t : Nat) (a x : V) : Option Eff :=
  if x.solid && (P.info? t).isSome && x.cells.length == P.cellsOf t then
    match a with
    | .ptr l i off => match g l i with
      | some (.cells cs) => if off + x.cells.length ≤ cs.length then some (.set l i (.cells (splice cs off x.cells)) .any) else none
      | _ => none
    | .ap l i ver idx off => match g l i with
      | some (.arr ver' ty sz xs cp) => if ver' = ver then match xs[idx]? with
        | some y => if off + x.cells.length ≤ y.cells.length ∧ fits y (splice y.cells off x.cells) = true then
            some (.set l i (.arr ver ty sz (xs.set idx (withCells y (splice y.cells off x.cells))) cp) .any) else none
        | none => none else none
      | _ => none
    | _ => none
  else none
def eMapUpdate (P : Program) (g : Nat → Nat → Option AObj) (t : Nat) (m k x : V) : Option Eff :=
  match P.underlying t with
  | some (.map kt _) => match m with
    | .map l i => match g l i with
      | some (.map es) => match keyKind P kt k with
        | some d => match findV d k es 0 with
          | some r => some (.set l i (.map (putEs es k x r)) .any)
          | none => none
        | none => none
      | _ => none
    | _ => none
  | _ => none
def eAppendTo (g : Nat → Nat → Option AObj) (e size : Nat) (s : V) (ys : List V) : Option Eff :=
  match s with
  | .nils => match ys with
    | [] => some (.keep .nils)
    | y :: r => if (y :: r).length ≤ roomB then some (.push (fun lv n => .hs lv n 0 0 (y :: r).length false) (.arr 0 e size (y :: r) none)) else none
  | .sl sz xs true => if sz = size then match ys with
    | [] => some (.keep (.sl sz xs true))
    | y :: r => if xs.length + (y :: r).length ≤ roomB then some (.push (fun lv n => .hs lv n 0 0 (xs.length + (y :: r).length) false) (.arr 0 e size (xs ++ y :: r) none)) else none else none
  | .hs l i' ver 0 n false => match g l i' with
    | some (.arr ver' e' sz xs _) => if ver' = ver ∧ e' = e ∧ sz = size ∧ n = xs.length ∧ xs.length + ys.length ≤ roomB then
        some (.set l i' (.arr (ver + 1) e sz (xs ++ ys) none) (.hs l i' (ver + 1) 0 (xs.length + ys.length) false)) else none
    | _ => none
  | _ => none
def eAppend (P : Program) (g : Nat → Nat → Option AObj) (t u : Nat) (s x : V) : Option Eff :=
  match P.underlying t, P.underlying u with
  | some (.slice e), some du =>
    match P.info? e with
    | some i =>
      match srcOf (tinyOf g x) i.size x, i.zero with
      | some ys, some z =>
        if notInt du && decide (0 < i.size) && decide (i.bytes ≤ 524288) && z.cells.size == i.size then eAppendTo g e i.size s ys else none
      | _, _ => none
    | none => none
  | _, _ => none
def eNext (g : Nat → Nat → Option AObj) (x : V) (str : Bool) : Option Eff :=
  match x, str with
  | .ptr l i 0, true => match g l i with
    | some (.siter s pos) => if pos < s.length then some (.set l i (.siter s (pos + (decL s pos).2)) (.tup [.bool true, .int .i64 pos, .int .i32 (decL s pos).1])) else some (.keep (.tup [.bool false]))
    | _ => none
  | _, _ => none
def eMakeMap (P : Program) (t : Nat) (r : Option V) : Option Eff :=
  match r with
  | none => some (.push (fun lv n => .map lv n) (.map []))
  | some (.int _ _) => match P.underlying t with
    | some (.map _ _) => some (.push (fun lv n => .map lv n) (.map []))
    | _ => none
  | _ => none
def eRange (P : Program) (t : Nat) (x : V) : Option Eff :=
  match x with
  | .str s => match P.underlying t with
    | some .string => some (.push (fun lv n => .ptr lv n 0) (.siter s 0))
    | _ => none
  | _ => none
def eox (P : Program) (g : Nat → Nat → Option AObj) (ρ : Operand → V) (op : Op) : Option Eff :=
  match op with
  | .alloc t => match zeroV P t with
    | some z => if z.solid then some (.push (fun lv n => .ptr lv n 0) (.cells z.cells)) else none
    | none => none
  | .box _ x => if (ρ x).solid then some (.push (fun lv n => .ptr lv n 0) (.cells (ρ x).cells)) else none
  | .store t a x => eStore P g t (ρ a) (ρ x)
  | .makeMap t r => eMakeMap P t (r.map ρ)
  | .mapUpdate t m k x => eMapUpdate P g t (ρ m) (ρ k) (ρ x)
  | .insert t m k x => eMapUpdate P g t (ρ m) (ρ k) (ρ x)
  | .range t x => eRange P t (ρ x)
  | .next i b => eNext g (ρ i) b
  | .call c => match c.callee with
    | .builtin .append => match c.args.toList, c.argTypes.toList with
      | [s, x], [t, u] => eAppend P g t u (ρ s) (ρ x)
      | _, _ => none
    | .builtin .copy => none
    | _ => (xpv P g ρ (.call c)).map .keep
  | o => (xpv P g ρ o).map .keep

section
variable {P : Program} {g : Nat → Nat → Option AObj} {H : Heap} (hg : ∀ l i o, g l i = some o → H.get l i = some o)
include hg
theorem eStore_ox {t : Nat} {a x : V} {e : Eff} (h : eStore P g t a x = some e) : hStore P H t a x = some (e.on H) := by
  unfold eStore at h
  unfold hStore
  split at h
  · rename_i hc
    rw [if_pos hc]
    split at h
    · rename_i l i off
      split at h
      · rename_i cs ho
        simp only [hg _ _ _ ho]
        split at h
        · rename_i hle
          injection h with h; subst h
          rw [if_pos hle]; rfl
        · cases h
      · cases h
    · rename_i l i ver idx off
      split at h
      · rename_i ver' ty sz xs cp ho
        simp only [hg _ _ _ ho]
        split at h
        · rename_i hv
          rw [if_pos hv]
          split at h
          · rename_i y hy
            simp only [hy]
            split at h
            · rename_i hle
              injection h with h; subst h
              rw [if_pos hle]; rfl
            · cases h
          · cases h
        · cases h
      · cases h
    · cases h
  · cases h
theorem eMapUpdate_ox {t : Nat} {m k x : V} {e : Eff} (h : eMapUpdate P g t m k x = some e) : hMapUpdate P H t m k x = some (e.on H) := by
  unfold eMapUpdate at h
  unfold hMapUpdate
  split at h
  · rename_i kt et ht
    simp only [ht]
    split at h
    · rename_i l i
      split at h
      · rename_i es ho
        simp only [hg _ _ _ ho]
        split at h
        · rename_i d hd
          simp only [hd]
          split at h
          · rename_i r hr
            injection h with h; subst h
            simp only [hr]; rfl
          · cases h
        · cases h
      · cases h
    · cases h
  · cases h
theorem eAppendTo_ox {e' size : Nat} {s : V} {ys : List V} {e : Eff} (h : eAppendTo g e' size s ys = some e) : appendTo H e' size s ys = some (e.on H) := by
  unfold eAppendTo at h
  unfold appendTo
  split at h
  · split at h
    · injection h with h; subst h; rfl
    · split at h
      · rename_i hr; injection h with h; subst h; simp only [if_pos hr]; rfl
      · cases h
  · split at h
    · rename_i hz
      simp only [if_pos hz]
      split at h
      · injection h with h; subst h; rfl
      · split at h
        · rename_i hr; injection h with h; subst h; simp only [if_pos hr]; rfl
        · cases h
    · cases h
  · split at h
    · rename_i ho
      simp only [hg _ _ _ ho]
      split at h
      · rename_i hr; injection h with h; subst h; rw [if_pos hr]; rfl
      · cases h
    · cases h
  · cases h
theorem eox_ox {ρ : Operand → V} {op : Op} {e : Eff} (h : eox P g ρ op = some e) : ox P H ρ op = some (e.on H) := by
  have keep : ∀ {o : Op}, (xpv P g ρ o).map Eff.keep = some e → (pv P H ρ o).map (fun v => (v, H)) = some (e.on H) := fun {o} hh => by
    simp only [Option.map_eq_some_iff] at hh
    obtain ⟨v, hv, rfl⟩ := hh
    rw [xpv_pv hg hv]; rfl
  cases op with
  | alloc t =>
    simp only [eox] at h
    simp only [ox, hAlloc]
    split at h
    · rename_i z hz
      simp only [hz]
      split at h
      · rename_i hs; injection h with h; subst h; rw [if_pos hs]; rfl
      · cases h
    · cases h
  | box t x =>
    simp only [eox] at h
    simp only [ox, hBox]
    split at h
    · rename_i hs; injection h with h; subst h; rw [if_pos hs]; rfl
    · cases h
  | store t a x => exact eStore_ox hg h
  | makeMap t r =>
    simp only [eox, eMakeMap] at h
    simp only [ox, hMakeMap]
    split at h
    · rename_i hr; rw [hr]; injection h with h; subst h; rfl
    · rename_i hr; rw [hr]
      split at h
      · rename_i ht; simp only [ht]; injection h with h; subst h; rfl
      · cases h
    · cases h
  | mapUpdate t m k x => exact eMapUpdate_ox hg h
  | insert t m k x => exact eMapUpdate_ox hg h
  | range t x =>
    simp only [eox, eRange] at h
    simp only [ox, hRange]
    split at h
    · rename_i s hs
      rw [hs]
      split at h
      · rename_i ht; simp only [ht]; injection h with h; subst h; rfl
      · cases h
    · cases h
  | next i b =>
    simp only [eox, eNext] at h
    simp only [ox, hNext]
    split at h
    · rename_i l j hx
      rw [hx]
      split at h
      · rename_i s pos ho
        simp only [hg _ _ _ ho]
        split at h
        · rename_i hp; injection h with h; subst h; rw [if_pos hp]; rfl
        · rename_i hp; injection h with h; subst h; rw [if_neg hp]; rfl
      · cases h
    · cases h
  | call c =>
    simp only [eox] at h
    simp only [ox]
    split at h
    · rename_i hc
      rw [hc]
      simp only
      split at h
      · rename_i s x t u e1 e2
        rw [e1, e2]
        simp only
        unfold eAppend at h
        unfold hAppend
        split at h
        · rename_i et du ht hu
          simp only [ht, hu]
          split at h
          · rename_i i hi
            simp only [hi]
            split at h
            · rename_i ys z h1 h2
              simp only [tiny_src hg h1, h2]
              split at h
              · rename_i hcc; rw [if_pos hcc]; exact eAppendTo_ox hg h
              · cases h
            · cases h
          · cases h
        · cases h
      · cases h
    · cases h
    · rename_i h1 h2
      have := keep h
      split
      · rename_i hc; exact (h1 hc).elim
      · rename_i hc; exact (h2 hc).elim
      · exact this
  | _ =>
    simp only [eox] at h
    simp only [ox]
    exact keep h
end

/-! ### more of them -/
section
variable {P : Program} {g : Nat → Nat → Option AObj} {H : Heap} (hg : ∀ l i o, g l i = some o → H.get l i = some o)
include hg
theorem tiny_apAt {x : V} {p : Nat × Nat × Nat × Nat} (h : apAt (tinyOf g x) x = some p) : apAt H x = some p := by
  cases x with
  | ap l i ver idx off =>
    simp only [apAt, tiny_get (g := g) (v := .ap l i ver idx off) rfl] at h
    cases ho : g l i with
    | none => rw [ho] at h; cases h
    | some o => rw [ho] at h; simp only [apAt, hg _ _ _ ho]; exact h
  | _ => cases h
theorem tiny_capOne {x : V} (h : capOne (tinyOf g x) x = true) : capOne H x = true := by
  cases x with
  | ap l i ver idx off =>
    simp only [capOne, tiny_get (g := g) (v := .ap l i ver idx off) rfl] at h
    cases ho : g l i with
    | none => rw [ho] at h; cases h
    | some o => rw [ho] at h; simp only [capOne, hg _ _ _ ho]; exact h
  | _ => cases h
theorem tiny_eqAp {op : BinOp} {t : Nat} {x y v : V} (h : hEqAp P (tinyOf g x) op t x y = some v) : hEqAp P H op t x y = some v := by
  unfold hEqAp at h ⊢
  split at h
  · rename_i p e h1 h2 h3
    rw [h1, tiny_apAt hg h2, h3]; exact h
  · cases h
theorem tiny_eq2 {op : BinOp} {t : Nat} {xo yo : Operand} {x y v : V} (h : hEq2 P (tinyOf g x) op t xo yo x y = some v) : hEq2 P H op t xo yo x y = some v := by
  unfold hEq2 at h ⊢
  split at h
  · exact h
  · exact tiny_eqAp hg h
theorem tiny_conv {s d : Nat} {x v : V} (h : hConv P (tinyOf g x) s d x = some v) : hConv P H s d x = some v := by
  unfold hConv at h ⊢
  split at h
  · rename_i t p h1 h2 h3
    rw [h1, h2, tiny_apAt hg h3]; exact h
  · rename_i u ty sz n o h1 h2 h3
    rw [h1, h2, tiny_apAt hg h3]
    dsimp only at h ⊢
    split at h
    · rename_i j hj
      split at h
      · rename_i hc
        simp only [Bool.and_eq_true] at hc
        rw [hc.1.1.1, hc.1.1.2, tiny_capOne hg hc.1.2, hc.2]; exact h
      · cases h
    · cases h
  · cases h
theorem tiny_sliceData {x v : V} (h : hSliceData (tinyOf g x) x = some v) : hSliceData H x = some v := by
  cases x with
  | hs l i ver off n full =>
    simp only [hSliceData, tiny_get (g := g) (v := .hs l i ver off n full) rfl] at h
    cases ho : g l i with
    | none => rw [ho] at h; cases h
    | some o => rw [ho] at h; simp only [hSliceData, hg _ _ _ ho]; exact h
  | nils => exact h
  | _ => cases h
end
def eStrOf (P : Program) (lv : Nat) (g : Nat → Nat → Option AObj) (pt : Nat) (p n : V) : Option Eff :=
  match p, n with
  | .nilp, .int .i64 (.ofNat 0) => some (.keep (.str []))
  | .ap l i ver 0 0, .int .i64 (.ofNat m) => match g l i, P.underlying pt with
    | some (.arr ver' ty sz xs cp), some (.pointer e) => match Nat.beq ver' ver && Nat.beq sz 1 && Nat.beq l lv && Nat.beq e ty && Nat.beq (P.cellsOf ty) 1 && Nat.blt 0 m && Nat.ble m xs.length && Nat.ble m roomB with
      | true => match bytesV (xs.take m) with
        | some s => some (.hide i (.str s))
        | none => none
      | false => none
    | _, _ => none
  | _, _ => none
def eMakeSlice (P : Program) (t : Nat) (n c : V) : Option Eff :=
  match n, c with
  | .int _ (.ofNat n), .int _ (.ofNat c) => match P.underlying t with
    | some (.slice e) => match P.info? e, zeroV P e with
      | some i, some z => match z.solid && Nat.beq z.cells.length i.size && Nat.blt 0 i.size && Nat.ble n c && Nat.ble c 1000000 && Nat.ble i.bytes 100000 with
        | true => some (.push (fun lv k => .hs lv k 0 0 n false) (.arr 0 e i.size (List.replicate n z) none))
        | false => none
      | _, _ => none
    | _ => none
  | _, _ => none
def eAllocA (P : Program) (t : Nat) : Option Eff := match zeroV P t, P.info? t with
  | some z, some i => if z.solid && z.cells.length == i.size && Nat.blt 0 i.size then some (.push (fun lv k => .ap lv k 0 0 0) (.arr 0 t i.size [z] (some 1))) else none
  | _, _ => none
def eMore (P : Program) (lv : Nat) (g : Nat → Nat → Option AObj) (ρ : Operand → V) (op : Op) : Option Eff := match op with
  | .alloc t => match isBld P t with
    | true => eAllocA P t
    | false => none
  | .makeSlice t n c => eMakeSlice P t (ρ n) (ρ c)
  | .convert s d x => (hConv P (tinyOf g (ρ x)) s d (ρ x)).map .keep
  | .binOp op t x y _ => (hEq2 P (tinyOf g (ρ x)) op t x y (ρ x) (ρ y)).map .keep
  | .call c => match c.callee with
    | .builtin .unsafeSliceData => match c.args.toList with
      | [x] => (hSliceData (tinyOf g (ρ x)) (ρ x)).map .keep
      | _ => none
    | .builtin .unsafeString => match c.args.toList, c.argTypes.toList with
      | [p, n], [pt, _] => eStrOf P lv g pt (ρ p) (ρ n)
      | _, _ => none
    | _ => none
  | _ => none
theorem eMore_more {P : Program} {g : Nat → Nat → Option AObj} {H : Heap} (hg : ∀ l i o, g l i = some o → H.get l i = some o) {ρ : Operand → V} {op : Op} {e : Eff} (h : eMore P H.lv g ρ op = some e) : hMore P H ρ op = some (e.on H) := by
  have keep : ∀ {q q' : Option V}, (∀ v, q = some v → q' = some v) → q.map Eff.keep = some e → (q'.map fun v => (v, H)) = some (e.on H) := fun {q q'} hq hh => by
    simp only [Option.map_eq_some_iff] at hh
    obtain ⟨v, hv, rfl⟩ := hh
    rw [hq v hv]; rfl
  cases op with
  | alloc t =>
    simp only [eMore] at h
    simp only [hMore]
    split at h
    · rename_i hb
      rw [hb]
      unfold eAllocA at h
      unfold hAllocA
      split at h
      · rename_i z i h1 h2
        simp only [h1, h2]
        split at h
        · rename_i hc; injection h with h; subst h; rw [if_pos hc]; rfl
        · cases h
      · cases h
    · cases h
  | makeSlice t n c =>
    simp only [eMore] at h
    simp only [hMore]
    unfold eMakeSlice at h
    unfold hMakeSlice
    split at h
    · rename_i k1 n' k2 c' e1 e2
      rw [e1, e2]
      try dsimp only
      split at h
      · rename_i el ht
        rw [ht]
        try dsimp only
        split at h
        · rename_i i z h1 h2
          rw [h1, h2]
          try dsimp only
          split at h
          · rename_i hc; injection h with h; subst h; rw [hc]; rfl
          · cases h
        · cases h
      · cases h
    · cases h
  | convert s d x => exact keep (fun v hv => tiny_conv hg hv) h
  | binOp op t x y ty => exact keep (fun v hv => tiny_eq2 hg hv) h
  | call c =>
    simp only [eMore] at h
    simp only [hMore]
    split at h
    · rename_i hc
      rw [hc]
      try dsimp only
      split at h
      · rename_i x hx
        rw [hx]
        exact keep (fun v hv => tiny_sliceData hg hv) h
      · cases h
    · rename_i hc
      rw [hc]
      try dsimp only
      split at h
      · rename_i p n pt it h1 h2
        rw [h1, h2]
        try dsimp only
        unfold eStrOf at h
        unfold hStrOf
        split at h
        · rename_i e1 e2
          rw [e1, e2]
          injection h with h; subst h; rfl
        · rename_i l i ver m e1 e2
          rw [e1, e2]
          try dsimp only
          split at h
          · rename_i ver' ty sz xs cp e' h3 h4
            simp only [hg _ _ _ h3, h4]
            try dsimp only
            split at h
            · rename_i hc2
              rw [hc2]
              try dsimp only
              split at h
              · rename_i s hs; rw [hs]; injection h with h; subst h; rfl
              · cases h
            · cases h
          · cases h
        · cases h
      · cases h
    · cases h
  | _ => cases h
end Go.Ab
