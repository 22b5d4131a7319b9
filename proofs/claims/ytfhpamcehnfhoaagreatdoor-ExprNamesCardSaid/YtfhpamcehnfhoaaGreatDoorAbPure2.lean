import Derived.Test.YtfhpamcehnfhoaaGreatDoorAbPure
import Derived.Laws.StructEq
import Derived.Laws.Build
namespace Go.Ab
open Go
set_option linter.unusedSimpArgs false
set_option linter.unusedVariables false
section
variable {W : World} {g : Gh} {H : Heap} {P : Program}

/-! ### fields, indexes -/

def pField (P : Program) (s f : Nat) (x : V) : Option V :=
  match P.underlying s with
  | some (.struct fs) => match fs[f]? with
    | some y => match x with
      | .agg cs => rd P y.type cs y.offset
      | _ => none
    | none => none
  | _ => none

theorem sound_field {s f : Nat} {x v : V} {c : Value} (h : pField P s f x = some v) (hx : Rel W g H x c) : Yields P W g H (Instr.field s c f) v := by
  unfold pField at h
  split at h
  · rename_i fs hu
    split at h
    · rename_i y hy
      split at h
      · cases hx with
        | agg _ a hn ho1 hr =>
          obtain ⟨u, h1, h2⟩ := run_part_rel h hn ho1 hr
          exact .same (c := u) (by simp [Instr.field, run_underlying' hu, hy, asAgg, h1]) h2
      · cases h
    · cases h
  · cases h

def pIndexAddr (P : Program) (H : Heap) (t : Nat) (x i : V) : Option V :=
  match i with
  | .int _ n => if 0 ≤ n then match P.underlying t with
    | some (.slice e) => match x with
      | .sl sz xs _ => if sz = P.cellsOf e ∧ (P.underlying e).isSome then (xs[n.toNat]?).map fun y => .ref y.cells 0 else none
      | .hs l i ver off m _ => match H.get l i with
        | some (.arr ver' _ sz _ _) => if ver' = ver ∧ sz = P.cellsOf e ∧ (P.underlying e).isSome ∧ n < m then some (.ap l i ver (off + n.toNat) 0) else none
        | _ => none
      | _ => none
    | some (.array len e) => if n < len ∧ (P.underlying e).isSome then match x with
      | .ref cs off => some (.ref cs (off + n.toNat * P.cellsOf e))
      | .ptr l i off => some (.ptr l i (off + n.toNat * P.cellsOf e))
      | .ap l i ver idx off => some (.ap l i ver idx (off + n.toNat * P.cellsOf e))
      | _ => none else none
    | _ => none else none
  | _ => none

theorem run_indexAt_slice {t e : Nat} {a : Addr} {m cap : Nat} {k : IntKind} {n : Int} (hu : P.underlying t = some (.slice e)) (he : (P.underlying e).isSome = true) (h0 : 0 ≤ n) (h1 : n < m) :
    (Instr.indexAt t (.slice (some a) m cap) (.int k n)).run P W = .ok (.pointer (some (a.add (n.toNat * P.cellsOf e)))) W := by
  obtain ⟨d, hd⟩ := Option.isSome_iff_exists.1 he
  simp [Instr.indexAt, asIntOf, run_underlying' hu, h0, h1, run_sizeOf' hd]

theorem run_indexAt_array {t e len : Nat} {a : Addr} {k : IntKind} {n : Int} (hu : P.underlying t = some (.array len e)) (he : (P.underlying e).isSome = true) (h0 : 0 ≤ n) (h1 : n < len) :
    (Instr.indexAt t (.pointer (some a)) (.int k n)).run P W = .ok (.pointer (some (a.add (n.toNat * P.cellsOf e)))) W := by
  obtain ⟨d, hd⟩ := Option.isSome_iff_exists.1 he
  simp [Instr.indexAt, asIntOf, run_underlying' hu, h0, h1, run_sizeOf' hd, Instr.sureAddr]

theorem sound_indexAddr {t : Nat} {x i v : V} {c ci : Value} (h : pIndexAddr P H t x i = some v) (hx : Rel W g H x c) (hi : Rel W g H i ci) : Yields P W g H (Instr.indexAt t c ci) v := by
  unfold pIndexAddr at h
  split at h
  · rename_i k n
    cases hi
    split at h
    · rename_i h0
      split at h
      · rename_i e hu
        split at h
        · rename_i sz xs full
          split at h
          · rename_i hc
            obtain ⟨rfl, he⟩ := hc
            simp only [Option.map_eq_some_iff] at h
            obtain ⟨y, hy, rfl⟩ := h
            have hlt := (List.getElem?_eq_some_iff.1 hy).1
            cases hx with
            | slnil => simp at hy
            | sle => simp at hy
            | sl _ _ _ b o cap cc hb hz hcap hf hs hcc ho1 hr =>
              refine .same (run_indexAt_slice hu he h0 (by omega)) ?_
              rw [add_eq]
              exact .ref _ 0 b _ (cc n.toNat) (fun _ => hb) (fun j u hj => hcc _ _ _ _ hy hj) (fun j u hj => ho1 _ _ _ _ hy hj) (fun j u hj => hr _ _ _ _ hy hj)
          · cases h
        · rename_i l i ver off m full
          split at h
          · rename_i ver' ty sz xs cp hg
            split at h
            · rename_i hc
              obtain ⟨rfl, rfl, he, hlt⟩ := hc
              injection h with h; subst h
              cases hx with
              | hs _ _ _ _ _ _ a m' cap hd hv ha =>
                obtain ⟨rfl, rfl, hcap, hle⟩ := ha _ _ _ _ hg
                refine .same (run_indexAt_slice hu he h0 hlt) (.ap _ _ _ _ _ _ hd hv fun ty' sz ys cp' hg' => ?_)
                rw [hg] at hg'
                injection hg' with hg'; injection hg' with _ _ hsz _ _
                rw [add_eq, ← hsz, Nat.add_mul, Nat.add_zero]
            · cases h
          · cases h
        · cases h
      · rename_i len e hu
        split at h
        · rename_i hc
          obtain ⟨hlt, he⟩ := hc
          split at h
          · injection h with h; subst h
            cases hx with
            | ref _ _ b o c hb hcc ho1 hr =>
              refine .same (run_indexAt_array hu he h0 hlt) ?_
              rw [add_eq, Nat.add_assoc]
              exact .ref _ _ b o c hb hcc ho1 hr
          · injection h with h; subst h
            cases hx with
            | ptr _ _ _ hd =>
              refine .same (run_indexAt_array hu he h0 hlt) ?_
              rw [add_eq]
              exact .ptr _ _ _ hd
          · injection h with h; subst h
            cases hx with
            | ap _ _ _ _ _ a hd hv ha =>
              refine .same (run_indexAt_array hu he h0 hlt) (.ap _ _ _ _ _ _ hd hv fun ty sz ys cp' hg' => ?_)
              rw [ha _ _ _ _ hg', add_eq, Nat.add_assoc]
          · cases h
        · cases h
      · cases h
    · cases h
  · cases h

def pIndex (P : Program) (t : Nat) (x i : V) : Option V :=
  match i with
  | .int _ n => if 0 ≤ n then match x with
    | .str s => match P.underlying t with
      | some .string => (s[n.toNat]?).map fun b => .int .u8 b.toNat
      | _ => none
    | .agg cs => match P.underlying t with
      | some (.array len e) => if n < len ∧ (P.underlying e).isSome then rd P e cs (n.toNat * P.cellsOf e) else none
      | _ => none
    | _ => none else none
  | _ => none

theorem sound_index {t : Nat} {x i v : V} {c ci : Value} (h : pIndex P t x i = some v) (hx : Rel W g H x c) (hi : Rel W g H i ci) : Yields P W g H (Instr.index t c ci) v := by
  unfold pIndex at h
  split at h
  · rename_i k n
    cases hi
    split at h
    · rename_i h0
      split at h
      · rename_i s
        split at h
        · rename_i hu
          simp only [Option.map_eq_some_iff] at h
          obtain ⟨b, hb, rfl⟩ := h
          cases hx
          have hlt := (List.getElem?_eq_some_iff.1 hb).1
          refine .same (c := .int .u8 b.toNat) ?_ (.int _ _)
          rw [run_index_string W t _ k n hu, dif_pos ⟨h0, by simp [ByteArray.size]; omega⟩]
          have : (⟨s.toArray⟩ : ByteArray)[n.toNat]'(by simp [ByteArray.size]; omega) = b := by
            have := List.getElem_of_getElem? hb
            obtain ⟨_, this⟩ := this
            exact this
          rw [this]
        · cases h
      · rename_i cs
        split at h
        · rename_i len e hu
          split at h
          · rename_i hc
            obtain ⟨hlt, he⟩ := hc
            obtain ⟨d, hd⟩ := Option.isSome_iff_exists.1 he
            cases hx with
            | agg _ a hn ho1 hr =>
              obtain ⟨u, h1, h2⟩ := run_part_rel h hn ho1 hr
              exact .same (c := u) (by simp [Instr.index, asIntOf, run_underlying' hu, h0, hlt, run_sizeOf' hd, h1]) h2
          · cases h
        · cases h
      · cases h
    · cases h
  · cases h

def pExtract (i : Nat) : V → Option V
  | .tup vs => vs[i]?
  | _ => none

theorem sound_extract {i : Nat} {x v : V} {c : Value} (h : pExtract i x = some v) (hx : Rel W g H x c) : Yields P W g H (Instr.extract c i) v := by
  unfold pExtract at h
  split at h
  · cases hx with
    | tup _ a hn hr =>
      have hlt := (List.getElem?_eq_some_iff.1 h).1
      refine .same (c := a.getD i undef) ?_ (hr _ _ h)
      simp [Instr.extract, Array.getElem?_eq_getElem (show i < a.size by omega), show i < a.size by omega]
  · cases h

def pNilCheck : V → Option V
  | .ptr l i off => some (.ptr l i off)
  | .ref cs off => some (.ref cs off)
  | .ap l i ver idx off => some (.ap l i ver idx off)
  | .fn f a b => some (.fn f a b)
  | _ => none

/-! ### arithmetic, comparisons -/

def intBin (op : BinOp) (k : IntKind) (x y : Int) : Option V :=
  match op with
  | .add => some (.int k (k.wrap (x + y)))
  | .sub => some (.int k (k.wrap (x - y)))
  | .mul => some (.int k (k.wrap (x * y)))
  | .quo => if y = 0 then none else some (.int k (k.wrap (x.tdiv y)))
  | .rem => if y = 0 then none else some (.int k (x.tmod y))
  | .eql => some (.bool (x == y))
  | .neq => some (.bool (x != y))
  | .lss => some (.bool (decide (x < y)))
  | .leq => some (.bool (decide (x ≤ y)))
  | .gtr => some (.bool (decide (x > y)))
  | .geq => some (.bool (decide (x ≥ y)))
  | .and => some (.int k (bits .and k x y))
  | .or => some (.int k (bits .or k x y))
  | .xor => some (.int k (bits .xor k x y))
  | .andNot => some (.int k (bits .andNot k x y))
  | _ => none

def strBin (op : BinOp) (x y : List UInt8) : Option V :=
  match op with
  | .add => if x.length + y.length ≤ maxLen then some (.str (x ++ y)) else none
  | .eql => some (.bool (x == y))
  | .neq => some (.bool (!(x == y)))
  | .lss => some (.bool (Op.bytesLess x y))
  | .leq => some (.bool (Op.bytesLess x y || x == y))
  | .gtr => some (.bool (!(Op.bytesLess x y || x == y)))
  | .geq => some (.bool (!Op.bytesLess x y))
  | _ => none

end
end Go.Ab
