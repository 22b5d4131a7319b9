/-
  MORE OPERATIONS: what strings.Builder does with its own address and its bytes; make([]T, n).
-/
import Derived.Test.YtfhpamcehnfhoaaGreatLib2
import Derived.Lib.Builder
import Derived.Lib.UnsafeStr
import Derived.Laws.MakeOwn
import Derived.Recover
namespace Go.Ab
open Go
set_option linter.unusedSimpArgs false
set_option linter.unusedVariables false
section
variable {W : World} {g : Gh} {H : Heap} {P : Program}
theorem Rel.new_ap (l i : Nat) {W' : World} {g' : Gh} {H' : Heap} {ty sz : Nat} {xs : List V} {cp : Option Nat} (hd : g'.dom l i) (hg : H'.get l i = some (.arr 0 ty sz xs cp)) : Rel W' g' H' (.ap l i 0 0 0) (.pointer (some ⟨g'.ab l i, 0, none⟩)) := by
  refine .ap l i 0 0 0 _ hd (fun _ _ _ _ _ _ => Nat.zero_le _) fun ty sz xs cp _ => ?_
  simp
/-! ### a variable of its own type: a row of one -/
def isBld (P : Program) (t : Nat) : Bool := match P.info? t with
  | some i => match i.desc with
    | .named n _ => n == "strings.Builder"
    | _ => false
  | none => false
def hAllocA (P : Program) (H : Heap) (t : Nat) : Option (V × Heap) := match zeroV P t, P.info? t with
  | some z, some i => if z.solid && z.cells.length == i.size && Nat.blt 0 i.size then some (.ap H.lv H.L.length 0 0 0, H.push (.arr 0 t i.size [z] (some 1))) else none
  | _, _ => none
theorem orel_arr {W' : World} {g' : Gh} {H' : Heap} {l i : Nat} {ver ty sz : Nat} {z : V} {c : Array Value} (hc : g'.cap l i = 1) (h : W'.heap[g'.ab l i]? = some (.cells c ty (0, 0))) (hsz : 0 < sz) (hl : z.cells.length = sz) (hr : RelL W' g' H' z.cells c) : ORel W' g' H' l i (.arr ver ty sz [z] (some 1)) := by
  have one : ∀ {j : Nat} {x : V}, [z][j]? = some x → j = 0 ∧ x = z := fun {j x} hj => by
    cases j with
    | zero => simp at hj; exact ⟨rfl, hj.symm⟩
    | succ j => simp at hj
  refine ⟨c, h, hsz, by rw [hr.1, hl, hc, Nat.one_mul], by rw [hc]; decide, by rw [hc]; simp, fun n hn => by injection hn with hn; rw [hc, hn], fun j x hj => ?_, fun j x t v hj ht => ?_, fun j x t v hj ht => ?_⟩
  · obtain ⟨_, rfl⟩ := one hj; exact hl
  · obtain ⟨rfl, rfl⟩ := one hj; rw [Nat.zero_mul, Nat.zero_add]; exact hr.2.1 t v ht
  · obtain ⟨rfl, rfl⟩ := one hj; rw [Nat.zero_mul, Nat.zero_add]; exact hr.2.2 t v ht
theorem sound_allocA (hG : Good W g H) {t : Nat} {v : V} {H' : Heap} (h : hAllocA P H t = some (v, H')) : Turns P W g H (do pure (.value (← Instr.alloc t true (.tuple #[])))) v H' := by
  unfold hAllocA at h
  split at h
  · rename_i z i hz hi
    split at h
    · rename_i hc
      simp only [Bool.and_eq_true, beq_iff_eq, Nat.blt_eq] at hc
      obtain ⟨⟨c1, c2⟩, c3⟩ := hc
      injection h with h; injection h with h1 h2; subst h1; subst h2
      obtain ⟨zc, hz1, hz2⟩ := run_zero (W := W) (g := g) (H := H) hz
      have hr := rel_cells c1 hz2
      obtain ⟨h1, h2⟩ := good_push hG (O := .cells zc.cells t) (o := .arr 0 t i.size [z] (some 1)) 1 (fun W' g' H' hW hg hH hst => by
        refine orel_arr (c := zc.cells) (by rw [hg]; simp [Gh.add]) ?_ c3 c2 (hr.mono hst)
        rw [hW, hg]
        simp only [Gh.add, and_self, if_true]
        exact heap_alloc_new' _ _)
      refine ⟨.pointer (some ⟨W.heap.size, 0, none⟩), _, _, .inl (by simp [Instr.alloc, hz1, newVar, newRow]), h1, h2, ?_⟩
      have hgt : (H.push (.arr 0 t i.size [z] (some 1))).get H.lv H.L.length = some (.arr 0 t i.size [z] (some 1)) := by rw [Heap.get_push, if_pos ⟨rfl, rfl⟩]
      have := Rel.new_ap (W' := W.alloc (.cells zc.cells t)) (g' := g.add H.lv H.L.length W.heap.size 1) H.lv H.L.length (.inr ⟨rfl, rfl⟩) hgt
      simpa [Gh.add] using this
    · cases h
  · cases h
/-! ### the address of such a variable, held against itself and turned -/
def apAt (H : Heap) : V → Option (Nat × Nat × Nat × Nat)
  | .ap l i ver idx off => match H.get l i with
    | some (.arr ver' ty sz xs cp) => match Nat.beq ver' ver && Nat.blt (Nat.add (Nat.mul idx sz) off) (Nat.mul xs.length sz) with
      | true => some (ty, sz, xs.length, Nat.add (Nat.mul idx sz) off)
      | false => none
    | _ => none
  | _ => none
theorem apAt_spec (hG : Good W g H) {x : V} {c : Value} {ty sz n o : Nat} (h : apAt H x = some (ty, sz, n, o)) (hx : Rel W g H x c) : ∃ b q cells, c = .pointer (some ⟨b, o, none⟩) ∧ W.heap[b]? = some (.cells cells ty (0, 0)) ∧ cells.size = q * sz ∧ n ≤ q ∧ 0 < sz ∧ o < n * sz := by
  unfold apAt at h
  split at h
  · rename_i l i ver idx off
    split at h
    · rename_i ver' ty' sz' xs cp hg
      split at h
      · rename_i hc
        simp only [Bool.and_eq_true] at hc
        have e1 : ver' = ver := Nat.eq_of_beq_eq_true hc.1
        subst e1
        injection h with h; injection h with a1 h; injection h with a2 h; injection h with a3 a4
        subst a1; subst a2; subst a3; subst a4
        cases hx with
        | ap _ _ _ _ _ a hd hv ha =>
          obtain rfl := ha _ _ _ _ hg
          obtain ⟨cc, k1, k2, k3, k3', k4, k5, k6, k7, k8⟩ := hG.obj _ _ _ hg
          exact ⟨_, g.cap l i, cc, rfl, k1, k3, k4, k2, by have := hc.2; rw [Nat.blt_eq] at this; exact this⟩
      · cases h
    · cases h
  · cases h
def sameAp : V → V → Bool
  | .ap l i v x o, .ap l' i' v' x' o' => Nat.beq l l' && Nat.beq i i' && Nat.beq v v' && Nat.beq x x' && Nat.beq o o'
  | _, _ => false
theorem sameAp_eq {x y : V} (h : sameAp x y = true) : x = y := by
  unfold sameAp at h
  split at h
  · simp only [Bool.and_eq_true] at h
    obtain ⟨⟨⟨⟨h1, h2⟩, h3⟩, h4⟩, h5⟩ := h
    rw [Nat.eq_of_beq_eq_true h1, Nat.eq_of_beq_eq_true h2, Nat.eq_of_beq_eq_true h3, Nat.eq_of_beq_eq_true h4, Nat.eq_of_beq_eq_true h5]
  · cases h
def hEqAp (P : Program) (H : Heap) (op : BinOp) (t : Nat) (x y : V) : Option V :=
  match sameAp x y, apAt H x, P.underlying t with
  | true, some _, some (.pointer e) => match (P.info? e).isSome, op with
    | true, .eql => some (.bool true)
    | true, .neq => some (.bool false)
    | _, _ => none
  | _, _, _ => none
theorem run_eq_ptr_same {tp te : TypeId} {j : TypeInfo} (a : Addr) (hp : P.underlying tp = some (.pointer te)) (hte : P.info? te = some j) :
    (binOp .eql tp (.pointer (some a)) (.pointer (some a))).run P W = .ok (.bool true) W := by
  have h : ∀ d : Nat, (Op.equalIn (d + 1) tp (.pointer (some a)) (.pointer (some a))).run P W = .ok true W := fun d => by
    simp [Op.equalIn, run_underlying hp, sizeOf, typeInfo, hte, run_sameAddr_same]
  simp only [binOp]
  simp [Op.equal, Op.maxDepth, h 9999]
theorem sound_eqAp (hG : Good W g H) {op : BinOp} {t : Nat} {x y : V} {v : V} {a b : Value} (xo yo : Operand) (h : hEqAp P H op t x y = some v) (hx : Rel W g H x a) (hy : Rel W g H y b) :
    Turns P W g H (do pure (.value (← (do eqGuard op t xo yo a b; binOp op t a b)))) v H := by
  unfold hEqAp at h
  split at h
  · rename_i p e h1 h2 h3
    obtain rfl := sameAp_eq h1
    obtain ⟨ty, sz, n, o⟩ := p
    obtain ⟨blk, q, cells, rfl, k1, k2, k3, k4, k5⟩ := apAt_spec hG h2 hx
    have hb : b = .pointer (some ⟨blk, o, none⟩) := by
      obtain ⟨blk', q', cells', rfl, m1, m2, m3, m4, m5⟩ := apAt_spec hG h2 hy
      unfold apAt at h2
      split at h2
      · rename_i l i ver idx off
        split at h2
        · rename_i ver' ty' sz' xs cp hg
          split at h2
          · rename_i hc
            simp only [Bool.and_eq_true] at hc
            obtain rfl : ver' = ver := Nat.eq_of_beq_eq_true hc.1
            cases hx with
            | ap _ _ _ _ _ _ _ _ ha =>
              have e1 := ha _ _ _ _ hg
              cases hy with
              | ap _ _ _ _ _ _ _ _ ha' =>
                have e2 := ha' _ _ _ _ hg
                rw [e1, e2]
          · cases h2
        · cases h2
      · cases h2
    subst hb
    split at h
    · rename_i hi
      obtain ⟨j, hj⟩ := Option.isSome_iff_exists.1 hi
      injection h with h; subst h
      exact ⟨_, W, g, .inl (by simp [eqGuard, run_eq_ptr_same _ h3 hj]), .refl _ _ _, hG, .bool _⟩
    · rename_i hi
      obtain ⟨j, hj⟩ := Option.isSome_iff_exists.1 hi
      injection h with h; subst h
      exact ⟨_, W, g, .inl (by simp [eqGuard, Lib.run_neq_ptr_same _ _ h3 hj]), .refl _ _ _, hG, .bool _⟩
    · cases h
  · cases h
def capOne (H : Heap) : V → Bool
  | .ap l i _ _ _ => match H.get l i with
    | some (.arr _ _ _ _ (some 1)) => true
    | _ => false
  | _ => false
def hConv (P : Program) (H : Heap) (s d : Nat) (x : V) : Option V :=
  match P.underlying s, P.underlying d, apAt H x with
  | some (.pointer t), some .unsafePointer, some _ => match P.info? t with
    | some j => match Nat.blt 0 j.size with
      | true => some x
      | false => none
    | none => none
  | some .unsafePointer, some (.pointer u), some (ty, sz, n, o) => match P.info? u with
    | some _ => match Nat.beq (P.cellsOf ty) sz && Nat.beq n 1 && capOne H x && liesAt P P.depth ty 1 o u 1 with
      | true => some x
      | false => none
    | none => none
  | _, _, _ => none
theorem sound_conv (hG : Good W g H) {s d : Nat} {x v : V} {c : Value} (h : hConv P H s d x = some v) (hx : Rel W g H x c) : Turns P W g H (do pure (.value (← convert s d c))) v H := by
  unfold hConv at h
  split at h
  · rename_i t p hs hd hp
    obtain ⟨ty, sz, n, o⟩ := p
    obtain ⟨blk, q, cells, rfl, k1, k2, k3, k4, k5⟩ := apAt_spec hG hp hx
    split at h
    · rename_i j hj
      split at h
      · rename_i hz
        rw [Nat.blt_eq] at hz
        injection h with h; subst h
        have hlt : o < cells.size := by rw [k2]; exact Nat.lt_of_lt_of_le k5 (Nat.mul_le_mul_right _ k3)
        exact ⟨_, W, g, .inl (by simp [Lib.run_to_unsafe W ⟨blk, o, none⟩ hs hd hj (by omega) (show W.shape? blk = some (ty, cells.size) by simp [World.shape?, k1]) hlt]), .refl _ _ _, hG, hx⟩
      · cases h
    · cases h
  · rename_i u ty sz n o hs hd hp
    obtain ⟨blk, q, cells, rfl, k1, k2, k3, k4, k5⟩ := apAt_spec hG hp hx
    split at h
    · rename_i j hj
      split at h
      · rename_i hz
        simp only [Bool.and_eq_true] at hz
        obtain ⟨⟨⟨z1, z2⟩, z3⟩, z4⟩ := hz
        have e1 : P.cellsOf ty = sz := Nat.eq_of_beq_eq_true z1
        injection h with h; subst h
        have hcells : cells.size = sz := by
          unfold capOne at z3
          split at z3
          · rename_i l i ver idx off
            split at z3
            · rename_i ver' ty' sz' xs hg
              cases hx with
              | ap _ _ _ _ _ a _ _ ha =>
                simp only [apAt, hg] at hp
                split at hp
                · rename_i hc
                  simp only [Bool.and_eq_true] at hc
                  obtain rfl : ver' = ver := Nat.eq_of_beq_eq_true hc.1
                  injection hp with hp; injection hp with a1 hp; injection hp with a2 hp; injection hp with a3 a4
                  have := ha _ _ _ _ hg
                  injection this with e1' e2'
                  obtain ⟨cc, m1, m2, m3, m3', m4, m5, _⟩ := hG.obj _ _ _ hg
                  rw [← e1', k1] at m1
                  injection m1 with m1; injection m1 with m1 _ _
                  rw [m1, m3, m5 1 rfl, Nat.one_mul, a2]
                · cases hp
            · cases z3
          · cases z3
        have hq : cells.size / P.cellsOf ty = 1 := by rw [hcells, e1]; exact Nat.div_self k4
        exact ⟨_, W, g, .inl (by simp [Lib.run_from_unsafe W (e := ty) (cells := cells.size) ⟨blk, o, none⟩ hs hd hj (by simp [World.shape?, k1]) (by rw [hq]; exact z4)]), .refl _ _ _, hG, hx⟩
      · cases h
    · cases h
  · cases h
/-! ### a row's head, and its bytes as a string -/
def hSliceData (H : Heap) (x : V) : Option V := match x with
  | .nils => some .nilp
  | .hs l i ver off n full => match H.get l i with
    | some (.arr ver' _ _ _ _) => match Nat.beq ver' ver && Nat.blt 0 n with
      | true => some (.ap l i ver off 0)
      | false => none
    | _ => none
  | _ => none
theorem sound_sliceData (hG : Good W g H) {x v : V} {c : Value} {ts : Array TypeId} {ty : TypeId} (h : hSliceData H x = some v) (hx : Rel W g H x c) : Turns P W g H (do pure (.value (← Builtin.unsafeSliceData_ ts ty #[c]))) v H := by
  unfold hSliceData at h
  split at h
  · injection h with h; subst h
    cases hx with
    | nils => exact ⟨_, W, g, .inl (by simp [Lib.run_unsafeSliceData_nil]), .refl _ _ _, hG, .nilp⟩
  · rename_i l i ver off n full
    split at h
    · rename_i ver' ty' sz xs cp hg
      split at h
      · rename_i hc
        simp only [Bool.and_eq_true] at hc
        obtain rfl : ver' = ver := Nat.eq_of_beq_eq_true hc.1
        have hn : 0 < n := by have := hc.2; rwa [Nat.blt_eq] at this
        injection h with h; subst h
        cases hx with
        | hs _ _ _ _ _ _ a m cap hd hv ha =>
          obtain ⟨rfl, rfl, ⟨e1, e2, e3⟩, e4⟩ := ha _ _ _ _ hg
          refine ⟨_, W, g, .inl (by rw [Sem.run_bind, Lib.run_unsafeSliceData_row W ts ty _ _ cap (by omega)]; rfl), .refl _ _ _, hG, ?_⟩
          refine .ap l i ver' off 0 _ hd hv fun ty2 sz2 xs2 cp2 h2 => ?_
          obtain ⟨q1, _⟩ := ha _ _ _ _ h2
          injection q1
      · cases h
    · cases h
  · cases h
def bytesV : List V → Option (List UInt8)
  | [] => some []
  | v :: r => match v, bytesV r with
    | .int .u8 (.ofNat m), some s => match Nat.ble m 255 with
      | true => some (m.toUInt8 :: s)
      | false => none
    | _, _ => none
theorem bytesV_spec : ∀ {vs : List V} {s : List UInt8}, bytesV vs = some s → s.length = vs.length ∧ ∀ (j : Nat) (x : UInt8), s[j]? = some x → vs[j]? = some (.int .u8 x.toNat)
  | [], s, h => by simp only [bytesV, Option.some.injEq] at h; subst h; exact ⟨rfl, by simp⟩
  | v :: r, s, h => by
    simp only [bytesV] at h
    split at h
    · rename_i m s' h2
      split at h
      · rename_i hc
        injection h with h; subst h
        obtain ⟨k1, k2⟩ := bytesV_spec h2
        refine ⟨by simp [k1], fun j x hj => ?_⟩
        cases j with
        | zero =>
          simp only [List.getElem?_cons_zero, Option.some.injEq] at hj ⊢
          subst hj
          have hc := Nat.le_of_ble_eq_true hc
          have : (m.toUInt8).toNat = m := by
            simp only [Nat.toUInt8, UInt8.toNat_ofNat']
            omega
          rw [this]; rfl
        | succ j => simpa using k2 j x (by simpa using hj)
      · cases h
    · cases h
def hStrOf (P : Program) (H : Heap) (pt : Nat) (p n : V) : Option (V × Heap) :=
  match p, n with
  | .nilp, .int .i64 (.ofNat 0) => some (.str [], H)
  | .ap l i ver 0 0, .int .i64 (.ofNat m) => match H.get l i, P.underlying pt with
    | some (.arr ver' ty sz xs cp), some (.pointer e) => match Nat.beq ver' ver && Nat.beq sz 1 && Nat.beq l H.lv && Nat.beq e ty && Nat.beq (P.cellsOf ty) 1 && Nat.blt 0 m && Nat.ble m xs.length && Nat.ble m roomB with
      | true => match bytesV (xs.take m) with
        | some s => some (.str s, H.hide i)
        | none => none
      | false => none
    | _, _ => none
  | _, _ => none
theorem sound_strOf (hG : Good W g H) {pt it ty : Nat} {p n v : V} {H' : Heap} {cp cn : Value} (h : hStrOf P H pt p n = some (v, H')) (hp : Rel W g H p cp) (hn : Rel W g H n cn) :
    Turns P W g H (do pure (.value (← Builtin.unsafeString_ #[pt, it] ty #[cp, cn]))) v H' := by
  unfold hStrOf at h
  split at h
  · injection h with h; injection h with h1 h2; subst h1; subst h2
    cases hp; cases hn
    exact ⟨_, W, g, .inl (by rw [Sem.run_bind, show Int.ofNat 0 = (0 : Int) from rfl, Lib.run_unsafeString_none W pt it ty none]; rfl), .refl _ _ _, hG, .str []⟩
  · rename_i l i ver m
    split at h
    · rename_i ver' ty' sz xs cap e hg hpt
      split at h
      · rename_i hc
        simp only [Bool.and_eq_true] at hc
        obtain ⟨⟨⟨⟨⟨⟨⟨c1, c2⟩, c3⟩, c4⟩, c5⟩, c6⟩, c7⟩, c8⟩ := hc
        obtain rfl : ver' = ver := Nat.eq_of_beq_eq_true c1
        obtain rfl : sz = 1 := Nat.eq_of_beq_eq_true c2
        obtain rfl : l = H.lv := Nat.eq_of_beq_eq_true c3
        obtain rfl : e = ty' := Nat.eq_of_beq_eq_true c4
        have c5 : P.cellsOf e = 1 := Nat.eq_of_beq_eq_true c5
        rw [Nat.blt_eq] at c6
        have c7 := Nat.le_of_ble_eq_true c7
        have c8 := Nat.le_of_ble_eq_true c8
        unfold roomB at c8
        split at h
        · rename_i s hs
          injection h with h; injection h with h1 h2; subst h1; subst h2
          obtain ⟨b1, b2⟩ := bytesV_spec hs
          have hsl : s.length = m := by rw [b1, List.length_take]; omega
          cases hn
          cases hp with
          | ap _ _ _ _ _ a hd hv ha =>
            obtain rfl := ha _ _ _ _ hg
            obtain ⟨cc, k1, k2, k3, k3', k4, k5, k6, k7, k8⟩ := hG.obj _ _ _ hg
            have hlt := hG.lt _ _ _ hg
            have hrun := Lib.run_unsafeString_row (P := P) W pt it ty e hpt c5 (g.ab H.lv i) cc.size (by simp [World.shape?, k1]) s (by intro hh; rw [hh] at hsl; simp at hsl; omega) (by rw [hsl, k3]; omega) (by omega) (fun j x hj => by
              have hj' := b2 j x hj
              have hjm : j < m := by rw [← hsl]; exact (List.getElem?_eq_some_iff.1 hj).1
              rw [List.getElem?_take, if_pos hjm] at hj'
              have hrel := k8 j _ 0 _ hj' rfl
              have hadd : (⟨g.ab H.lv i, 0, none⟩ : Addr).add j = ⟨g.ab H.lv i, j, none⟩ := by unfold Addr.add; split <;> simp_all
              have hjc : j < cc.size := by rw [k3]; omega
              rw [hadd, cell_of k1 hjc]
              rw [Nat.mul_one, Nat.add_zero] at hrel
              generalize cc.getD j undef = q at hrel
              cases hrel; rfl)
            rw [hsl] at hrun
            obtain ⟨g1, g2, g3, g4⟩ := good_hide hG hg
            have hfz : ∀ k, k ≠ g.ab H.lv i → (W.freeze ⟨g.ab H.lv i, 0, none⟩ m).heap[k]? = W.heap[k]? := fun k hk => by
              unfold World.freeze
              split
              · rfl
              · simp only [Array.getElem?_modify]
                rw [if_neg (fun e => hk e.symm)]
            have hsize : (W.freeze ⟨g.ab H.lv i, 0, none⟩ m).heap.size = W.heap.size := by unfold World.freeze; split <;> simp
            have hos : (W.freeze ⟨g.ab H.lv i, 0, none⟩ m).os = W.os ∧ (W.freeze ⟨g.ab H.lv i, 0, none⟩ m).tape = W.tape ∧ (W.freeze ⟨g.ab H.lv i, 0, none⟩ m).output = W.output := by unfold World.freeze; split <;> exact ⟨rfl, rfl, rfl⟩
            have hob : Own g H (g.ab H.lv i) := ⟨_, _, _, hg, rfl⟩
            have hst : Step W g H (W.freeze ⟨g.ab H.lv i, 0, none⟩ m) g (H.hide i) :=
              ⟨hos.1, hos.2.1, hos.2.2, Nat.le_of_eq hsize.symm, fun b hb hno => hfz b (fun e => hno (by rw [e]; exact hob)), g2.own, g2.dom, g2.new, g2.blk, g2.arr, g2.lv⟩
            have hst2 : ∀ l k o, (H.hide i).get l k = some o → o.blk g l k ≠ g.ab H.lv i := fun l k o ho e => by
              obtain ⟨q1, q2⟩ := Heap.get_hide ho
              exact q2 (hG.inj _ _ _ _ _ _ q1 hg e)
            refine ⟨.string ⟨s.toArray⟩, _, g, .inl (by rw [Sem.run_bind, show Int.ofNat m = ((m : Nat) : Int) from rfl, hrun]; rfl), hst, ⟨g1.dom, fun l k o ho => by rw [hsize]; exact g1.lt l k o ho, g1.inj, g1.fresh, fun l k o ho => ?_, hG.glob.step hst⟩, .str s⟩
            have ho' := hG.obj l k o (Heap.get_hide ho).1
            exact ho'.mono hst (hfz _ (hst2 l k o ho)) rfl rfl rfl
        · cases h
      · cases h
    · cases h
  · cases h
/-! ### make([]T, n) -/
def hMakeSlice (P : Program) (H : Heap) (t : Nat) (n c : V) : Option (V × Heap) :=
  match n, c with
  | .int _ (.ofNat n), .int _ (.ofNat c) => match P.underlying t with
    | some (.slice e) => match P.info? e, zeroV P e with
      | some i, some z => match z.solid && Nat.beq z.cells.length i.size && Nat.blt 0 i.size && Nat.ble n c && Nat.ble c 1000000 && Nat.ble i.bytes 100000 with
        | true => some (.hs H.lv H.L.length 0 0 n false, H.push (.arr 0 e i.size (List.replicate n z) none))
        | false => none
      | _, _ => none
    | _ => none
  | _, _ => none
theorem madeCells_get (z : Array Value) (n j t sz : Nat) (hz : z.size = sz) (ht : t < sz) (hj : j < n) : (madeCells z (n * sz)).getD (j * sz + t) undef = z.getD t undef := by
  have hlt : j * sz + t < n * sz := by
    have : (j + 1) * sz ≤ n * sz := Nat.mul_le_mul_right _ hj
    rw [Nat.succ_mul] at this; omega
  have hm : (j * sz + t) % z.size = t := by rw [hz, Nat.mul_comm, Nat.mul_add_mod, Nat.mod_eq_of_lt ht]
  simp only [madeCells, Array.getD_eq_getD_getElem?, Array.getElem?_map]
  rw [show (Array.range (n * sz))[j * sz + t]? = some (j * sz + t) by simp [hlt]]
  simp only [Option.map_some, Option.getD_some, hm]
  rw [getElem!_pos z t (by omega), Array.getElem?_eq_getElem (by omega)]; rfl
theorem sound_makeSlice (hG : Good W g H) {t : Nat} {n c v : V} {H' : Heap} {cn cc : Value} (h : hMakeSlice P H t n c = some (v, H')) (hn : Rel W g H n cn) (hcc : Rel W g H c cc) : Turns P W g H (do pure (.value (← Instr.makeSlice t cn cc))) v H' := by
  unfold hMakeSlice at h
  split at h
  · rename_i k1 n k2 c
    split at h
    · rename_i e ht
      split at h
      · rename_i i z hi hz
        split at h
        · rename_i hc
          simp only [Bool.and_eq_true] at hc
          obtain ⟨⟨⟨⟨⟨c1, c2⟩, c3⟩, c4⟩, c5⟩, c6⟩ := hc
          have c2 := Nat.eq_of_beq_eq_true c2
          rw [Nat.blt_eq] at c3
          have c4 := Nat.le_of_ble_eq_true c4
          have c5 := Nat.le_of_ble_eq_true c5
          have c6 := Nat.le_of_ble_eq_true c6
          injection h with h; injection h with h1 h2; subst h1; subst h2
          cases hn; cases hcc
          obtain ⟨zc, hz1, hz2⟩ : ∃ zc, i.zero = some zc ∧ Rel W g H z zc := by
            simp only [zeroV, hi, Option.bind_some, Option.map_eq_some_iff] at hz
            obtain ⟨zc, q1, rfl⟩ := hz
            exact ⟨zc, q1, rel_ofConst zc⟩
          obtain ⟨r1, r2, r3⟩ := rel_cells c1 hz2
          have hb : i.bytes * c ≤ 100000 * 1000000 := Nat.mul_le_mul c6 c5
          have hrun := run_make (P := P) W t e i zc ht hi hz1 k1 k2 (Int.ofNat n) (Int.ofNat c) (Int.natCast_nonneg n) (by show ((n : Nat) : Int) ≤ (c : Nat); omega) (by show ((i.bytes : Nat) : Int) * ((c : Nat) : Int) ≤ _; rw [← Int.natCast_mul]; omega) (by show ((c : Nat) : Int) ≤ _; omega)
          simp only [Int.toNat, Int.ofNat_eq_natCast] at hrun
          obtain ⟨h1, h2⟩ := good_push hG (O := .cells (madeCells zc.cells (c * i.size)) e) (o := .arr 0 e i.size (List.replicate n z) none) c (fun W' g' H' hW hg hH hst => by
            have hcap : g'.cap H.lv H.L.length = c := by rw [hg]; simp [Gh.add]
            refine ⟨madeCells zc.cells (c * i.size), ?_, c3, by rw [hcap, size_madeCells], by rw [hcap]; unfold maxLen; omega, by rw [hcap]; simpa using c4, by simp, fun j x hj => ?_, fun j x tt u hj htt => ?_, fun j x tt u hj htt => ?_⟩
            · rw [hW, hg]
              simp only [Gh.add, and_self, if_true]
              exact heap_alloc_new' _ _
            all_goals
              rw [List.getElem?_replicate] at hj
              split at hj
              · rename_i hjn
                injection hj with hj; subst hj
                first
                | exact c2
                | (have htl : tt < i.size := by rw [← c2]; exact (List.getElem?_eq_some_iff.1 htt).1
                   rw [madeCells_get zc.cells c j tt i.size (by rw [r1, c2]) htl (by omega)]
                   first | exact r2 tt u htt | exact (r3 tt u htt).mono hst)
              · cases hj)
          refine ⟨.slice (some ⟨W.heap.size, 0, none⟩) n c, _, _, .inl (by rw [Sem.run_bind, show Int.ofNat n = ((n : Nat) : Int) from rfl, show Int.ofNat c = ((c : Nat) : Int) from rfl, hrun]; rfl), h1, h2, ?_⟩
          refine .hs H.lv H.L.length 0 0 n false _ n c (.inr ⟨rfl, rfl⟩) (fun _ _ _ _ _ _ => Nat.zero_le _) fun ty2 sz2 xs2 cp2 hg2 => ?_
          rw [Heap.get_push, if_pos ⟨rfl, rfl⟩] at hg2
          injection hg2 with hg2; injection hg2 with _ _ _ e4 _
          refine ⟨by simp [Gh.add], rfl, ⟨c4, by simp [Gh.add], fun hh => by cases hh⟩, by rw [← e4]; simp⟩
        · cases h
      · cases h
    · cases h
  · cases h
/-- make([]T, n, c), taken for data at once -/
def pMakeData (P : Program) (t : Nat) (n c : V) : Option V :=
  match n, c with
  | .int _ (.ofNat n), .int _ (.ofNat c) => match P.underlying t with
    | some (.slice e) => match P.info? e, zeroV P e with
      | some i, some z => match z.solid && Nat.beq z.cells.length i.size && Nat.blt 0 i.size && Nat.ble n c && Nat.ble c 1000000 && Nat.ble i.bytes 100000 with
        | true => some (.sl i.size (List.replicate n z) (Nat.beq n c))
        | false => none
      | _, _ => none
    | _ => none
  | _, _ => none
theorem sound_makeData (hG : Good W g H) {t : Nat} {n c v : V} {cn cc : Value} (h : pMakeData P t n c = some v) (hn : Rel W g H n cn) (hcc : Rel W g H c cc) : Turns P W g H (do pure (.value (← Instr.makeSlice t cn cc))) v H := by
  unfold pMakeData at h
  split at h
  · rename_i k1 n k2 c
    split at h
    · rename_i e ht
      split at h
      · rename_i i z hi hz
        split at h
        · rename_i hc
          simp only [Bool.and_eq_true] at hc
          obtain ⟨⟨⟨⟨⟨c1, c2⟩, c3⟩, c4⟩, c5⟩, c6⟩ := hc
          have c2 := Nat.eq_of_beq_eq_true c2
          rw [Nat.blt_eq] at c3
          have c4 := Nat.le_of_ble_eq_true c4
          have c5 := Nat.le_of_ble_eq_true c5
          have c6 := Nat.le_of_ble_eq_true c6
          injection h with h; subst h
          cases hn; cases hcc
          obtain ⟨zc, hz1, hz2⟩ : ∃ zc, i.zero = some zc ∧ Rel W g H z zc := by
            simp only [zeroV, hi, Option.bind_some, Option.map_eq_some_iff] at hz
            obtain ⟨zc, q1, rfl⟩ := hz
            exact ⟨zc, q1, rel_ofConst zc⟩
          obtain ⟨r1, r2, r3⟩ := rel_cells c1 hz2
          have hb : i.bytes * c ≤ 100000 * 1000000 := Nat.mul_le_mul c6 c5
          have hrun := run_make (P := P) W t e i zc ht hi hz1 k1 k2 (Int.ofNat n) (Int.ofNat c) (Int.natCast_nonneg n) (by show ((n : Nat) : Int) ≤ (c : Nat); omega) (by show ((i.bytes : Nat) : Int) * ((c : Nat) : Int) ≤ _; rw [← Int.natCast_mul]; omega) (by show ((c : Nat) : Int) ≤ _; omega)
          simp only [Int.toNat, Int.ofNat_eq_natCast] at hrun
          have hgr := Grow.alloc W (.cells (madeCells zc.cells (c * i.size)) e)
          refine ⟨.slice (some ⟨W.heap.size, 0, none⟩) n c, _, g, .inl (by rw [Sem.run_bind, show Int.ofNat n = ((n : Nat) : Int) from rfl, show Int.ofNat c = ((c : Nat) : Int) from rfl, hrun]; rfl), hgr.step, hG.grow hgr, ?_⟩
          have at' : ∀ (j : Nat) (x : V) (tt : Nat) (u : V), (List.replicate n z)[j]? = some x → x.cells[tt]? = some u → x = z ∧ j < n ∧ tt < i.size := fun j x tt u hj hu => by
            rw [List.getElem?_replicate] at hj
            split at hj
            · rename_i hjn
              injection hj with hj; subst hj
              exact ⟨rfl, hjn, by rw [← c2]; exact (List.getElem?_eq_some_iff.1 hu).1⟩
            · cases hj
          have hr := Rel.sl (W := W.alloc (.cells (madeCells zc.cells (c * i.size)) e)) (g := g) (H := H) i.size (List.replicate n z) (Nat.beq n c) W.heap.size 0 c (fun j tt => zc.cells.getD tt undef) (fun hn => by
              obtain ⟨l, k, o, ho, hb⟩ := hn
              have := hG.lt l k o ho
              omega) c3 (by simpa using c4) (fun hf => by rw [List.length_replicate]; exact (Nat.eq_of_beq_eq_true hf).symm) (fun j x hj => by
              rw [List.getElem?_replicate] at hj
              split at hj
              · injection hj with hj; subst hj; exact c2
              · cases hj) (fun j x tt u hj hu => by
              obtain ⟨rfl, hjn, htl⟩ := at' j x tt u hj hu
              rw [Nat.zero_add, World.cell?_alloc_new]
              have hlt : j * i.size + tt < c * i.size := by
                have : (j + 1) * i.size ≤ c * i.size := Nat.mul_le_mul_right _ (by omega)
                rw [Nat.succ_mul] at this; omega
              have hm := madeCells_get zc.cells c j tt i.size (by rw [r1, c2]) htl (by omega)
              rw [Array.getD_eq_getD_getElem?, Array.getElem?_eq_getElem (by rw [size_madeCells]; exact hlt)] at hm
              rw [Array.getElem?_eq_getElem (by rw [size_madeCells]; exact hlt)]
              simpa using hm) (fun j x tt u hj hu => by
              obtain ⟨rfl, hjn, htl⟩ := at' j x tt u hj hu
              exact r2 tt u hu) (fun j x tt u hj hu => by
              obtain ⟨rfl, hjn, htl⟩ := at' j x tt u hj hu
              exact (r3 tt u hu).mono hgr.step)
          rw [List.length_replicate] at hr
          exact hr
        · cases h
      · cases h
    · cases h
  · cases h
/-! ### all of them -/
def isC : Operand → Bool
  | .const _ => true
  | _ => false
/-- nil against the literal nil -/
def hEqNil (P : Program) (op : BinOp) (t : Nat) (xo yo : Operand) (x y : V) : Option V := match x, y, isC xo || isC yo, P.underlying t with
  | .nili, .nili, true, some (.interface _) => match op with
    | .eql => some (.bool true)
    | .neq => some (.bool false)
    | _ => none
  | _, _, _, _ => none
theorem sound_eqNil (hG : Good W g H) {op : BinOp} {t : Nat} {xo yo : Operand} {x y v : V} {a b : Value} (h : hEqNil P op t xo yo x y = some v) (hx : Rel W g H x a) (hy : Rel W g H y b) :
    Turns P W g H (do pure (.value (← (do eqGuard op t xo yo a b; binOp op t a b)))) v H := by
  unfold hEqNil at h
  split at h
  · rename_i ms hc hu
    cases hx; cases hy
    have hg : (eqGuard op t xo yo .nilIface .nilIface).run P W = .ok () W := by
      cases xo <;> cases yo <;> first | (simp [isC] at hc; done) | (cases op <;> simp [eqGuard])
    have he : ∀ d : Nat, (Op.equalIn (d + 1) t .nilIface .nilIface).run P W = .ok true W := fun d => by
      simp [Op.equalIn, run_underlying' hu]
    have hu' : (Op.equal t .nilIface .nilIface).run P W = .ok true W := he 9999
    split at h
    · injection h with h; subst h
      exact ⟨_, W, g, .inl (by simp [hg, binOp_eql (a := .nilIface) rfl, hu']), .refl _ _ _, hG, .bool _⟩
    · injection h with h; subst h
      exact ⟨_, W, g, .inl (by simp [hg, binOp_neq (a := .nilIface) rfl, hu']), .refl _ _ _, hG, .bool _⟩
    · cases h
  · cases h
def hEq2 (P : Program) (H : Heap) (op : BinOp) (t : Nat) (xo yo : Operand) (x y : V) : Option V := match hEqNil P op t xo yo x y with
  | some v => some v
  | none => hEqAp P H op t x y
theorem sound_eq2 (hG : Good W g H) {op : BinOp} {t : Nat} {xo yo : Operand} {x y v : V} {a b : Value} (h : hEq2 P H op t xo yo x y = some v) (hx : Rel W g H x a) (hy : Rel W g H y b) :
    Turns P W g H (do pure (.value (← (do eqGuard op t xo yo a b; binOp op t a b)))) v H := by
  unfold hEq2 at h
  split at h
  · rename_i u hu; injection h with h; subst h; exact sound_eqNil hG hu hx hy
  · exact sound_eqAp hG xo yo h hx hy
def hMore (P : Program) (H : Heap) (ρ : Operand → V) (op : Op) : Option (V × Heap) := match op with
  | .alloc t => match isBld P t with
    | true => hAllocA P H t
    | false => none
  | .makeSlice t n c => hMakeSlice P H t (ρ n) (ρ c)
  | .convert s d x => (hConv P H s d (ρ x)).map fun v => (v, H)
  | .binOp op t x y _ => (hEq2 P H op t x y (ρ x) (ρ y)).map fun v => (v, H)
  | .call c => match c.callee with
    | .builtin .unsafeSliceData => match c.args.toList with
      | [x] => (hSliceData H (ρ x)).map fun v => (v, H)
      | _ => none
    | .builtin .unsafeString => match c.args.toList, c.argTypes.toList with
      | [p, n], [pt, _] => hStrOf P H pt (ρ p) (ρ n)
      | _, _ => none
    | _ => none
  | _ => none
theorem more_sound {ρ : Operand → V} {r : Operand → Value} {o : Oper} {v : V} {H' : Heap} (hG : Good W g H) (hρ : ∀ x, Rel W g H (ρ x) (r x)) (h : hMore P H ρ o.op = some (v, H')) : Turns P W g H (execOp r o) v H' := by
  have pure' : ∀ {q : Option V}, (q.map fun v => (v, H)) = some (v, H') → q = some v ∧ H' = H := fun {q} h => by
    simp only [Option.map_eq_some_iff] at h
    obtain ⟨u, hu, heq⟩ := h
    injection heq with h1 h2
    exact ⟨by rw [hu, h1], h2.symm⟩
  unfold hMore at h
  split at h
  · rename_i t heq
    split at h
    · unfold execOp; rw [heq]; exact sound_allocA hG h
    · cases h
  · rename_i t n c heq; unfold execOp; rw [heq]; exact sound_makeSlice hG h (hρ n) (hρ c)
  · rename_i s d x heq; obtain ⟨h, rfl⟩ := pure' h; unfold execOp; rw [heq]; exact sound_conv hG h (hρ x)
  · rename_i op t x y _ heq; obtain ⟨h, rfl⟩ := pure' h; unfold execOp; rw [heq]; exact sound_eq2 hG h (hρ x) (hρ y)
  · rename_i c heq
    unfold execOp; rw [heq]
    obtain ⟨callee, args, argTypes⟩ := c
    simp only at h
    split at h
    · split at h
      · rename_i x hargs
        obtain ⟨h, rfl⟩ := pure' h
        obtain rfl := array_of_toList hargs
        have := sound_sliceData (P := P) (ts := argTypes) (ty := o.type) hG h (hρ x)
        obtain ⟨c, W', g', h1, h2, h3, h4⟩ := this
        refine ⟨c, W', g', ?_, h2, h3, h4⟩
        rcases h1 with h1 | ⟨h1, h1'⟩
        · left; rw [← h1]; simp [resolve, invoke, builtin]
        · right; refine ⟨?_, h1'⟩; rw [← h1]; simp [resolve, invoke, builtin]
      · cases h
    · split at h
      · rename_i p n pt it hargs htys
        obtain rfl := array_of_toList hargs
        obtain rfl := array_of_toList htys
        have := sound_strOf (P := P) (it := it) (ty := o.type) hG h (hρ p) (hρ n)
        obtain ⟨c, W', g', h1, h2, h3, h4⟩ := this
        refine ⟨c, W', g', ?_, h2, h3, h4⟩
        rcases h1 with h1 | ⟨h1, h1'⟩
        · left; rw [← h1]; simp [resolve, invoke, builtin]
        · right; refine ⟨?_, h1'⟩; rw [← h1]; simp [resolve, invoke, builtin]
      · cases h
    · cases h
  · cases h
end
end Go.Ab

namespace Go.Ab
open Go
set_option linter.unusedSimpArgs false
set_option linter.unusedVariables false
section
variable {P : Program} {ops : Array Oper} {md : Region.Mode}
/-- of an operation's place: does it turn memory; what it reads; what it writes (by the numbers of the objects) -/
structure Info where
  eff : Bool
  K : Nat → Prop
  W : Nat → Prop
  call : Bool := false
def Same (K : Nat → Prop) (H H' : Heap) : Prop := ∀ i, K i → H'.L[i]? = H.L[i]?
theorem Same.refl (K : Nat → Prop) (H : Heap) : Same K H H := fun _ _ => rfl
theorem Same.trans {K : Nat → Prop} {A B C : Heap} (h : Same K A B) (k : Same K B C) : Same K A C := fun i hi => (k i hi).trans (h i hi)
theorem Same.symm {K : Nat → Prop} {A B : Heap} (h : Same K A B) : Same K B A := fun i hi => (h i hi).symm
def effB (op : Op) : Bool := match op with
  | .alloc _ | .box _ _ | .store _ _ _ => true
  | .call c => (match c.callee with
    | .builtin .append => true
    | .builtin .unsafeString => true
    | _ => false)
  | _ => false
theorem hMore_congr {H : Heap} {ρ ρ' : Operand → V} {o : Op} (h : ∀ x ∈ o.operands, ρ x = ρ' x) : hMore P H ρ o = hMore P H ρ' o := by
  cases o
  case makeSlice t n c => simp only [hMore, h n (by simp [Op.operands]), h c (by simp [Op.operands])]
  case convert s d x => simp only [hMore, h x (by simp [Op.operands])]
  case binOp op t x y _ => simp only [hMore, h x (by simp [Op.operands]), h y (by simp [Op.operands])]
  case call c =>
    simp only [hMore]
    split
    · split
      · rename_i x ha
        rw [h x (by simp [Op.operands, Call.operands]; right; rw [← Array.mem_toList_iff, ha]; simp)]
      · rfl
    · split
      · rename_i p n pt it ha ht
        rw [h p (by simp [Op.operands, Call.operands]; right; rw [← Array.mem_toList_iff, ha]; simp), h n (by simp [Op.operands, Call.operands]; right; rw [← Array.mem_toList_iff, ha]; simp)]
      · rfl
    · rfl
  all_goals rfl
def QP (P : Program) (H : Heap) (ρ : Operand → V) (o : Oper) (v : V) : Prop := pv P H ρ o.op = some v ∨ (∃ c f args, o.op = .call c ∧ target ρ c = some (f, args) ∧ HCall P f args H v H) ∨ hMore P H ρ o.op = some (v, H) ∨ ∃ t n c, o.op = .makeSlice t n c ∧ pMakeData P t (ρ n) (ρ c) = some v
theorem QP_congr {H : Heap} {ρ ρ' : Operand → V} {o : Oper} {v : V} (h : ∀ x ∈ o.op.operands, ρ x = ρ' x) (hq : QP P H ρ o v) : QP P H ρ' o v := by
  rcases hq with hq | ⟨c, f, args, h1, h2, h3⟩ | hq | ⟨t, n, c, h1, h2⟩
  · exact .inl (by rw [← pv_congr h]; exact hq)
  · exact .inr (.inl ⟨c, f, args, h1, by rw [← target_congr (ρ := ρ) (fun x hx => h x (by rw [h1]; exact hx))]; exact h2, h3⟩)
  · exact .inr (.inr (.inl (by rw [← hMore_congr h]; exact hq)))
  · exact .inr (.inr (.inr ⟨t, n, c, h1, by rw [← h n (by rw [h1]; simp [Op.operands]), ← h c (by rw [h1]; simp [Op.operands])]; exact h2⟩))
/-- what an effect does -/
def Eff2 (P : Program) (H : Heap) (ρ : Operand → V) (op : Op) (v : V) (H' : Heap) : Prop := ox P H ρ op = some (v, H') ∨ hMore P H ρ op = some (v, H')
theorem ox_congr {H : Heap} {ρ ρ' : Operand → V} {o : Op} (he : effB o = true) (h : ∀ x ∈ o.operands, ρ x = ρ' x) : ox P H ρ o = ox P H ρ' o := by
  cases o
  case alloc t => rfl
  case box t x => simp only [ox, h x (by simp [Op.operands])]
  case store t a x => simp only [ox, h x (by simp [Op.operands]), h a (by simp [Op.operands])]
  case call c =>
    simp only [effB] at he
    split at he
    · rename_i hc
      simp only [ox, hc]
      split
      · rename_i s x t u ha ht
        rw [h s (by simp [Op.operands, Call.operands]; right; rw [← Array.mem_toList_iff, ha]; simp), h x (by simp [Op.operands, Call.operands]; right; rw [← Array.mem_toList_iff, ha]; simp)]
      · rfl
    · rename_i hc
      simp only [ox, hc, pv, pBuiltin]
    · cases he
  all_goals cases he
theorem eff2_congr {H H' : Heap} {ρ ρ' : Operand → V} {o : Op} {v : V} (he : effB o = true) (h : ∀ x ∈ o.operands, ρ x = ρ' x) (hx : Eff2 P H ρ o v H') : Eff2 P H ρ' o v H' :=
  hx.imp (fun q => by rw [← ox_congr he h]; exact q) (fun q => by rw [← hMore_congr h]; exact q)
/-- an operation, wherever it is drawn -/
def MV (P : Program) (ops : Array Oper) (S : Heap → Prop) (c : Info) (σ : St) (o : Oper) (v : V) (H' : Heap) : Prop :=
  (wantedV ops σ o = some false ∧ v = .tup [] ∧ H' = σ.H) ∨
  (wantedV ops σ o = some true ∧ S σ.H ∧
    ((c.eff = false ∧ H' = σ.H ∧ ∀ H'', S H'' → Same c.K σ.H H'' → QP P H'' σ.ev o v) ∨
     (c.eff = true ∧ effB o.op = true ∧ Eff2 P σ.H σ.ev o.op v H' ∧ S H' ∧ ∀ i, ¬ c.W i → H'.L[i]? = σ.H.L[i]?)))
def moved (σ : St) (o : Oper) (v : V) (H' : Heap) : St := ({ σ with H := H' } : St).put o.dst v
theorem moved_ev {σ : St} {o : Oper} {v : V} {H' : Heap} {x : Operand} (h : ∀ d, o.dst = some d → x ≠ .tmp d) : (moved σ o v H').ev x = σ.ev x :=
  (ev_put (σ := { σ with H := H' }) h).trans (by cases x <;> rfl)
theorem moved_H {σ : St} {o : Oper} {v : V} {H' : Heap} : (moved σ o v H').H = H' := put_H
theorem moved_wanted {σ : St} {o oj : Oper} {v : V} {H' : Heap} (h : ∀ d, o.dst = some d → d ∉ oj.looksAt ops) : wantedV ops (moved σ o v H') oj = wantedV ops σ oj :=
  (wantedV_put (σ := { σ with H := H' }) h).trans rfl
theorem moved_comm {σ : St} {oi oj : Oper} {v u : V} {A B C : Heap} (h : ∀ d, oi.dst = some d → oj.dst ≠ some d) : moved (moved σ oi v A) oj u C = moved (moved σ oj u B) oi v C := by
  have e1 : ∀ (o : Oper) (w : V) (H : Heap), ({ moved σ o w H with H := C } : St) = ({ σ with H := C } : St).put o.dst w := fun o w H => by unfold moved; cases o.dst <;> rfl
  unfold moved at e1 ⊢
  rw [e1, e1]
  exact put_comm v u h
theorem mv_comm {S : Heap → Prop} {ci cj : Info} {oi oj : Oper} (hap : oi.apart ops oj = true) (hee : ¬ (ci.eff = true ∧ cj.eff = true)) (hij : ci.eff = false → cj.eff = true → ∀ x, ci.K x → ¬ cj.W x) (hji : cj.eff = false → ci.eff = true → ∀ x, cj.K x → ¬ ci.W x)
    {σ : St} {v u : V} {H1 H2 : Heap} (h1 : MV P ops S ci σ oi v H1) (h2 : MV P ops S cj (moved σ oi v H1) oj u H2) :
    ∃ H1', MV P ops S cj σ oj u H1' ∧ MV P ops S ci (moved σ oj u H1') oi v H2 := by
  obtain ⟨a1, a2, a3⟩ := Oper.apart_spec hap
  have evj : ∀ {w : V} {H : Heap}, ∀ x ∈ oj.op.operands, (moved σ oi w H).ev x = σ.ev x := fun {w H} x hx => moved_ev fun d hd => looks_operands (a1 d hd) x hx
  have evi : ∀ {w : V} {H : Heap}, ∀ x ∈ oi.op.operands, (moved σ oj w H).ev x = σ.ev x := fun {w H} x hx => moved_ev fun d hd => looks_operands (a3 d hd) x hx
  have wj : ∀ {w : V} {H : Heap}, wantedV ops (moved σ oi w H) oj = wantedV ops σ oj := moved_wanted a1
  have wi : ∀ {w : V} {H : Heap}, wantedV ops (moved σ oj w H) oi = wantedV ops σ oi := moved_wanted a3
  unfold MV at h1 h2 ⊢
  rw [wj, moved_H] at h2
  simp only [wi, moved_H]
  rcases h1 with ⟨b1, rfl, rfl⟩ | ⟨b1, bs, ⟨b2, rfl, b3⟩ | ⟨b2, b3, b4, b5, b6⟩⟩
  · rcases h2 with ⟨d1, rfl, rfl⟩ | ⟨d1, ds, ⟨d2, rfl, d3⟩ | ⟨d2, d3, d4, d5, d6⟩⟩
    · exact ⟨σ.H, .inl ⟨d1, rfl, rfl⟩, .inl ⟨b1, rfl, rfl⟩⟩
    · exact ⟨σ.H, .inr ⟨d1, ds, .inl ⟨d2, rfl, fun H'' k1 k2 => QP_congr evj (d3 H'' k1 k2)⟩⟩, .inl ⟨b1, rfl, rfl⟩⟩
    · exact ⟨H2, .inr ⟨d1, ds, .inr ⟨d2, d3, eff2_congr d3 evj d4, d5, d6⟩⟩, .inl ⟨b1, rfl, rfl⟩⟩
  · rcases h2 with ⟨d1, rfl, rfl⟩ | ⟨d1, ds, ⟨d2, rfl, d3⟩ | ⟨d2, d3, d4, d5, d6⟩⟩
    · exact ⟨σ.H, .inl ⟨d1, rfl, rfl⟩, .inr ⟨b1, bs, .inl ⟨b2, rfl, fun H'' k1 k2 => QP_congr (fun x hx => (evi x hx).symm) (b3 H'' k1 k2)⟩⟩⟩
    · exact ⟨σ.H, .inr ⟨d1, ds, .inl ⟨d2, rfl, fun H'' k1 k2 => QP_congr evj (d3 H'' k1 k2)⟩⟩, .inr ⟨b1, bs, .inl ⟨b2, rfl, fun H'' k1 k2 => QP_congr (fun x hx => (evi x hx).symm) (b3 H'' k1 k2)⟩⟩⟩
    · refine ⟨H2, .inr ⟨d1, ds, .inr ⟨d2, d3, eff2_congr d3 evj d4, d5, d6⟩⟩, .inr ⟨b1, d5, .inl ⟨b2, rfl, fun H'' k1 k2 => QP_congr (fun x hx => (evi x hx).symm) (b3 H'' k1 (Same.trans (fun x hx => d6 x (hij b2 d2 x hx)) k2))⟩⟩⟩
  · rcases h2 with ⟨d1, rfl, rfl⟩ | ⟨d1, ds, ⟨d2, rfl, d3⟩ | ⟨d2, d3, d4, d5, d6⟩⟩
    · exact ⟨σ.H, .inl ⟨d1, rfl, rfl⟩, .inr ⟨b1, bs, .inr ⟨b2, b3, eff2_congr b3 (fun x hx => (evi x hx).symm) b4, b5, b6⟩⟩⟩
    · have hs : Same cj.K σ.H H2 := fun x hx => b6 x (hji d2 b2 x hx)
      exact ⟨σ.H, .inr ⟨d1, bs, .inl ⟨d2, rfl, fun H'' k1 k2 => QP_congr evj (d3 H'' k1 (hs.symm.trans k2))⟩⟩, .inr ⟨b1, bs, .inr ⟨b2, b3, eff2_congr b3 (fun x hx => (evi x hx).symm) b4, b5, b6⟩⟩⟩
    · exact (hee ⟨b2, d2⟩).elim
/-- a call that turns memory -/
def MC (P : Program) (ops : Array Oper) (S : Heap → Prop) (c : Info) (σ : St) (o : Oper) (K : V → Heap → Prop) (Kp : V → St → Prop) : Prop :=
  c.eff = true ∧ c.call = true ∧ wantedV ops σ o = some true ∧ ∃ cl f args Post, o.op = .call cl ∧ target σ.ev cl = some (f, args) ∧ HRel P f args σ.H Post ∧
    (∀ v H', Post (.ret v) H' → S H' ∧ (∀ i, ¬ c.W i → H'.L[i]? = σ.H.L[i]?) ∧ K v H') ∧ ∀ v H', Post (.pan v) H' → Kp v { σ with H := H' }
theorem MC.imp {S : Heap → Prop} {c : Info} {σ : St} {o : Oper} {K K' : V → Heap → Prop} {Kp : V → St → Prop} (h : MC P ops S c σ o K Kp) (hk : ∀ v H', S H' → (∀ i, ¬ c.W i → H'.L[i]? = σ.H.L[i]?) → K v H' → K' v H') : MC P ops S c σ o K' Kp := by
  obtain ⟨h1, h2, h3, cl, f, args, Post, h4, h5, h6, h7, h8⟩ := h
  exact ⟨h1, h2, h3, cl, f, args, Post, h4, h5, h6, fun v H' hp => by obtain ⟨a, b, c⟩ := h7 v H' hp; exact ⟨a, b, hk v H' a b c⟩, h8⟩
/-- b waits for a, by way of others -/
inductive Dep (md : Region.Mode) (ops : Array Oper) (a : Nat) : Nat → Prop where
  | one (b : Nat) (o : Oper) (e : Edge) (ho : ops[b]? = some o) (he : e ∈ o.after) (hb : Region.binds md e = true) (hon : e.on = a) : Dep md ops a b
  | more (b : Nat) (o : Oper) (e : Edge) (ho : ops[b]? = some o) (he : e ∈ o.after) (hb : Region.binds md e = true) (h : Dep md ops a e.on) : Dep md ops a b
/-- two places that do not wait for one another -/
def Free (md : Region.Mode) (ops : Array Oper) (i j : Nat) : Prop := ¬ Dep md ops i j ∧ ¬ Dep md ops j i
/-- what is done is done behind all that it waits for -/
def Down (md : Region.Mode) (ops : Array Oper) (listed : Array Bool) : Prop := ∀ b o, ops[b]? = some o → listed.getD b false = true → ∀ e ∈ o.after, Region.binds md e = true → listed.getD e.on false = true
theorem Down.dep {listed : Array Bool} (h : Down md ops listed) {a b : Nat} (hd : Dep md ops a b) : listed.getD b false = true → listed.getD a false = true := by
  induction hd with
  | one b o e ho he hb hon => intro hl; subst hon; exact h b o ho hl e he hb
  | more b o e ho he hb _ ih => intro hl; exact ih (h b o ho hl e he hb)
theorem Down.ready {listed : Array Bool} (h : Down md ops listed) {a b : Nat} (hb : b ∈ Region.ready md ops listed) (hd : Dep md ops a b) : listed.getD a false = true := by
  obtain ⟨_, o', ho', hall⟩ := mem_ready.1 hb
  cases hd with
  | one _ o e ho he hb hon => rw [ho'] at ho; injection ho with ho; subst ho; subst hon; exact hall e he hb
  | more _ o e ho he hb hd => rw [ho'] at ho; injection ho with ho; subst ho; exact h.dep hd (hall e he hb)
theorem Down.set {listed : Array Bool} (h : Down md ops listed) {k : Nat} (hk : k ∈ Region.ready md ops listed) : Down md ops (listed.setIfInBounds k true) := fun b o ho hl e he hb => by
  obtain ⟨_, o', ho', hall⟩ := mem_ready.1 hk
  have up : ∀ j, listed.getD j false = true → (listed.setIfInBounds k true).getD j false = true := fun j hj => by
    by_cases hjk : k = j
    · subst hjk
      rcases Nat.lt_or_ge k listed.size with q | q
      · simp [Array.getD_eq_getD_getElem?, q]
      · simp [Array.getD_eq_getD_getElem?, Array.getElem?_eq_none q] at hj
    · rw [getD_set_ne false hjk]; exact hj
  refine up _ ?_
  by_cases hbk : k = b
  · subst hbk
    rw [ho'] at ho; injection ho with ho; subst ho
    exact hall e he hb
  · rw [getD_set_ne false hbk] at hl
    exact h b o ho hl e he hb
/-- what two places may do that no edge binds -/
def PairOk (md : Region.Mode) (ops : Array Oper) (i j : Nat) (ci cj : Info) : Prop := Free md ops i j → (¬ (ci.eff = true ∧ cj.eff = true)) ∧ (ci.eff = false → cj.eff = true → ∀ x, ci.K x → ¬ cj.W x) ∧ (cj.eff = false → ci.eff = true → ∀ x, cj.K x → ¬ ci.W x)
/-- what may be done at a place, held against earlier ones -/
def GP (md : Region.Mode) (ops : Array Oper) (prev : List (Nat × Info)) (j : Nat) (c : Info) : Prop := ∀ p ∈ prev, PairOk md ops p.1 j p.2 c
section
variable (P ops) (md) (S : Heap → Prop) (G : Nat → Info → Prop) (Kp : V → St → Prop)
def GoA (i : Nat) (K : St → Prop) (σ : St) : Prop :=
  match ops[i]? with
  | none => K σ
  | some o => ∃ c, G i c ∧ ((∃ v H', c.call = false ∧ MV P ops S c σ o v H' ∧ K (moved σ o v H')) ∨ MC P ops S c σ o (fun v H' => K (moved σ o v H')) Kp)
def AM (R : St → Prop) : Nat → Array Bool → St → Prop
  | 0, listed, σ => Region.ready md ops listed = [] ∧ R σ
  | fuel + 1, listed, σ => (Region.ready md ops listed = [] → R σ) ∧ ∀ i ∈ Region.ready md ops listed, GoA P ops S G Kp i (AM R fuel (listed.setIfInBounds i true)) σ
end
variable {S : Heap → Prop} {G G' : Nat → Info → Prop} {Kp : V → St → Prop}
theorem MV.goA {i : Nat} {o : Oper} {v : V} {σ : St} {c : Info} {H' : Heap} (hi : ops[i]? = some o) (hc : G i c) (hcl : c.call = false) (hy : MV P ops S c σ o v H') {K : St → Prop} (h : K (moved σ o v H')) : GoA P ops S G Kp i K σ := by
  unfold GoA
  simp only [hi]
  exact ⟨c, hc, .inl ⟨v, H', hcl, hy, h⟩⟩
theorem AM.mono (hg : ∀ j c, G' j c → G j c) {R : St → Prop} : ∀ (fuel : Nat) (listed : Array Bool) (σ : St), AM P ops md S G' Kp R fuel listed σ → AM P ops md S G Kp R fuel listed σ
  | 0, _, _, h => h
  | fuel + 1, listed, σ, h => ⟨h.1, fun i hi => by
    have h1 := h.2 i hi
    unfold GoA at h1 ⊢
    split
    · rename_i ho; simp only [ho] at h1; exact AM.mono hg fuel _ _ h1
    · rename_i o ho
      simp only [ho] at h1
      obtain ⟨c, h0, ⟨v, H', hc, h2, h3⟩ | hm⟩ := h1
      · exact ⟨c, hg _ _ h0, .inl ⟨v, H', hc, h2, AM.mono hg fuel _ _ h3⟩⟩
      · exact ⟨c, hg _ _ h0, .inr (hm.imp fun v H' _ _ k => AM.mono hg fuel _ _ k)⟩⟩
theorem wpOp_of_GoA {W0 : World} {g0 : Gh} {H0 : Heap} {i : Nat} {σ : St} {K : St → Prop} {K' : Act → World → Prop} {Q' : Exit → Act → World → Prop}
    (hk : ∀ W a g σ, K σ → (σ.e0 = H0.E ∧ Step W0 g0 H0 W g σ.H) → GoodSt W a g σ → K' a W) (hkp : ∀ W a g σ v c, Kp v σ → (σ.e0 = H0.E ∧ Step W0 g0 H0 W g σ.H) → GoodSt W a g σ → Rel W g σ.H v c → Q' (.panic [{ v := c, recovered := false }]) a W)
    {W : World} {a : Act} {g : Gh} (hh : GoA P ops S G Kp i K σ) (hS : σ.e0 = H0.E ∧ Step W0 g0 H0 W g σ.H) (hG : GoodSt W a g σ) : wpOp P ops Q' i K' a W := by
  unfold GoA at hh
  unfold wpOp
  split
  · rename_i ho; simp only [ho] at hh; exact hk W a g σ hh hS hG
  · rename_i o ho
    simp only [ho] at hh
    obtain ⟨c0, _, hh⟩ := hh
    have he0 : ∀ {v : V} {H' : Heap}, (moved σ o v H').e0 = σ.e0 := fun {v H'} => by unfold moved; cases o.dst <;> rfl
    rcases hh with ⟨v, H', _, hy, hkk⟩ | ⟨_, _, hw, cl, f, args, Post, hop, ht, hc, hret, hpan⟩
    · have fin : ∀ c W' g', Step W g σ.H W' g' H' → Good W' g' H' → Rel W' g' H' v c → K' (a.put o.dst c) W' := fun c W' g' s1 s2 s3 =>
        hk W' _ g' _ hkk (by rw [moved_H, he0]; exact ⟨hS.1, hS.2.trans s1⟩) (hG.next s1 s2 s3 o.dst)
      rcases hy with ⟨hw, rfl, rfl⟩ | ⟨hw, hs, ⟨_, rfl, hv⟩ | ⟨_, _, hv, _, _⟩⟩
      · rw [wantedV_sound hG hw, if_neg (by simp)]
        exact fin undef W g (.refl _ _ _) hG.good (.tup [] #[] rfl (by simp))
      · rw [wantedV_sound hG hw, if_pos rfl]
        left
        unfold Oper.wp
        rcases hv σ.H hs (.refl _ _) with hv | ⟨c, f, args, hop, ht, hcl⟩ | hv | ⟨t, n, cz, hop, hv⟩
        · obtain ⟨c, W', h1, h2, h3⟩ := pv_sound (P := P) hG.good (r := a.eval) hG.ev hv
          rw [h1]
          exact fin c W' g h2.step (hG.good.grow h2) h3
        · obtain ⟨cargs, k1, k2⟩ := target_sound (P := P) (ty := o.type) hG.ev ht
          have hex : (execOp a.eval o).run P W = (callFunc f cargs).run P W := by
            rw [← k2 W]; unfold execOp; rw [hop]
          rcases hcl W g cargs hG.good k1 with ⟨e1, e2⟩ | ⟨c, W', g', e1, e2, e3, e4⟩
          · rw [hex, e1]
            refine e2.mono fun e W' ⟨c, g', he, s1, s2, s3⟩ => ?_
            subst he
            exact fin c W' g' s1 s2 s3
          · rw [hex, e1]
            exact fin c W' g' e2 e3 e4
        · obtain ⟨c, W', g', h1, h2, h3, h4⟩ := more_sound (P := P) hG.good hG.ev hv
          rcases h1 with h1 | ⟨h1, h1'⟩
          · rw [h1]; exact fin c W' g' h2 h3 h4
          · rw [h1]; subst h1'; exact fin _ W' g' h2 h3 h4
        · obtain ⟨c, W', g', h1, h2, h3, h4⟩ := sound_makeData (P := P) hG.good hv (hG.ev n) (hG.ev cz)
          have hex : (execOp a.eval o).run P W = (do pure (.value (← Instr.makeSlice t (a.eval n) (a.eval cz))) : Sem Next).run P W := by unfold execOp; rw [hop]
          rw [hex]
          rcases h1 with h1 | ⟨h1, h1'⟩
          · rw [h1]; exact fin c W' g' h2 h3 h4
          · rw [h1]; subst h1'; exact fin _ W' g' h2 h3 h4
      · rw [wantedV_sound hG hw, if_pos rfl]
        left
        unfold Oper.wp
        obtain ⟨c, W', g', h1, h2, h3, h4⟩ := hv.elim (fun q => ox_sound (P := P) hG.good hG.ev q) (fun q => more_sound (P := P) hG.good hG.ev q)
        rcases h1 with h1 | ⟨h1, h1'⟩
        · rw [h1]; exact fin c W' g' h2 h3 h4
        · rw [h1]; subst h1'; exact fin _ W' g' h2 h3 h4
    · rw [wantedV_sound hG hw, if_pos rfl]
      left
      unfold Oper.wp
      obtain ⟨cargs, k1, k2⟩ := target_sound (P := P) (ty := o.type) hG.ev ht
      have hex : (execOp a.eval o).run P W = (callFunc f cargs).run P W := by
        rw [← k2 W]; unfold execOp; rw [hop]
      obtain ⟨e1, e2⟩ := hc W g cargs hG.good k1
      rw [hex, e1]
      refine e2.mono fun e W' ⟨o', H', g', p1, p2, p3, p4⟩ => ?_
      cases o' with
      | ret r =>
        obtain ⟨c', he, hr'⟩ := p4
        subst he
        exact hk W' (a.put o.dst c') g' _ (hret r H' p1).2.2 (by rw [moved_H, he0]; exact ⟨hS.1, hS.2.trans p2⟩) (hG.next p2 p3 hr' o.dst)
      | pan v =>
        obtain ⟨c', he, hr'⟩ := p4
        subst he
        have hn := hG.next p2 p3 (.any undef) none
        exact hkp W' a g' { σ with H := H' } v c' (hpan v H' p1) ⟨hS.1, hS.2.trans p2⟩ hn hr'
theorem wpAny_of_AM {W0 : World} {g0 : Gh} {H0 : Heap} {R : St → Prop} {Q' : Exit → Act → World → Prop} (hR : ∀ W a g σ, R σ → (σ.e0 = H0.E ∧ Step W0 g0 H0 W g σ.H) → GoodSt W a g σ → Q' .normal a W)
    (hkp : ∀ W a g σ v c, Kp v σ → (σ.e0 = H0.E ∧ Step W0 g0 H0 W g σ.H) → GoodSt W a g σ → Rel W g σ.H v c → Q' (.panic [{ v := c, recovered := false }]) a W) :
    ∀ (fuel : Nat) (listed : Array Bool) (σ : St) (W : World) (a : Act) (g : Gh), AM P ops md S G Kp R fuel listed σ → (σ.e0 = H0.E ∧ Step W0 g0 H0 W g σ.H) → GoodSt W a g σ → wpAny P md ops Q' fuel listed a W
  | 0, _, σ, W, a, g, h, hS, hG => ⟨h.1, hR W a g σ h.2 hS hG⟩
  | fuel + 1, listed, σ, W, a, g, h, hS, hG => ⟨fun h0 => hR W a g σ (h.1 h0) hS hG, fun i hi => wpOp_of_GoA (fun W a g σ' hk hS hG => wpAny_of_AM hR hkp fuel _ σ' W a g hk hS hG) hkp (h.2 i hi) hS hG⟩
/-- what a quiet operation yields, a call leaves to it -/
theorem mc_comm {ci cj : Info} {oi oj : Oper} (hap : oi.apart ops oj = true) (hci : ci.eff = false) (hij : ∀ x, ci.K x → ¬ cj.W x) (hkp : ∀ v (σ : St) t', Kp v σ → t'.length = σ.t.length → Kp v { σ with t := t' })
    {σ : St} {v : V} {H1 : Heap} (h1 : MV P ops S ci σ oi v H1) {K : V → Heap → Prop} (h2 : MC P ops S cj (moved σ oi v H1) oj K Kp) : H1 = σ.H ∧
    MC P ops S cj σ oj (fun u H' => MV P ops S ci (moved σ oj u H') oi v H' ∧ K u H') Kp := by
  obtain ⟨a1, a2, a3⟩ := Oper.apart_spec hap
  have evj : ∀ {w : V} {H : Heap}, ∀ x ∈ oj.op.operands, (moved σ oi w H).ev x = σ.ev x := fun {w H} x hx => moved_ev fun d hd => looks_operands (a1 d hd) x hx
  have evi : ∀ {w : V} {H : Heap}, ∀ x ∈ oi.op.operands, (moved σ oj w H).ev x = σ.ev x := fun {w H} x hx => moved_ev fun d hd => looks_operands (a3 d hd) x hx
  have hH : H1 = σ.H := by
    rcases h1 with ⟨_, _, h⟩ | ⟨_, _, ⟨_, h, _⟩ | ⟨h, _⟩⟩
    · exact h
    · exact h
    · rw [hci] at h; cases h
  subst hH
  refine ⟨rfl, ?_⟩
  obtain ⟨b1, b2, b3, cl, f, args, Post, b4, b5, b6, b7, b8⟩ := h2
  rw [moved_wanted a1] at b3
  rw [target_congr (ρ' := σ.ev) (fun x hx => evj x (by rw [b4]; exact hx))] at b5
  rw [moved_H] at b6 b7
  refine ⟨b1, b2, b3, cl, f, args, Post, b4, b5, b6, fun u H' hp => ?_, fun u H' hp => ?_⟩
  · obtain ⟨c1, c2, c3⟩ := b7 u H' hp
    refine ⟨c1, c2, ?_, c3⟩
    unfold MV at h1 ⊢
    rw [moved_wanted a3, moved_H]
    rcases h1 with ⟨d1, d2, _⟩ | ⟨d1, d2, ⟨d3, _, d4⟩ | ⟨h, _⟩⟩
    · exact .inl ⟨d1, d2, rfl⟩
    · exact .inr ⟨d1, c1, .inl ⟨d3, rfl, fun H'' k1 k2 => QP_congr (fun x hx => (evi x hx).symm) (d4 H'' k1 (Same.trans (fun x hx => c2 x (hij x hx)) k2))⟩⟩
    · rw [hci] at h; cases h
  · have := hkp u _ σ.t (b8 u H' hp) (by unfold moved; cases oi.dst <;> simp [St.put])
    have e : ({ ({ moved σ oi v σ.H with H := H' } : St) with t := σ.t } : St) = { σ with H := H' } := by unfold moved; cases oi.dst <;> rfl
    rw [e] at this; exact this
theorem AM_first (hkp : ∀ v (σ : St) t', Kp v σ → t'.length = σ.t.length → Kp v { σ with t := t' }) {R : St → Prop} {i : Nat} {oi : Oper} {ci : Info} (hi : ops[i]? = some oi) (hci : G i ci) (hcc : ci.call = false) (hg : ∀ j c, G' j c → G j c ∧ PairOk md ops i j ci c) :
    ∀ (fuel : Nat) (listed : Array Bool) (σ : St), Down md ops listed →
      (∀ j oj, ops[j]? = some oj → j ≠ i → listed.getD j true = false → (∀ e ∈ oj.after, Region.binds md e = true → e.on ≠ i) → oi.apart ops oj = true) →
      i ∈ Region.ready md ops listed → ∀ v H', MV P ops S ci σ oi v H' → AM P ops md S G' Kp R fuel (listed.setIfInBounds i true) (moved σ oi v H') → AM P ops md S G Kp R (fuel + 1) listed σ := by
  intro fuel
  induction fuel with
  | zero =>
    intro listed σ _ _ hr v H' hy H
    refine ⟨fun h => (by rw [h] at hr; cases hr), fun j hj => ?_⟩
    by_cases hji : j = i
    · subst hji; exact hy.goA hi hci hcc (AM.mono (fun j c h => (hg j c h).1) _ _ _ H)
    · have := ready_mono hj hji
      rw [H.1] at this
      cases this
  | succ fuel ih =>
    intro listed σ hdown hfree hr v H' hy H
    refine ⟨fun h => (by rw [h] at hr; cases hr), fun j hj => ?_⟩
    by_cases hji : j = i
    · subst hji; exact hy.goA hi hci hcc (AM.mono (fun j c h => (hg j c h).1) _ _ _ H)
    · have h1 := H.2 j (ready_mono hj hji)
      obtain ⟨hjun, oj, hoj, hall⟩ := mem_ready.1 hj
      obtain ⟨hun, oi', hoi', hall'⟩ := mem_ready.1 hr
      rw [hi] at hoi'; injection hoi' with hoi'; subst hoi'
      have hnot : ∀ e ∈ oj.after, Region.binds md e = true → e.on ≠ i := fun e he hb heq => by
        have h1 := hall e he hb
        rw [heq, getD_both hun] at h1
        cases h1
      have hnot' : ∀ e ∈ oi.after, Region.binds md e = true → e.on ≠ j := fun e he hb heq => by
        have h1 := hall' e he hb
        rw [heq, getD_both hjun] at h1
        cases h1
      have hfr : Free md ops i j := ⟨fun hd => (by have := hdown.ready hj hd; rw [getD_both hun] at this; cases this), fun hd => (by have := hdown.ready hr hd; rw [getD_both hjun] at this; cases this)⟩
      have hap := hfree j oj hoj hji hjun hnot
      have hfree' : ∀ k ok, ops[k]? = some ok → k ≠ i → (listed.setIfInBounds j true).getD k true = false →
          (∀ e ∈ ok.after, Region.binds md e = true → e.on ≠ i) → oi.apart ops ok = true := fun k ok hk hki hun hno => by
        refine hfree k ok hk hki ?_ hno
        by_cases hjk : j = k
        · subst hjk; exact hjun
        · rw [getD_set_ne true hjk] at hun; exact hun
      unfold GoA at h1 ⊢
      simp only [hoj] at h1 ⊢
      obtain ⟨cj, hcj, ⟨u, H2, hjc, hm, hk⟩ | hm⟩ := h1
      · obtain ⟨hgj, hpair⟩ := hg j cj hcj
        obtain ⟨p1, p2, p3⟩ := hpair hfr
        obtain ⟨H1', q1, q2⟩ := mv_comm hap p1 p2 p3 hy hm
        refine ⟨cj, hgj, .inl ⟨u, H1', hjc, q1, ih (listed.setIfInBounds j true) _ (hdown.set hj) hfree' (ready_mono hr (Ne.symm hji)) v H2 q2 ?_⟩⟩
        rw [Array.setIfInBounds_comm _ _ hji]
        rw [moved_comm (B := H1') (Oper.apart_spec hap).2.1] at hk
        exact hk
      · obtain ⟨hgj, hpair⟩ := hg j cj hcj
        obtain ⟨p1, p2, p3⟩ := hpair hfr
        have hie : ci.eff = false := by
          cases he : ci.eff with
          | false => rfl
          | true => exact (p1 ⟨he, hm.1⟩).elim
        obtain ⟨rfl, q⟩ := mc_comm (Kp := Kp) hap hie (p2 hie hm.1) hkp hy hm
        refine ⟨cj, hgj, .inr (q.imp fun u H2 _ _ ⟨q2, hk⟩ => ih (listed.setIfInBounds j true) _ (hdown.set hj) hfree' (ready_mono hr (Ne.symm hji)) v H2 q2 ?_)⟩
        rw [Array.setIfInBounds_comm _ _ hji]
        rw [moved_comm (B := H2) (Oper.apart_spec hap).2.1] at hk
        exact hk
/-- a row of places in which all may be done -/
def schedB (md : Region.Mode) (ops : Array Oper) : List Nat → Array Bool → Bool
  | [], listed => (Region.ready md ops listed).isEmpty
  | k :: r, listed => (Region.ready md ops listed).contains k && Region.free md ops listed k && schedB md ops r (listed.setIfInBounds k true)
/-- operations in some order -/
def PathOk (P : Program) (ops : Array Oper) (md : Region.Mode) (S : Heap → Prop) (Kp : V → St → Prop) (R : St → Prop) : List Nat → List (Nat × Info) → St → Prop
  | [], _, σ => R σ
  | k :: ks, prev, σ => ∃ o c, ops[k]? = some o ∧ GP md ops prev k c ∧ ((∃ v H', c.call = false ∧ MV P ops S c σ o v H' ∧ PathOk P ops md S Kp R ks ((k, c) :: prev) (moved σ o v H')) ∨
    ((∀ j ∈ ks, ¬ Free md ops k j) ∧ MC P ops S c σ o (fun v H' => PathOk P ops md S Kp R ks ((k, c) :: prev) (moved σ o v H')) Kp))
theorem AM_lex (hkp : ∀ v (σ : St) t', Kp v σ → t'.length = σ.t.length → Kp v { σ with t := t' }) {R : St → Prop} : ∀ (l : List Nat) (prev : List (Nat × Info)) (listed : Array Bool) (σ : St), Down md ops listed → (∀ j, listed.getD j true = false → j ∈ l) →
    schedB md ops l listed = true → PathOk P ops md S Kp R l prev σ → AM P ops md S (GP md ops prev) Kp R l.length listed σ
  | [], _, listed, σ, _, _, hB, h => ⟨by simpa [schedB] using hB, h⟩
  | k :: l, prev, listed, σ, hdown, hlow, hB, h => by
    obtain ⟨o, c, h0, hc0, h⟩ := h
    simp only [schedB, Bool.and_eq_true] at hB
    obtain ⟨⟨hr, hf⟩, hB'⟩ := hB
    have hr : k ∈ Region.ready md ops listed := by simpa using hr
    have hlow' : ∀ j, (listed.setIfInBounds k true).getD j true = false → j ∈ l := fun j hj => by
      by_cases hjk : k = j
      · subst hjk
        by_cases hlt : k < listed.size
        · simp [Array.getD_eq_getD_getElem?, hlt] at hj
        · simp [Array.getD_eq_getD_getElem?, Array.getElem?_eq_none (Nat.le_of_not_lt hlt)] at hj
      · rw [getD_set_ne true hjk] at hj
        rcases List.mem_cons.1 (hlow j hj) with e | e
        · exact (hjk e.symm).elim
        · exact e
    have rest : ∀ σ', PathOk P ops md S Kp R l ((k, c) :: prev) σ' → AM P ops md S (GP md ops ((k, c) :: prev)) Kp R l.length (listed.setIfInBounds k true) σ' := fun σ' hrest =>
      AM_lex hkp l _ _ _ (hdown.set hr) hlow' hB' hrest
    rcases h with ⟨v, H', hc, hy, hrest⟩ | ⟨hlate, hm⟩
    · exact AM_first (G := GP md ops prev) (G' := GP md ops ((k, c) :: prev)) hkp h0 hc0 hc (fun j c' h' => ⟨fun p hp => h' p (List.mem_cons_of_mem _ hp), h' _ List.mem_cons_self⟩) l.length listed σ hdown (Region.free_spec h0 hf) hr v H' hy (rest _ hrest)
    · refine ⟨fun h => (by rw [h] at hr; cases hr), fun j hj => ?_⟩
      by_cases hjk : j = k
      · subst hjk
        unfold GoA
        simp only [h0]
        exact ⟨c, hc0, .inr (hm.imp fun v H' _ _ hk => AM.mono (fun j' c' h' p hp => h' p (List.mem_cons_of_mem _ hp)) _ _ _ (rest _ hk))⟩
      · exfalso
        obtain ⟨hjun, oj, hoj, hall⟩ := mem_ready.1 hj
        obtain ⟨hun, oi', hoi', hall'⟩ := mem_ready.1 hr
        refine hlate j ?_ ⟨fun hd => (by have := hdown.ready hj hd; rw [getD_both hun] at this; cases this), fun hd => (by have := hdown.ready hr hd; rw [getD_both hjun] at this; cases this)⟩
        rcases List.mem_cons.1 (hlow j hjun) with e | e
        · exact (hjk e).elim
        · exact e
/-- a region that draws its order: what does not stand in an order commutes -/
theorem sat_comm {id : Nat} {σ : St} {Q : AExit → St → Prop} (hm : P.follows .mixedOrders = true) (l : List Nat) (hB : schedB .any ops l (Array.replicate ops.size false) = true) (hl : l.length = ops.size) (hall : ∀ j, j < ops.size → j ∈ l)
    (h : PathOk P ops .any S (fun v σ => ∀ t', t'.length = σ.t.length → Q (.panic v) { σ with t := t' }) (Q .normal) l [] σ) :
    Sat P (.region id ops true) σ Q := fun W0 g0 H0 W a g _ hS hG => by
  refine wp_region_any hm ?_
  have hG' := hG.drawn (W.drawn + 1)
  have hS' : σ.e0 = H0.E ∧ Step W0 g0 H0 { W with drawn := W.drawn + 1 } g σ.H := ⟨hS.1, hS.2.trans (Grow.drawn W _).step⟩
  have := AM_lex (P := P) (md := .any) (R := Q .normal) (fun v σ t' h ht => fun t'' ht'' => h t'' (ht''.trans ht)) l [] (Array.replicate ops.size false) σ (fun b o _ hb => by rw [getD_replicate_false] at hb; cases hb) (fun j hj => by
    rcases Nat.lt_or_ge j ops.size with q | q
    · exact hall j q
    · simp [Array.getD_eq_getD_getElem?, Array.getElem?_eq_none (xs := Array.replicate ops.size false) (i := j) (by simpa using q)] at hj) hB h
  rw [hl] at this
  exact wpAny_of_AM (Q' := Lift W0 g0 H0 Q) (fun W a g τ hτ hS hG => ⟨g, τ, .normal, .normal, hS, hG, hτ⟩) (fun W a g τ v c hτ hS hG hr => ⟨g, τ, .panic v, .panic v c hr, hS, hG, hτ τ.t rfl⟩) _ _ σ _ a g this hS' hG'
/-! ### what reads no memory of the call's own -/
theorem pLoad_ptr_same {H H' : Heap} {t l i off : Nat} (h : H'.get l i = H.get l i) : pLoad P H' t (.ptr l i off) = pLoad P H t (.ptr l i off) := by simp only [pLoad, h]
theorem pLoad_ref_same {H H' : Heap} {t : Nat} {cs : List V} {off : Nat} : pLoad P H' t (.ref cs off) = pLoad P H t (.ref cs off) := rfl
theorem pLoad_ap_same {H H' : Heap} {t l i ver idx off : Nat} (h : H'.get l i = H.get l i) : pLoad P H' t (.ap l i ver idx off) = pLoad P H t (.ap l i ver idx off) := by simp only [pLoad, aelem, h]
theorem pIndexAddr_hs_same {H H' : Heap} {t l i ver off n : Nat} {full : Bool} {y : V} (h : H'.get l i = H.get l i) : pIndexAddr P H' t (.hs l i ver off n full) y = pIndexAddr P H t (.hs l i ver off n full) y := by simp only [pIndexAddr, h]
theorem pLen_hs_same {H H' : Heap} {t l i ver off n : Nat} {full : Bool} (h : H'.get l i = H.get l i) : pLen P H' t (.hs l i ver off n full) = pLen P H t (.hs l i ver off n full) := by simp only [pLen, h]
/-- is not an own slice, nor a map -/
def V.plain : V → Bool
  | .hs .. | .map .. => false
  | _ => true
theorem pLen_plain {H H' : Heap} {t : Nat} {x : V} (h : x.plain = true) : pLen P H' t x = pLen P H t x := by cases x <;> first | rfl | cases h
theorem pIndexAddr_plain {H H' : Heap} {t : Nat} {x y : V} (h : x.plain = true) : pIndexAddr P H' t x y = pIndexAddr P H t x y := by cases x <;> first | rfl | cases h
theorem pSlice_plain {H H' : Heap} {t : Nat} {x : V} {a b c : Option V} (h : x.plain = true) : pSlice P H' t x a b c = pSlice P H t x a b c := by cases x <;> first | rfl | cases h
end
/-- operations that commute where no edge binds them -/
def edgeB (all : List Oper) (i j : Nat) : Bool := match all[j]? with
  | some o => o.after.toList.any fun e => Region.binds .any e && Nat.beq e.on i
  | none => false
/-- j waits for i, by way of at most so many others -/
def depB (all : List Oper) : Nat → Nat → Nat → Bool
  | 0, i, j => edgeB all i j
  | n + 1, i, j => edgeB all i j || (match all[j]? with
    | some o => o.after.toList.any fun e => Region.binds .any e && depB all n i e.on
    | none => false)
def ordB (all : List Oper) (i j : Nat) : Bool := depB all 3 i j || depB all 3 j i
theorem depB_dep {ops : Array Oper} : ∀ (n : Nat) {i j : Nat}, depB ops.toList n i j = true → Dep .any ops i j := fun n => by
  have edge : ∀ {i j : Nat}, edgeB ops.toList i j = true → Dep .any ops i j := fun {i j} h => by
    unfold edgeB at h
    split at h
    · rename_i o ho
      rw [List.any_eq_true] at h
      obtain ⟨e, he, hb⟩ := h
      simp only [Bool.and_eq_true] at hb
      exact .one j o e (by simpa using ho) (by simpa using he) hb.1 (Nat.eq_of_beq_eq_true hb.2)
    · cases h
  induction n with
  | zero => intro i j h; exact edge h
  | succ n ih =>
    intro i j h
    simp only [depB, Bool.or_eq_true] at h
    rcases h with h | h
    · exact edge h
    · split at h
      · rename_i o ho
        rw [List.any_eq_true] at h
        obtain ⟨e, he, hb⟩ := h
        simp only [Bool.and_eq_true] at hb
        exact .more j o e (by simpa using ho) (by simpa using he) hb.1 (ih hb.2)
      · cases h
theorem ordB_free {ops : Array Oper} {i j : Nat} (h : ordB ops.toList i j = true) : ¬ Free .any ops i j := fun hf => by
  unfold ordB at h
  rw [Bool.or_eq_true] at h
  rcases h with h | h
  · exact hf.1 (depB_dep 3 h)
  · exact hf.2 (depB_dep 3 h)
end Go.Ab

namespace Go.Ab
open Go
set_option linter.unusedVariables false
set_option linter.unusedSimpArgs false
/-- how a function is being left -/
inductive AMode where
  | ret
  | pan (v : V) (recovered : Bool)
def AMode.settle : AMode → AMode
  | .pan v true => .ret
  | m => m
def AMode.value : AMode → V
  | .pan v false => v
  | _ => .nili
def AMode.caught : AMode → AMode
  | .pan v false => .pan v true
  | m => m
def isRec (o : Oper) : Bool := match o.op with
  | .call c => (match c.callee with
    | .builtin .recover => o.guard.isNone && c.args.isEmpty
    | _ => false)
  | _ => false
theorem LetsOut.mono {Q Q' : Exit → Act → World → Prop} (hq : ∀ e a w, Q e a w → Q' e a w) (h : LetsOut Q) : LetsOut Q' := by
  obtain ⟨a, w, h⟩ := h; exact ⟨a, w, hq _ _ _ h⟩
theorem Oper.upon_mono {P : Program} {o : Oper} {a : Act} {next next' : Act → World → Prop} {Q Q' : Exit → Act → World → Prop} (h : ∀ a w, next a w → next' a w) (hq : ∀ e a w, Q e a w → Q' e a w) {r : Result Next} (q : o.upon P a next Q r) : o.upon P a next' Q' r := by
  unfold Oper.upon at q ⊢
  split at q
  · exact h _ _ q
  · exact h _ _ q
  · exact h _ _ q
  · refine Calls.mono q fun e w k => ?_
    cases e with
    | returned v => exact h _ _ k
    | panicked c => exact hq _ _ _ k
    | outgrown => exact LetsOut.mono hq k
  · exact Rows.mono q fun v w k => h _ _ k
  · exact hq _ _ _ q
  · exact q.elim
theorem wpOps_mono {P : Program} {ops : Array Oper} {Q Q' : Exit → Act → World → Prop} (hq : ∀ e a w, Q e a w → Q' e a w) : ∀ (l : List Nat) (a : Act) (w : World), wpOps P ops Q l a w → wpOps P ops Q' l a w
  | [], a, w, h => hq _ _ _ h
  | i :: rest, a, w, h => by
    simp only [wpOps] at h ⊢
    split at h
    · exact wpOps_mono hq rest a w h
    · split at h
      · rename_i hw
        rw [if_pos hw]
        rcases h with h | ⟨h1, h2⟩
        · exact .inl (Oper.upon_mono (fun a w k => wpOps_mono hq rest a w k) hq h)
        · exact .inr ⟨h1, LetsOut.mono hq h2⟩
      · rename_i hw
        rw [if_neg hw]
        exact wpOps_mono hq rest _ w h
theorem wpOpsS_of {P : Program} {ops : Array Oper} {Q : Exit → Act → List Frame → World → Prop} {cs : List Frame} (hq : ∀ a w, ¬ Q .outgrown a cs w) : ∀ (l : List Nat) (a : Act) (w : World), wpOps P ops (fun e a w => Q e a cs w) l a w → wpOpsS P ops Q l a cs w
  | [], a, w, h => h
  | i :: rest, a, w, h => by
    simp only [wpOps] at h
    simp only [wpOpsS]
    cases ho : ops[i]? with
    | none =>
      simp only [ho] at h ⊢
      exact wpOpsS_of hq rest a w h
    | some o =>
      simp only [ho] at h ⊢
      split at h
      · rename_i hw
        rw [if_pos hw]
        rcases h with h | ⟨_, a', w', h⟩
        · unfold Oper.wp at h
          generalize hr : (execOp a.eval o).run P w = r at h ⊢
          split
          · exact h.elim
          · exact Oper.upon_mono (fun a w q => wpOpsS_of hq rest a w q) (fun _ _ _ k => k) h
        · exact (hq _ _ h).elim
      · rename_i hw
        rw [if_neg hw]
        exact wpOpsS_of hq rest _ w h
def MRel (W : World) (g : Gh) (H : Heap) : AMode → FrameMode → Prop
  | .ret, u => u = .returning
  | .pan v r, u => ∃ c, u = .panicking [{ v := c, recovered := r }] ∧ Rel W g H v c
theorem MRel.mono {W : World} {g : Gh} {H : Heap} {m : AMode} {u : FrameMode} (h : MRel W g H m u) {W' : World} {g' : Gh} {H' : Heap} (s : Step W g H W' g' H') : MRel W' g' H' m u := by
  cases m with
  | ret => exact h
  | pan v r => obtain ⟨c, h1, h2⟩ := h; exact ⟨c, h1, h2.mono s⟩
theorem MRel.settle {W : World} {g : Gh} {H : Heap} {m : AMode} {u : FrameMode} (h : MRel W g H m u) : MRel W g H m.settle (settle u) := by
  cases m with
  | ret => subst h; rfl
  | pan v r =>
    obtain ⟨c, h1, h2⟩ := h
    subst h1
    cases r with
    | true => rfl
    | false => exact ⟨c, rfl, h2⟩
theorem MRel.run {W : World} {g : Gh} {H : Heap} {m : AMode} {u : FrameMode} (h : MRel W g H m u) : u ≠ .run := by
  cases m with
  | ret => subst h; simp
  | pan v r => obtain ⟨c, h1, h2⟩ := h; subst h1; simp
def LiftS (W0 : World) (g0 : Gh) (H0 : Heap) (c₀ : Frame) (cs : List Frame) (Q : AExit → St → Prop) (m' : AMode) (e : Exit) (a : Act) (cs' : List Frame) (W : World) : Prop :=
  ∃ g σ e' u', ERel W g σ.H e e' ∧ (σ.e0 = H0.E ∧ Step W0 g0 H0 W g σ.H) ∧ GoodSt W a g σ ∧ cs' = { c₀ with mode := u' } :: cs ∧ MRel W g σ.H m' u' ∧ Q e' σ
theorem LiftS.out {W0 : World} {g0 : Gh} {H0 : Heap} {c₀ : Frame} {cs : List Frame} {Q : AExit → St → Prop} {m' : AMode} {a : Act} {cs' : List Frame} {W : World} : ¬ LiftS W0 g0 H0 c₀ cs Q m' .outgrown a cs' W := fun ⟨_, _, _, _, h, _⟩ => by cases h
theorem wpS_mono {P : Program} {c : Code} {Q Q' : Exit → Act → List Frame → World → Prop} {a : Act} {cs : List Frame} {w : World} (h : c.wpS P Q a cs w) (hq : ∀ e a cs w, Q e a cs w → Q' e a cs w) : c.wpS P Q' a cs w :=
  fun b k hb hr => let ⟨e, a', cs', w', q, r⟩ := h b k hb hr; ⟨e, a', cs', w', hq _ _ _ _ q, r⟩
section
variable {P : Program}
theorem entry_good {n : Nat} {W : World} {g : Gh} {H : Heap} {args : List V} {cargs : Array Value} (hG : Good W g H) (hA : RelA W g H args cargs) : GoodSt W { tmps := cargs ++ Array.replicate (n - cargs.size) undef, defers := [] } g ⟨args ++ List.replicate (n - args.length) .any, H, [], H.E⟩ := by
  refine ⟨hG, by simp [hA.1], fun j v hj => ?_, rfl, by simp⟩
  rw [List.getElem?_append] at hj
  split at hj
  · rename_i hlt
    rw [getD_append_left (by rw [hA.1]; exact hlt)]
    exact hA.2 j v hj
  · rw [List.getElem?_replicate] at hj
    split at hj
    · injection hj with hj; subst hj; exact .any _
    · cases hj
end
end Go.Ab

namespace Go.Ab
open Go
set_option linter.unusedVariables false
/-- what a run puts out: choices, steps that may fail, marks -/
def pIf {α : Type} (b : Bool) (x y : Option α) : Option α := match b with | true => x | false => y
theorem pIf_ite {α : Type} (b : Bool) (x y : Option α) : pIf b x y = if b then x else y := by cases b <;> rfl
def pBind {α β : Type} (o : Option α) (k : α → Option β) : Option β := o.bind k
def pOp {α : Type} (o : Oper) (x : Option α) : Option α := x
/-- what a function comes to: results, or a panic -/
inductive Res (X R : Type) where
  | ok (r : R)
  | pan (x : X)
def pRes {X R S : Type} (o : Res X R) (f : R → Option S) (g : X → Option S) : Option S := match o with
  | .ok r => f r
  | .pan x => g x
/-- types of data; structs by number -/
inductive DTy where
  | bool
  | int (k : IntKind)
  | str
  | nat
  | sl (t : DTy)
  | st (i : Nat)
  deriving DecidableEq
def DTy.S (T : Nat → Type) : DTy → Type
  | .bool => Bool
  | .int _ => Int
  | .str => List UInt8
  | .nat => Nat
  | .sl t => List (t.S T)
  | .st i => T i
/-- a row of data -/
def HL (T : Nat → Type) : List DTy → Type
  | [] => Unit
  | t :: l => t.S T × HL T l
def HL.app {T : Nat → Type} : {a b : List DTy} → HL T a → HL T b → HL T (a ++ b)
  | [], _, _, y => y
  | _ :: _, _, x, y => (x.1, HL.app x.2 y)
def HL.fst {T : Nat → Type} : (a : List DTy) → {b : List DTy} → HL T (a ++ b) → HL T a
  | [], _, _ => ()
  | _ :: a, _, x => (x.1, HL.fst a x.2)
def HL.snd {T : Nat → Type} : (a : List DTy) → {b : List DTy} → HL T (a ++ b) → HL T b
  | [], _, x => x
  | _ :: a, _, x => HL.snd a x.2
structure Dat where
  T : Nat → Type
  fl : Nat → List DTy
  get : ∀ i, T i → HL T (fl i)
  make : ∀ i, HL T (fl i) → T i
  enc : ∀ i, T i → V
  ty : Nat → Option DTy
/-- values: data, and what is made of own objects (by slots) -/
inductive TV (T : Nat → Type) : Type where
  | any
  | bool (b : Bool)
  | int (k : IntKind) (n : Int)
  | str (s : List UInt8)
  | nilp
  | nils
  | mapn
  | nilf
  | nili
  | sl (t : DTy) (xs : List (t.S T)) (fl : Nat)
  | own (s : Nat)
  | osl (s : Nat) (lo : Int)
  | ptr (s off : Nat)
  | ref (cs : List (TV T)) (off : Nat)
  | ap (s : Nat) (t : DTy) (i : Int) (x : t.S T) (off : Nat)
  | map (s : Nat)
  | fn (f : Nat) (first caps : List (TV T))
  | iface (t : Nat) (v : TV T)
  | agg (cs : List (TV T))
  | tup (vs : List (TV T))
inductive TO (T : Nat → Type) : Type where
  | cells (cs : List (TV T))
  | acc (ty : Nat) (t : DTy) (xs : List (t.S T)) (w : Bool)
  | siter (s : List UInt8) (pos : Nat)
  | gone
structure TS (T : Nat → Type) where
  t : List (Nat × TV T)
  o : List (Nat × TO T)
  nx : Nat
  nt : Nat
  d : List (Nat × List (TV T)) := []
def fnd {α : Type} : List (Nat × α) → Nat → Option α
  | [], _ => none
  | (i, a) :: r, j => match Nat.beq i j with
    | true => some a
    | false => fnd r j
section
variable {T : Nat → Type}
def TV.cells : TV T → List (TV T)
  | .agg cs => cs
  | v => [v]
def TV.leaf : TV T → Bool
  | .any | .agg _ | .tup _ => false
  | _ => true
def TV.solid : TV T → Bool
  | .agg _ => true
  | v => v.leaf
def TV.ofLeaf : Value → TV T
  | .bool b => .bool b
  | .int k n => .int k n
  | .string s => .str s.data.toList
  | .pointer none => .nilp
  | .slice none 0 0 => .nils
  | .map none => .mapn
  | .nilFunc => .nilf
  | .nilIface => .nili
  | _ => .any
def TV.ofC : Value → TV T
  | .agg cs => if cs.toList.all (·.oneCell') then .agg (cs.toList.map TV.ofLeaf) else .any
  | .tuple cs => .tup (cs.toList.map TV.ofLeaf)
  | .iface t v => .iface t (TV.ofLeaf v)
  | v => TV.ofLeaf v
def TS.ev (ts : TS T) : Operand → Option (TV T)
  | .tmp t => fnd ts.t t
  | .const v => some (TV.ofC v)
  | .func f => some (.fn f [] [])
  | .global _ => none
def TS.evs (ts : TS T) : List Operand → Option (List (TV T))
  | [] => some []
  | x :: xs => match ts.ev x, ts.evs xs with
    | some v, some vs => some (v :: vs)
    | _, _ => none
/-- what comes of a look: an answer, a slice that must become data first, or nothing -/
inductive FR (α : Type) where
  | ok (a : α)
  | frz (s : Nat)
  | bad
def FR.of {α : Type} : Option α → FR α
  | some a => .ok a
  | none => .bad
end
section
variable (D : Dat)
def Dat.len : DTy → Nat
  | .st i => (D.fl i).length
  | _ => 1
def Dat.el : (t : DTy) → t.S D.T → V
  | .bool, b => .bool b
  | .int k, n => .int k n
  | .str, s => .str s
  | .nat, _ => .any
  | .sl t, xs => .sl (D.len t) (List.map (Dat.el t) xs) false
  | .st i, x => D.enc i x
def Dat.els : (l : List DTy) → HL D.T l → List V
  | [], _ => []
  | t :: l, x => D.el t x.1 :: Dat.els l x.2
/-- a leaf, or a struct by its cells -/
def Dat.leaf : (t : DTy) → t.S D.T → TV D.T
  | .bool, b => .bool b
  | .int k, n => .int k n
  | .str, s => .str s
  | .nat, _ => .any
  | .sl t, xs => .sl t xs 0
  | .st _, _ => .any
def Dat.leaves : (l : List DTy) → HL D.T l → List (TV D.T)
  | [], _ => []
  | t :: l, x => D.leaf t x.1 :: Dat.leaves l x.2
def Dat.tv : (t : DTy) → t.S D.T → TV D.T
  | .st i, x => .agg (D.leaves (D.fl i) (D.get i x))
  | .bool, b => .bool b
  | .int k, n => .int k n
  | .str, s => .str s
  | .nat, _ => .any
  | .sl t, xs => .sl t xs 0
def lcast {T : Nat → Type} (a b : DTy) (x : List (a.S T)) : Option (List (b.S T)) :=
  if h : a = b then some (h ▸ x) else none
/-- a value as data of a type -/
def asLeaf : (t : DTy) → TV D.T → FR (t.S D.T)
  | .bool, .bool b => .ok b
  | .int k, .int k' n => if k = k' then .ok n else .bad
  | .str, .str s => .ok s
  | .sl t, .sl t' xs _ => FR.of (lcast t' t xs)
  | .sl _, .nils => .ok []
  | .sl _, .own s => .frz s
  | _, _ => .bad
def asLeaves : (l : List DTy) → List (TV D.T) → FR (HL D.T l)
  | [], [] => .ok ()
  | t :: l, v :: vs => match asLeaf D t v with
    | .ok x => match asLeaves l vs with
      | .ok xs => .ok (x, xs)
      | .frz s => .frz s
      | .bad => .bad
    | .frz s => .frz s
    | .bad => .bad
  | _, _ => .bad
def asD : (t : DTy) → TV D.T → FR (t.S D.T)
  | .st i, .agg cs => match asLeaves D (D.fl i) cs with
    | .ok x => .ok (D.make i x)
    | .frz s => .frz s
    | .bad => .bad
  | .st _, _ => .bad
  | t, v => asLeaf D t v
def asDs (t : DTy) : List (TV D.T) → FR (List (t.S D.T))
  | [] => .ok []
  | v :: vs => match asD D t v with
    | .ok x => match asDs t vs with
      | .ok xs => .ok (x :: xs)
      | .frz s => .frz s
      | .bad => .bad
    | .frz s => .frz s
    | .bad => .bad
end
/-! ### operations -/
section
variable {T : Nat → Type} (P : Program)
def tRd (t : Nat) (cs : List (TV T)) (off : Nat) : Option (TV T) :=
  match P.underlying t with
  | none => none
  | some (.struct _) | some (.array _ _) => if off + P.cellsOf t ≤ cs.length then some (.agg ((cs.drop off).take (P.cellsOf t))) else none
  | some _ => cs[off]?
def tFieldAddr (s f : Nat) (x : TV T) : Option (TV T) :=
  match fieldOff P s f with
  | none => none
  | some o => match x with
    | .ref cs off => some (.ref cs (off + o))
    | .ptr s off => some (.ptr s (off + o))
    | .ap s t i x off => some (.ap s t i x (off + o))
    | _ => none
def tField (s f : Nat) (x : TV T) : Option (TV T) :=
  match P.underlying s with
  | some (.struct fs) => match fs[f]? with
    | some y => match x with
      | .agg cs => tRd P y.type cs y.offset
      | _ => none
    | none => none
  | _ => none
def tExtract (i : Nat) : TV T → Option (TV T)
  | .tup vs => vs[i]?
  | _ => none
def tNil : TV T → Option (TV T)
  | .ptr s off => some (.ptr s off)
  | .ref cs off => some (.ref cs off)
  | .ap s t i x off => some (.ap s t i x off)
  | .fn f a b => some (.fn f a b)
  | _ => none
def tUn (op : UnOp) (x : TV T) : Option (TV T) :=
  match op, x with
  | .neg, .int k n => some (.int k (k.wrap (0 - n)))
  | .not, .bool b => some (.bool (!b))
  | .xor, .int k n => some (.int k (bits .xor k (if k.signed then -1 else k.max) n))
  | _, _ => none
def tConvert (s d : Nat) (x : TV T) : Option (TV T) :=
  match x with
  | .int _ n => match P.underlying s, P.underlying d with
    | some _, some (.int k) => some (.int k (k.wrap n))
    | _, _ => none
  | .str a => match P.underlying s, P.underlying d with
    | some _, some .string => some (.str a)
    | _, _ => none
  | _ => none
def tTypeAssert (x : TV T) (asserted : Nat) (ok : Bool) : Option (TV T) :=
  match P.underlying asserted, x with
  | some (.interface _), _ => none
  | some _, .iface t v => if t = asserted then some (if ok then .tup [v, .bool true] else v) else none
  | _, _ => none
def tMinMax (max : Bool) : List (TV T) → Option (TV T)
  | [.int k x, .int _ y] => some (.int k (match max with | true => mxI x y | false => mnI x y))
  | [.int k x, .int _ y, .int _ z] => some (.int k (match max with | true => mxI (mxI x y) z | false => mnI (mnI x y) z))
  | _ => none
def tsplice (cs : List (TV T)) (off : Nat) (xs : List (TV T)) : List (TV T) := cs.take off ++ xs ++ cs.drop (off + xs.length)
def tFill (place : Nat → Option (Nat × Nat)) (cells : List (TV T)) : List (Nat × TV T) → Option (List (TV T))
  | [] => some cells
  | (i, x) :: rest => match place i with
    | none => none
    | some (off, size) => if x.solid && x.cells.length == size && decide (off + size ≤ cells.length) then tFill place (tsplice cells off x.cells) rest else none
def tParts (ts : TS T) : List (Nat × Operand) → Option (List (Nat × TV T))
  | [] => some []
  | (i, x) :: r => match ts.ev x, tParts ts r with
    | some v, some vs => some ((i, v) :: vs)
    | _, _ => none
def tZero (t : Nat) : Option (TV T) := ((P.info? t).bind (·.zero)).map TV.ofC
def tBuild (t : Nat) (ps : List (Nat × TV T)) : Option (TV T) :=
  match tZero (T := T) P t with
  | some (.agg z) => match P.underlying t with
    | some (.struct fs) => match fieldPlaces P fs.toList with
      | some places => (tFill (fun i => places[i]?) z ps).map .agg
      | none => none
    | some (.array _ e) => if (P.info? e).isSome then (tFill (fun i => some (i * P.cellsOf e, P.cellsOf e)) z ps).map .agg else none
    | _ => none
  | _ => none
def TV.odd : TV T → Bool
  | .int _ _ | .str _ | .any => false
  | _ => true
mutual
def tEqv : Nat → Nat → TV T → TV T → Option Bool
  | 0, _, _, _ => none
  | d + 1, t, x, y =>
    match x, y with
    | .bool a, .bool b => match P.underlying t with | some .bool => some (a == b) | _ => none
    | .int k a, .int k' b => match P.underlying t with | some (.int _) => if k = k' then some (a == b) else none | _ => none
    | .str a, .str b => match P.underlying t with | some .string => some (a == b) | _ => none
    | .agg xs, .agg ys => match P.underlying t with | some (.struct fs) => if P.stoodInHeld t then none else tEqFs d fs.toList xs ys | _ => none
    | .nilp, .nilp => match P.underlying t with | some (.pointer _) => some true | _ => none
    | .nilp, .ptr _ _ | .nilp, .ref _ _ => match P.underlying t with | some (.pointer _) => some false | _ => none
    | .ptr _ _, .nilp | .ref _ _, .nilp => match P.underlying t with | some (.pointer _) => some false | _ => none
    | .mapn, .mapn => match P.underlying t with | some (.map _ _) => some true | _ => none
    | .nilf, .nilf => match P.underlying t with | some (.func ..) => some true | _ => none
    | .nilf, .fn _ _ _ | .fn _ _ _, .nilf => match P.underlying t with | some (.func ..) => some false | _ => none
    | .nili, .iface _ _ | .iface _ _, .nili => match P.underlying t with | some (.interface _) => some false | _ => none
    | _, _ => none
def tEqFs : Nat → List Field → List (TV T) → List (TV T) → Option Bool
  | 0, _, _, _ => none
  | _, [], _, _ => some true
  | d + 1, f :: fs, xs, ys =>
    if f.name = "_" then tEqFs d fs xs ys else
    match tRd P f.type xs f.offset, tRd P f.type ys f.offset with
    | some a, some b => match tEqv d f.type a b, tEqFs d fs xs ys with
      | some r, some s => some (r && s)
      | _, _ => none
    | _, _ => none
end
def tPlainEq (t : Nat) (x y : TV T) : Bool :=
  match x, y with
  | .agg _, .agg _ => !P.eqGuardType P.depth t
  | .nili, .nili => false
  | .any, _ | _, .any => false
  | _, _ => true
def shl (k : IntKind) (a b : Int) : Option Int := if b < 0 then none else some (k.wrap (a * 2 ^ (min b.toNat k.bits)))
def shr (k : IntKind) (a b : Int) : Option Int := if b < 0 then none else some (a.fdiv (2 ^ (min b.toNat k.bits)))
def tBin {R : Type} (op : BinOp) (t : Nat) (x y : TV T) (k : TV T → Option R) : Option R :=
  match x, y with
  | .int i a, .int i' b => match op with
    | .shl => pBind (shl i a b) fun z => k (.int i z)
    | .shr => pBind (shr i a b) fun z => k (.int i z)
    | _ => if i = i' then (match op with
      | .add => k (.int i (i.wrap (a + b)))
      | .sub => k (.int i (i.wrap (a - b)))
      | .mul => k (.int i (i.wrap (a * b)))
      | .quo => pBind (quo i a b) fun z => k (.int i z)
      | .rem => pBind (rem i a b) fun z => k (.int i z)
      | .eql => k (.bool (a == b))
      | .neq => k (.bool (a != b))
      | .lss => k (.bool (decide (a < b)))
      | .leq => k (.bool (decide (a ≤ b)))
      | .gtr => k (.bool (decide (a > b)))
      | .geq => k (.bool (decide (a ≥ b)))
      | .and => k (.int i (bits .and i a b))
      | .or => k (.int i (bits .or i a b))
      | .xor => k (.int i (bits .xor i a b))
      | .andNot => k (.int i (bits .andNot i a b))
      | _ => none) else none
  | .str a, .str b => match op with
    | .add => pBind (cat a b) fun z => k (.str z)
    | .eql => k (.bool (a == b))
    | .neq => k (.bool (!(a == b)))
    | .lss => k (.bool (Op.bytesLess a b))
    | .leq => k (.bool (Op.bytesLess a b || a == b))
    | .gtr => k (.bool (!(Op.bytesLess a b || a == b)))
    | .geq => k (.bool (!Op.bytesLess a b))
    | _ => none
  | x, y => match op with
    | .eql => if x.odd && tPlainEq P t x y then (match tEqv P 24 t x y with | some r => k (.bool r) | none => none) else none
    | .neq => if x.odd && tPlainEq P t x y then (match tEqv P 24 t x y with | some r => k (.bool (!r)) | none => none) else none
    | _ => none
end
/-! ### operations that branch, or look at memory -/
section
variable (P : Program) (D : Dat)
def tLoad (ts : TS D.T) (t : Nat) : TV D.T → Option (TV D.T)
  | .ref cs off => tRd P t cs off
  | .ptr s off => match fnd ts.o s with
    | some (.cells cs) => tRd P t cs off
    | _ => none
  | .ap s τ i x off => match fnd ts.o s with
    | some (.acc _ _ _ _) => tRd P t (D.tv τ x).cells off
    | _ => none
  | _ => none
def tLen (ts : TS D.T) (t : Nat) (x : TV D.T) : Option (TV D.T) :=
  match x with
  | .str s => match P.underlying t with | some .string => some (.int .i64 s.length) | _ => none
  | .nils => match P.underlying t with | some (.slice _) => some (.int .i64 0) | _ => none
  | .sl _ xs _ => match P.underlying t with | some (.slice _) => some (.int .i64 xs.length) | _ => none
  | .own s => match P.underlying t, fnd ts.o s with
    | some (.slice _), some (.acc _ _ xs _) => some (.int .i64 xs.length)
    | _, _ => none
  | .agg _ => match P.underlying t with | some (.array n _) => some (.int .i64 n) | _ => none
  | _ => none
def tBuildSlice (t len : Nat) (ps : List (Nat × TV D.T)) : FR (TV D.T) :=
  match P.underlying t with
  | some (.slice e) => match zeroV P e, D.ty e with
    | some z, some τ =>
      if z.solid && z.cells.length == P.cellsOf e && decide (0 < P.cellsOf e) && (P.info? e).isSome && ps.length == len && (ps.map (·.1) == List.range len) && ps.all (fun p => p.2.solid && p.2.cells.length == P.cellsOf e) && decide (len * P.cellsOf e ≤ 2 ^ 24) && D.len τ == P.cellsOf e then
        (match asDs D τ (ps.map (·.2)) with
        | .ok xs => .ok (.sl τ xs (if len = 0 then 2 else 1))
        | .frz s => .frz s
        | .bad => .bad)
      else .bad
    | _, _ => .bad
  | _ => .bad
/-- operations that neither branch nor turn anything -/
def tP1 (ts : TS D.T) (op : Op) : FR (TV D.T) :=
  match op with
  | .move x => .of (ts.ev x)
  | .assign x => .of (ts.ev x)
  | .load t a => match ts.ev a with | some a => .of (tLoad P D ts t a) | none => .bad
  | .nilCheck x => match ts.ev x with | some x => .of (tNil x) | none => .bad
  | .unOp o _ x => match ts.ev x with | some x => .of (tUn o x) | none => .bad
  | .convert s d x => match ts.ev x with | some x => .of (tConvert P s d x) | none => .bad
  | .makeInterface t x => match ts.ev x with | some x => if P.concrete t then .ok (.iface t x) else .bad | none => .bad
  | .makeFunc (.func f) first caps => match ts.evs first.toList, ts.evs caps.toList with
    | some a, some b => .ok (.fn f a b)
    | _, _ => .bad
  | .fieldAddr s x f => match ts.ev x with | some x => .of (tFieldAddr P s f x) | none => .bad
  | .field s x f => match ts.ev x with | some x => .of (tField P s f x) | none => .bad
  | .typeAssert x _ u ok => match ts.ev x with | some x => .of (tTypeAssert P x u ok) | none => .bad
  | .extract x i => match ts.ev x with | some x => .of (tExtract i x) | none => .bad
  | .build t ps => match tParts ts ps.toList with | some ps => .of (tBuild P t ps) | none => .bad
  | .buildSlice t len ps => match tParts ts ps.toList with | some ps => tBuildSlice P D t len ps | none => .bad
  | .call c => match c.callee with
    | .builtin .len => match c.args.toList, c.argTypes.toList with
      | [x], [t] => match ts.ev x with | some x => .of (tLen P D ts t x) | none => .bad
      | _, _ => .bad
    | .builtin .min => match ts.evs c.args.toList with | some l => .of (tMinMax false l) | none => .bad
    | .builtin .max => match ts.evs c.args.toList with | some l => .of (tMinMax true l) | none => .bad
    | _ => .bad
  | _ => .bad
def tIndexAddr {R : Type} (ts : TS D.T) (t : Nat) (x i : TV D.T) (k : TV D.T → Option R) : Option R :=
  match i with
  | .int _ n => match P.underlying t with
    | some (.slice e) => if (P.underlying e).isSome then (match x with
      | .sl τ xs _ => if D.len τ = P.cellsOf e then pBind (ix xs n) fun y => k (.ref (D.tv τ y).cells 0) else none
      | .own s => match fnd ts.o s with
        | some (.acc _ τ xs _) => if D.len τ = P.cellsOf e then pBind (ix xs n) fun y => k (.ap s τ n y 0) else none
        | _ => none
      | _ => none) else none
    | some (.array len e) => match n with
      | .ofNat n => if n < len ∧ (P.underlying e).isSome then (match x with
        | .ref cs off => k (.ref cs (off + n * P.cellsOf e))
        | .ptr s off => k (.ptr s (off + n * P.cellsOf e))
        | .ap s τ i x off => k (.ap s τ i x (off + n * P.cellsOf e))
        | _ => none) else none
      | _ => none
    | _ => none
  | _ => none
def tIndex {R : Type} (t : Nat) (x i : TV D.T) (k : TV D.T → Option R) : Option R :=
  match i with
  | .int _ n => match x with
    | .str s => match P.underlying t with
      | some .string => pBind (ix s n) fun b => k (.int .u8 b.toNat)
      | _ => none
    | .agg cs => match P.underlying t with
      | some (.array len e) => match D.ty e with
        | some τ => if cs.length = len ∧ P.cellsOf e = 1 ∧ (P.underlying e).isSome ∧ (P.underlying e).any (fun d => !TypeDesc.isAgg d) then (match asLeaves D (List.replicate cs.length τ) cs with
          | .ok _ => match asDs D τ cs with
            | .ok xs => pBind (ix xs n) fun y => k (D.leaf τ y)
            | _ => none
          | _ => none) else none
        | none => none
      | _ => none
    | _ => none
  | _ => none
def tBnd (d : Int) : Option (TV D.T) → Option Int
  | none => some d
  | some (.int _ x) => some x
  | _ => none
def tSlice {R : Type} (t : Nat) (x : TV D.T) (lo hi : Option (TV D.T)) (k : TV D.T → Option R) (kf : Nat → Option R) : Option R :=
  match x with
  | .str s => match P.underlying t with
    | some .string => match tBnd D 0 lo, tBnd D s.length hi with
      | some l, some h => pBind (sub s l h) fun y => k (.str y)
      | _, _ => none
    | _ => none
  | .sl τ xs fl => match P.underlying t with
    | some (.slice e) => if D.len τ = P.cellsOf e ∧ (P.underlying e).isSome then (match tBnd D 0 lo, tBnd D xs.length hi with
        | some l, some h => pBind (sub xs l h) fun y => k (.sl τ y (match hi with | none => min fl 1 | some _ => 0))
        | _, _ => none) else none
    | _ => none
  | .own s => kf s
  | _ => none
def oev (ts : TS D.T) : Option Operand → Option (Option (TV D.T))
  | none => some none
  | some x => (ts.ev x).map some
/-- a place in a list -/
def cutO {α : Type} (xs : List α) (a : Int) : Option Unit := if 0 ≤ a ∧ a ≤ xs.length ∧ 0 < xs.length then some () else none
/-- a part of an own slice, to be copied -/
def tCut {R : Type} (ts : TS D.T) (t : Nat) (x lo : TV D.T) (k : TV D.T → Option R) (kf : Option R) : Option R :=
  match x, lo with
  | .own s, .int .i64 a => match P.underlying t, fnd ts.o s with
    | some (.slice e), some (.acc _ τ xs true) => if D.len τ = P.cellsOf e ∧ (P.underlying e).isSome then pBind (cutO xs a) fun _ => k (.osl s a) else none
    | _, _ => none
  | _, _ => kf
/-- operations that turn nothing -/
def tP {R : Type} (ts : TS D.T) (op : Op) (k : TV D.T → Option R) (kf : Nat → Option R) : Option R :=
  match op with
  | .pick c a b => match ts.ev c, ts.ev a, ts.ev b with
    | some (.bool t), some x, some y => pIf t (k x) (k y)
    | _, _, _ => none
  | .binOp o t x y _ => match ts.ev x, ts.ev y with
    | some x, some y => tBin P o t x y k
    | _, _ => none
  | .indexAddr t x i => match ts.ev x, ts.ev i with
    | some x, some i => tIndexAddr P D ts t x i k
    | _, _ => none
  | .index t x i => match ts.ev x, ts.ev i with
    | some x, some i => tIndex P D t x i k
    | _, _ => none
  | .slice t x lo hi mx => match ts.ev x, oev D ts lo, oev D ts hi, mx with
    | some x, some lo, some hi, none => tSlice P D t x lo hi k kf
    | _, _, _, _ => none
  | op => match tP1 P D ts op with
    | .ok v => k v
    | .frz s => kf s
    | .bad => none
/-! ### operations on own objects -/
mutual
def TV.ren (s s' : Nat) : TV D.T → TV D.T
  | .own j => if j = s then .own s' else .own j
  | .agg cs => .agg (TV.renL s s' cs)
  | .tup cs => .tup (TV.renL s s' cs)
  | v => v
def TV.renL (s s' : Nat) : List (TV D.T) → List (TV D.T)
  | [] => []
  | v :: vs => TV.ren s s' v :: TV.renL s s' vs
end
mutual
def TV.frz (s : Nat) (t : DTy) (xs : List (t.S D.T)) : TV D.T → TV D.T
  | .own j => if j = s then .sl t xs 0 else .own j
  | .agg cs => .agg (TV.frzL s t xs cs)
  | .tup cs => .tup (TV.frzL s t xs cs)
  | v => v
def TV.frzL (s : Nat) (t : DTy) (xs : List (t.S D.T)) : List (TV D.T) → List (TV D.T)
  | [] => []
  | v :: vs => TV.frz s t xs v :: TV.frzL s t xs vs
end
def TO.map (f : TV D.T → TV D.T) : TO D.T → TO D.T
  | .cells cs => .cells (cs.map f)
  | o => o
def TS.mapV (ts : TS D.T) (f : TV D.T → TV D.T) : TS D.T :=
  { ts with t := ts.t.map fun p => (p.1, f p.2), o := ts.o.map fun p => (p.1, TO.map D f p.2), d := ts.d.map fun p => (p.1, p.2.map f) }
def TS.freeze (ts : TS D.T) (s : Nat) : Option (TS D.T) :=
  match ts.d, fnd ts.o s with
  | [], some (.acc _ t xs _) => let ts' := ts.mapV D (TV.frz D s t xs); some { ts' with o := (s, .gone) :: ts'.o }
  | _, _ => none
def TS.put (ts : TS D.T) (dst : Option Nat) (v : TV D.T) : Option (TS D.T) :=
  match dst with
  | none => some ts
  | some d => if d < ts.nt then some { ts with t := (d, v) :: ts.t } else none
def TS.new (ts : TS D.T) (o : TO D.T) : TS D.T := { ts with o := (ts.nx, o) :: ts.o, nx := ts.nx + 1 }
def TS.set (ts : TS D.T) (s : Nat) (o : TO D.T) : TS D.T := { ts with o := (s, o) :: ts.o }
def tStore {R : Type} (ts : TS D.T) (t : Nat) (a x : TV D.T) (k : TV D.T → TS D.T → Option R) (kf : Nat → Option R) : Option R :=
  if x.solid && (P.info? t).isSome && x.cells.length == P.cellsOf t then
    match a with
    | .ptr s off => match fnd ts.o s with
      | some (.cells cs) => if off + x.cells.length ≤ cs.length then k .any (ts.set D s (.cells (tsplice cs off x.cells))) else none
      | _ => none
    | .ap s τ i y off => match fnd ts.o s with
      | some (.acc ty τ' xs true) => if τ = τ' ∧ τ ≠ .nat ∧ off + x.cells.length ≤ (D.tv τ y).cells.length then
          (match asD D τ' (match D.tv τ y with | .agg cs => .agg (tsplice cs off x.cells) | _ => x) with
          | .ok z => let ts' := (ts.mapV D (TV.ren D s ts.nx)).new D (.acc ty τ' (xs.set i.toNat z) true); k .any (ts'.set D s .gone)
          | .frz s => kf s
          | .bad => none) else none
      | _ => none
    | _ => none
  else none
def tSrc (ts : TS D.T) (τ : DTy) : TV D.T → Option (List (τ.S D.T))
  | .nils => some []
  | .sl t xs _ => lcast t τ xs
  | .own s => match fnd ts.o s with
    | some (.acc _ t xs _) => lcast t τ xs
    | _ => none
  | _ => none
def tDst (ts : TS D.T) (e : Nat) (τ : DTy) : TV D.T → Option (List (τ.S D.T) × Bool × Option Nat)
  | .nils => some ([], true, none)
  | .sl t xs 1 => (lcast t τ xs).map fun xs => (xs, false, none)
  | .sl t xs 2 => (lcast t τ xs).map fun xs => (xs, true, none)
  | .own s => match fnd ts.o s with
    | some (.acc e' t xs w) => if e' = e then (lcast t τ xs).map fun xs => (xs, w, some s) else none
    | _ => none
  | _ => none
def tAppend {R : Type} (ts : TS D.T) (t u : Nat) (s x : TV D.T) (k : TV D.T → TS D.T → Option R) : Option R :=
  match P.underlying t, P.underlying u with
  | some (.slice e), some du =>
    match P.info? e, D.ty e with
    | some i, some τ =>
      match i.zero with
      | some z => if notInt du && decide (0 < i.size) && decide (i.bytes ≤ 524288) && z.cells.size == i.size && D.len τ == i.size then
          (match tSrc D ts τ x, tDst D ts e τ s with
          | some ys, some (xs, w, old) => pBind (ext xs ys) fun zs =>
            k (.own ts.nx) (match old with | none => ts.new D (.acc e τ zs w) | some s => (ts.new D (.acc e τ zs w)).set D s .gone)
          | _, _ => none) else none
      | none => none
    | _, _ => none
  | _, _ => none
def tCopy {R : Type} (ts : TS D.T) (t : Nat) (d s : TV D.T) (k : TV D.T → TS D.T → Option R) : Option R :=
  match d, s with
  | .osl s a, .osl s' b => if s = s' then (match P.underlying t, fnd ts.o s with
    | some (.slice e), some (.acc ty τ xs true) => if D.len τ = P.cellsOf e ∧ (P.info? e).isSome then
        pBind (shiftO xs a b) fun ys => k .any (((ts.mapV D (TV.ren D s ts.nx)).new D (.acc ty τ ys true)).set D s .gone) else none
    | _, _ => none) else none
  | _, _ => none
def tNext {R : Type} (ts : TS D.T) (x : TV D.T) (str : Bool) (k : TV D.T → TS D.T → Option R) : Option R :=
  match x, str with
  | .ptr s 0, true => match fnd ts.o s with
    | some (.siter l pos) => pIf (decide (pos < l.length)) (k (.tup [.bool true, .int .i64 pos, .int .i32 (decL l pos).1]) (ts.set D s (.siter l (pos + (decL l pos).2)))) (k (.tup [.bool false]) ts)
    | _ => none
  | _, _ => none
/-- operations, calls of functions apart -/
def tOp {R : Type} (ts : TS D.T) (op : Op) (k : TV D.T → TS D.T → Option R) (kf : Nat → Option R) : Option R :=
  match op with
  | .alloc t => match tZero (T := D.T) P t with
    | some z => if z.solid then k (.ptr ts.nx 0) (ts.new D (.cells z.cells)) else none
    | none => none
  | .box _ x => match ts.ev x with
    | some v => if v.solid then k (.ptr ts.nx 0) (ts.new D (.cells v.cells)) else none
    | none => none
  | .store t a x => match ts.ev a, ts.ev x with
    | some a, some x => tStore P D ts t a x k kf
    | _, _ => none
  | .range t x => match ts.ev x with
    | some (.str s) => match P.underlying t with
      | some .string => k (.ptr ts.nx 0) (ts.new D (.siter s 0))
      | _ => none
    | _ => none
  | .next i b => match ts.ev i with
    | some i => tNext D ts i b k
    | none => none
  | op => match op with
    | .call c => match c.callee, c.args.toList, c.argTypes.toList with
      | .builtin .append, [s, x], [t, u] => match ts.ev s, ts.ev x with
        | some s, some x => tAppend P D ts t u s x k
        | _, _ => none
      | .builtin .copy, [d, s], [t, u] => match ts.ev d, ts.ev s with
        | some d, some s => tCopy P D ts t d s k
        | _, _ => none
      | _, _, _ => tP P D ts op (fun v => k v ts) kf
    | op => tP P D ts op (fun v => k v ts) kf
end
/-! ### shapes -/
inductive Sh where
  | any
  | d (t : DTy)
  | own (k : Nat)
  | ptr (k off : Nat)
  | nilp
  | nilf
  | nili
  | nils
  | fn (f : Nat) (a b : List Sh)
  | iface (t : Nat) (s : Sh)
  | agg (cs : List Sh)
  | tup (cs : List Sh)
  | ref (cs : List Sh) (off : Nat)
inductive OSh where
  | cells (cs : List Sh)
  | st (i : Nat)
  | acc (ty : Nat) (t : DTy) (w : Bool)
  | siter
mutual
def Sh.tys : Sh → List DTy
  | .d t => [t]
  | .fn _ a b => Sh.tysL a ++ Sh.tysL b
  | .iface _ s => s.tys
  | .agg cs => Sh.tysL cs
  | .tup cs => Sh.tysL cs
  | .ref cs _ => Sh.tysL cs
  | _ => []
def Sh.tysL : List Sh → List DTy
  | [] => []
  | s :: l => s.tys ++ Sh.tysL l
end
end Go.Ab

namespace Go.Ab
open Go
set_option linter.unusedVariables false
inductive Src (T : Nat → Type) where
  | slot (s : Nat)
  | nil
abbrev Bnds (T : Nat → Type) := List (Nat × Src T)
section
variable {T : Nat → Type}
def Src.isSlot (s : Nat) : Src T → Bool
  | .slot s' => s' == s
  | _ => false
def bindS (n k s : Nat) (M : Bnds T) : Option (Bnds T) :=
  match fnd M k with
  | some (.slot s') => if s' = s then some M else none
  | some _ => none
  | none => if k < n ∧ M.all (fun p => !p.2.isSlot s) then some ((k, .slot s) :: M) else none
def bindN (n k : Nat) (M : Bnds T) : Option (Bnds T) :=
  match fnd M k with
  | some .nil => some M
  | some _ => none
  | none => if k < n then some ((k, .nil) :: M) else none
def frU (o : Option (Bnds T)) : FR (Bnds T × Unit) :=
  match o with
  | some M => .ok (M, ())
  | none => .bad
end
def OSh.tys : OSh → List DTy
  | .cells cs => Sh.tysL cs
  | .st i => [.st i]
  | .acc _ t _ => [.sl t]
  | .siter => [.str, .nat]
def tysO : List OSh → List DTy
  | [] => []
  | o :: l => o.tys ++ tysO l
def tysT : List (Nat × Sh) → List DTy
  | [] => []
  | p :: l => p.2.tys ++ tysT l
section
variable (D : Dat)
mutual
def fitV (n : Nat) : (sh : Sh) → TV D.T → Bnds D.T → FR (Bnds D.T × HL D.T sh.tys)
  | .any, _, M => .ok (M, ())
  | .d t, v, M => match asD D t v with
    | .ok x => .ok (M, (x, ()))
    | .frz s => .frz s
    | .bad => .bad
  | .own k, .own s, M => frU (bindS n k s M)
  | .own k, .nils, M => frU (bindN n k M)
  | .ptr k off, .ptr s off', M => if off = off' then frU (bindS n k s M) else .bad
  | .nilp, .nilp, M => .ok (M, ())
  | .nilf, .nilf, M => .ok (M, ())
  | .nili, .nili, M => .ok (M, ())
  | .nils, .nils, M => .ok (M, ())
  | .fn f a b, .fn f' a' b', M => if f = f' then (match fitL n a a' M with
    | .ok (M, x) => match fitL n b b' M with
      | .ok (M, y) => .ok (M, HL.app x y)
      | .frz s => .frz s
      | .bad => .bad
    | .frz s => .frz s
    | .bad => .bad) else .bad
  | .iface t s, .iface t' v, M => if t = t' then fitV n s v M else .bad
  | .agg cs, .agg vs, M => fitL n cs vs M
  | .tup cs, .tup vs, M => fitL n cs vs M
  | .ref cs off, .ref vs off', M => if off = off' then fitL n cs vs M else .bad
  | _, _, _ => .bad
def fitL (n : Nat) : (l : List Sh) → List (TV D.T) → Bnds D.T → FR (Bnds D.T × HL D.T (Sh.tysL l))
  | [], [], M => .ok (M, ())
  | sh :: l, v :: vs, M => match fitV n sh v M with
    | .ok (M, x) => match fitL n l vs M with
      | .ok (M, y) => .ok (M, HL.app x y)
      | .frz s => .frz s
      | .bad => .bad
    | .frz s => .frz s
    | .bad => .bad
  | _, _, _ => .bad
end
mutual
def bldV (m : Nat → Nat) : (sh : Sh) → HL D.T sh.tys → TV D.T
  | .any, _ => .any
  | .d t, x => D.tv t x.1
  | .own k, _ => .own (m k)
  | .ptr k off, _ => .ptr (m k) off
  | .nilp, _ => .nilp
  | .nilf, _ => .nilf
  | .nili, _ => .nili
  | .nils, _ => .nils
  | .fn f a b, x => .fn f (bldL m a (HL.fst _ x)) (bldL m b (HL.snd _ x))
  | .iface t s, x => .iface t (bldV m s x)
  | .agg cs, x => .agg (bldL m cs x)
  | .tup cs, x => .tup (bldL m cs x)
  | .ref cs off, x => .ref (bldL m cs x) off
def bldL (m : Nat → Nat) : (l : List Sh) → HL D.T (Sh.tysL l) → List (TV D.T)
  | [], _ => []
  | sh :: l, x => bldV m sh (HL.fst _ x) :: bldL m l (HL.snd _ x)
end
def fitO (n : Nat) (ts : TS D.T) : (o : OSh) → Src D.T → Bnds D.T → FR (Bnds D.T × HL D.T o.tys)
  | .cells cs, .slot s, M => match fnd ts.o s with
    | some (.cells vs) => fitL D n cs vs M
    | _ => .bad
  | .st i, .slot s, M => match fnd ts.o s with
    | some (.cells vs) => match asLeaves D (D.fl i) vs with
      | .ok x => .ok (M, (D.make i x, ()))
      | .frz s => .frz s
      | .bad => .bad
    | _ => .bad
  | .acc ty t w, .slot s, M => match fnd ts.o s with
    | some (.acc ty' t' xs w') => if ty = ty' ∧ (w = true → w' = true) then (match lcast t' t xs with | some xs => .ok (M, (xs, ())) | none => .bad) else .bad
    | _ => .bad
  | .acc _ _ _, .nil, M => .ok (M, ([], ()))
  | .siter, .slot s, M => match fnd ts.o s with
    | some (.siter l pos) => .ok (M, (l, (pos, ())))
    | _ => .bad
  | _, _, _ => .bad
def fitOs (n : Nat) (ts : TS D.T) : (os : List OSh) → Nat → Bnds D.T → FR (Bnds D.T × HL D.T (tysO os))
  | [], _, M => .ok (M, ())
  | o :: os, k, M => match fnd M k with
    | some src => match fitO D n ts o src M with
      | .ok (M, x) => match fitOs n ts os (k + 1) M with
        | .ok (M, y) => .ok (M, HL.app x y)
        | .frz s => .frz s
        | .bad => .bad
      | .frz s => .frz s
      | .bad => .bad
    | none => .bad
def fitTs (n : Nat) (ts : TS D.T) : (l : List (Nat × Sh)) → Bnds D.T → FR (Bnds D.T × HL D.T (tysT l))
  | [], M => .ok (M, ())
  | p :: l, M => match fnd ts.t p.1 with
    | some v => match fitV D n p.2 v M with
      | .ok (M, x) => match fitTs n ts l M with
        | .ok (M, y) => .ok (M, HL.app x y)
        | .frz s => .frz s
        | .bad => .bad
      | .frz s => .frz s
      | .bad => .bad
    | none => .bad
def bldO (m : Nat → Nat) : (o : OSh) → HL D.T o.tys → TO D.T
  | .cells cs, x => .cells (bldL D m cs x)
  | .st i, x => .cells (D.leaves (D.fl i) (D.get i x.1))
  | .acc ty t w, x => .acc ty t x.1 w
  | .siter, x => .siter x.1 x.2.1
def bldOs (m : Nat → Nat) : (os : List OSh) → Nat → HL D.T (tysO os) → List (Nat × TO D.T)
  | [], _, _ => []
  | o :: os, k, x => (m k, bldO D m o (HL.fst _ x)) :: bldOs m os (k + 1) (HL.snd _ x)
def bldT (m : Nat → Nat) : (l : List (Nat × Sh)) → HL D.T (tysT l) → List (Nat × TV D.T)
  | [], _ => []
  | p :: l, x => (p.1, bldV D m p.2 (HL.fst _ x)) :: bldT m l (HL.snd _ x)
end
/-- a shape of states -/
structure LSh where
  ts : List (Nat × Sh)
  os : List OSh
  pin : Nat
  nt : Nat
def LSh.tys (l : LSh) : List DTy := tysT l.ts ++ tysO l.os
section
variable (D : Dat)
def LSh.bld (l : LSh) (x : HL D.T l.tys) : TS D.T :=
  ⟨bldT D (fun k => k) l.ts (HL.fst _ x), bldOs D (fun k => k) l.os 0 (HL.snd _ x), l.os.length, l.nt, []⟩
/-- the first slots, as they are -/
def pins {T : Nat → Type} : Nat → Bnds T
  | 0 => []
  | n + 1 => (n, .slot n) :: pins n
def LSh.fit (l : LSh) (ts : TS D.T) : FR (HL D.T l.tys) :=
  if ts.nt = l.nt ∧ ts.d.isEmpty = true then (match fitTs D l.os.length ts l.ts (pins l.pin) with
    | .ok (M, x) => match fitOs D l.os.length ts l.os 0 M with
      | .ok (_, y) => .ok (HL.app x y)
      | .frz s => .frz s
      | .bad => .bad
    | .frz s => .frz s
    | .bad => .bad) else .bad
def LSh.enter {R : Type} (l : LSh) (k : HL D.T l.tys → Option R) : Nat → TS D.T → Option R
  | 0, _ => none
  | f + 1, ts => match l.fit D ts with
    | .ok x => k x
    | .frz s => match ts.freeze D s with
      | some ts' => LSh.enter l k f ts'
      | none => none
    | .bad => none
/-! ### functions -/
/-- what a function is given and gives: values, and the objects behind a call (the first p of them are those that were passed) -/
structure Ent where
  f : Nat
  p : Nat
  args : List Sh
  aos : List OSh
  outs : List Sh
  ros : List OSh
  pan : Sh
  pos : List OSh
  pure : Bool
  go : {R : Type} → HL D.T (Sh.tysL args ++ tysO aos) → (HL D.T (Sh.tysL outs ++ tysO ros) → Option R) → (HL D.T (pan.tys ++ tysO pos) → Option R) → Option R
  /-- what is turned in place: the number of what was given, that of what is left (of the same value) -/
  ren : List (Nat × Nat) := []
def Ent.fit (e : Ent D) (vs : List (TV D.T)) (ts : TS D.T) : FR (Bnds D.T × HL D.T (Sh.tysL e.args ++ tysO e.aos)) :=
  match fitL D e.aos.length e.args vs [] with
  | .ok (M, x) => match fitOs D e.aos.length ts e.aos 0 M with
    | .ok (M, y) => .ok (M, HL.app x y)
    | .frz s => .frz s
    | .bad => .bad
  | .frz s => .frz s
  | .bad => .bad
/-- the slots of the objects behind a call -/
def outSlot (M : Bnds D.T) (p nx k : Nat) : Nat :=
  if k < p then (match fnd M k with | some (.slot s) => s | _ => 0) else nx + (k - p)
def goneAll : Bnds D.T → List (Nat × TO D.T)
  | [] => []
  | (_, .slot s) :: l => (s, .gone) :: goneAll l
  | (_, .nil) :: l => goneAll l
def afterCall (M : Bnds D.T) (p : Nat) (ts : TS D.T) (os : List OSh) (y : HL D.T (tysO os)) : TS D.T :=
  { ts with o := bldOs D (outSlot D M p ts.nx) os 0 y ++ (goneAll D M ++ ts.o), nx := ts.nx + (os.length - p) }
/-- what was turned in place is told by its new slot -/
def renAfter (M : Bnds D.T) (p nx : Nat) : List (Nat × Nat) → TS D.T → TS D.T
  | [], ts => ts
  | q :: l, ts => match fnd M q.1 with
    | some (.slot s) => renAfter M p nx l (ts.mapV D (TV.ren D s (outSlot D M p nx q.2)))
    | _ => renAfter M p nx l ts
def tupT : List (TV D.T) → TV D.T
  | [v] => v
  | vs => .tup vs
/-- no entry fits -/
def pCall {R : Type} (f : Nat) (vs : List (TV D.T)) (ts : TS D.T) (k kp : TV D.T → TS D.T → Option R) (kf : Nat → Option R) : Option R := none
def tCall {R : Type} (f : Nat) (vs : List (TV D.T)) (ts : TS D.T) (k kp : TV D.T → TS D.T → Option R) (kf : Nat → Option R) : List (Ent D) → Option R
  | [] => pCall D f vs ts k kp kf
  | e :: r => match Nat.beq e.f f with
    | false => tCall f vs ts k kp kf r
    | true => match e.fit D vs ts with
      | .bad => tCall f vs ts k kp kf r
      | .frz s => kf s
      | .ok (M, x) => if e.p ≤ e.aos.length ∧ e.p ≤ e.ros.length ∧ e.p ≤ e.pos.length ∧ (List.range e.p).all (fun k => match fnd M k with | some (.slot _) => true | _ => false) then
          e.go x (fun y => k (tupT D (bldL D (outSlot D M e.p ts.nx) e.outs (HL.fst _ y))) (renAfter D M e.p ts.nx e.ren (afterCall D M e.p ts e.ros (HL.snd _ y))))
            (fun y => kp (bldV D (outSlot D M e.p ts.nx) e.pan (HL.fst _ y)) (afterCall D M e.p ts e.pos (HL.snd _ y)))
          else none
end
section
variable (P : Program) (D : Dat) (tbl : List (Ent D))
def tOne {R : Type} (op : Op) (k kp : TV D.T → TS D.T → Option R) : Nat → TS D.T → Option R
  | 0, _ => none
  | fuel + 1, ts =>
    let kf := fun s => match ts.freeze D s with
      | some ts' => tOne op k kp fuel ts'
      | none => none
    match op with
    | .call c => match c.callee with
      | .value x => match ts.ev x, ts.evs c.args.toList with
        | some (.fn f a b), some vs => tCall D f (a ++ vs ++ b) ts k kp kf tbl
        | _, _ => none
      | _ => tOp P D ts op k kf
    | .panic x => match ts.ev x with
      | some (.iface t v) => kp (.iface t v) ts
      | _ => none
    | .defer c => match c.callee with
      | .value x => match ts.ev x, ts.evs c.args.toList with
        | some (.fn f a b), some vs => k .any { ts with d := (f, a ++ vs ++ b) :: ts.d }
        | _, _ => none
      | _ => none
    | .binOp o t x y _ => match ts.ev x, ts.ev y with
      | some .nili, some .nili => (match isC x || isC y, P.underlying t with
        | true, some (.interface _) => (match o with
          | .eql => k (.bool true) ts
          | .neq => k (.bool false) ts
          | _ => none)
        | _, _ => none)
      | _, _ => tOp P D ts op k kf
    | _ => tOp P D ts op k kf
/-- is an operation wanted? -/
def tGuard {R : Type} (all : List Oper) (o : Oper) (ts : TS D.T) (go skip : TS D.T → Option R) : Option R :=
  match o.guard with
  | none => go ts
  | some (j, want) => match (all[j]?).bind (·.dst) with
    | none => none
    | some d => match fnd ts.t d with
      | some (.bool b) => pIf b (if want then go { ts with t := (d, .bool true) :: ts.t } else skip { ts with t := (d, .bool true) :: ts.t })
          (if want then skip { ts with t := (d, .bool false) :: ts.t } else go { ts with t := (d, .bool false) :: ts.t })
      | some (.tup _) => skip ts
      | _ => none
/-- a part of a slice that is copied, or copied to -/
def cpB (all : List Oper) (o : Oper) : Option (Nat × Operand × Operand) := match o.op, o.dst with
  | .slice t x (some lo) none none, some d => if all.any (fun q => match q.op with
      | .call c => (match c.callee with
        | .builtin .copy => c.args.toList.any fun a => (match a with
          | .tmp i => Nat.beq i d
          | _ => false)
        | _ => false)
      | _ => false) then some (t, x, lo) else none
  | _, _ => none
def tPC {R : Type} (all : List Oper) (o : Oper) (k : TV D.T → Option R) (ts : TS D.T) : Option R := match cpB all o with
  | some (t, x, lo) => (match ts.ev x, ts.ev lo with
    | some x, some lo => tCut P D ts t x lo k (tP P D ts o.op k fun _ => none)
    | _, _ => none)
  | none => tP P D ts o.op k fun _ => none
def tOneC {R : Type} (all : List Oper) (o : Oper) (k kp : TV D.T → TS D.T → Option R) (ts : TS D.T) : Option R := match cpB all o with
  | some (t, x, lo) => (match ts.ev x, ts.ev lo with
    | some x, some lo => tCut P D ts t x lo (fun v => k v ts) (tOne P D tbl o.op k kp 9 ts)
    | _, _ => none)
  | none => tOne P D tbl o.op k kp 9 ts
def runOps {R : Type} (all : List Oper) (kn : TS D.T → Option R) (kp : TV D.T → TS D.T → Option R) : List Oper → TS D.T → Option R
  | [], ts => kn ts
  | o :: rest, ts => pOp o <| tGuard D all o ts
      (fun ts => tOneC P D tbl all o (fun v ts => match ts.put D o.dst v with | some ts => runOps all kn kp rest ts | none => none) kp ts)
      (fun ts => match ts.put D o.dst (.tup []) with | some ts => runOps all kn kp rest ts | none => none)
/-- operations that turn nothing, in an order that is drawn -/
def pureE (f : Nat) : Bool := tbl.any fun e => Nat.beq e.f f && e.pure
def pureOp (op : Op) : Bool :=
  match op with
  | .alloc _ | .box _ _ | .store _ _ _ | .makeMap _ _ | .mapUpdate _ _ _ _ | .insert _ _ _ _ | .range _ _ | .next _ _ | .panic _ => false
  | .call c => match c.callee with
    | .builtin .len | .builtin .min | .builtin .max => true
    | .value (.func f) => pureE D tbl f
    | _ => false
  | _ => true
def runPure {R : Type} (all : List Oper) (kn : TS D.T → Option R) : List Oper → TS D.T → Option R
  | [], ts => kn ts
  | o :: rest, ts => pOp o <| tGuard D all o ts
      (fun ts => match o.op with
        | .call c => match c.callee with
          | .value x => match ts.ev x, ts.evs c.args.toList with
            | some (.fn f a b), some vs => tCall D f (a ++ vs ++ b) ts (fun v _ => match ts.put D o.dst v with | some ts => runPure all kn rest ts | none => none) (fun _ _ => none) (fun _ => none) (tbl.filter (·.pure))
            | _, _ => none
          | _ => tP P D ts o.op (fun v => match ts.put D o.dst v with | some ts => runPure all kn rest ts | none => none) (fun _ => none)
        | _ => tPC P D all o (fun v => match ts.put D o.dst v with | some ts => runPure all kn rest ts | none => none) ts)
      (fun ts => match ts.put D o.dst (.tup []) with | some ts => runPure all kn rest ts | none => none)
def pureLen : List Oper → Nat
  | [] => 0
  | o :: r => if pureOp D tbl o.op then pureLen r + 1 else 0
def TV.plainT {T : Nat → Type} : TV T → Bool
  | .any | .own _ | .osl _ _ | .map _ => false
  | _ => true
def liveB {T : Nat → Type} (ts : TS T) (s : Nat) : Bool := match fnd ts.o s with
  | some .gone => false
  | some _ => true
  | none => false
def plainO {T : Nat → Type} (ts : TS T) (x : Operand) : Option (List Nat) := match ts.ev x with
  | some v => (match v.plainT with
    | true => some []
    | false => none)
  | none => none
def ownO {T : Nat → Type} (ts : TS T) (x : Operand) : Option (List Nat) := match ts.ev x with
  | some (.own s) => (match fnd ts.o s with
    | some (.acc _ _ _ _) => some [s]
    | _ => none)
  | _ => plainO ts x
/-- the slots that a quiet operation reads -/
def rdK {T : Nat → Type} (ts : TS T) (op : Op) : Option (List Nat) := match op with
  | .load _ a => (match ts.ev a with
    | some (.ptr s _) => some [s]
    | some (.ap s _ _ _ _) => some [s]
    | some (.ref _ _) => some []
    | _ => none)
  | .indexAddr _ x _ => ownO ts x
  | .slice _ x _ _ _ => plainO ts x
  | .call c => (match c.callee, c.args.toList with
    | .builtin .len, [x] => ownO ts x
    | .builtin .min, _ => some []
    | .builtin .max, _ => some []
    | _, _ => none)
  | .move _ | .assign _ | .pick _ _ _ | .nilCheck _ | .binOp _ _ _ _ _ | .unOp _ _ _ | .convert _ _ _ | .makeInterface _ _ | .makeFunc _ _ _ | .fieldAddr _ _ _ | .field _ _ _ | .index _ _ _ | .typeAssert _ _ _ _ | .extract _ _ | .build _ _ | .buildSlice _ _ _ => some []
  | _ => none
/-- the slot that an effect writes (a new one, or that of cells); none: whatever -/
def wrK {T : Nat → Type} (ts : TS T) (op : Op) : Option Nat := match op with
  | .alloc _ => some ts.nx
  | .box _ _ => some ts.nx
  | .store _ a _ => (match ts.ev a with
    | some (.ptr s _) => some s
    | _ => none)
  | _ => none
abbrev Rds := List (Nat × Option (List Nat))
abbrev Wrs := List (Nat × Option Nat)
def effOk (all : List Oper) (i : Nat) (w : Option Nat) (rds : Rds) : Bool := rds.all fun p => ordB all p.1 i || (match p.2, w with
  | some [], _ => true
  | some R, some s => R.all fun q => !Nat.beq q s
  | _, _ => false)
def effsOk (all : List Oper) (i : Nat) (wrs : Wrs) : Bool := wrs.all fun p => ordB all p.1 i
def rdOk (all : List Oper) (i : Nat) (R : List Nat) (wrs : Wrs) : Bool := wrs.all fun p => ordB all p.1 i || (match R, p.2 with
  | [], _ => true
  | R, some s => R.all fun q => !Nat.beq q s
  | _, _ => false)
def loseR (w : Option Nat) (rds : Rds) : Rds := match w with
  | some _ => rds
  | none => rds.map fun p => (p.1, match p.2 with | some [] => some [] | _ => none)
def loseW (w : Option Nat) (wrs : Wrs) : Wrs := match w with
  | some _ => wrs
  | none => wrs.map fun p => (p.1, none)
def laterOk (all : List Oper) (i : Nat) (rest : List Nat) : Bool := rest.all fun j => ordB all i j
/-- an order: what is quiet first -/
def readyB (all : List Oper) (done : List Nat) (j : Nat) : Bool := !done.any (Nat.beq j) && (match all[j]? with
  | some o => o.after.toList.all fun e => !Region.binds .any e || done.any (Nat.beq e.on)
  | none => false)
def sched (all : List Oper) (quiet : Op → Bool) : Nat → List Nat → List Nat
  | 0, _ => []
  | n + 1, done => match (List.range all.length).find? fun j => readyB all done j && (match all[j]? with | some o => quiet o.op | none => false) with
    | some j => j :: sched all quiet n (j :: done)
    | none => match (List.range all.length).find? fun j => readyB all done j with
      | some j => j :: sched all quiet n (j :: done)
      | none => []
def callOk {T : Nat → Type} (all : List Oper) (i : Nat) (rds : Rds) (M : Bnds T) : Bool := rds.all fun p => ordB all p.1 i || (match p.2 with
  | some R => R.all fun q => M.all fun m => match m.2 with
    | .slot s => !Nat.beq q s
    | .nil => true
  | none => false)
/-- no entry fits (in a region whose operations commute) -/
def pCallC {R : Type} (f : Nat) (vs : List (TV D.T)) (ts : TS D.T) (chk : Bnds D.T → Bool) (k kp : TV D.T → TS D.T → Option R) : Option R := none
def tCallC {R : Type} (f : Nat) (vs : List (TV D.T)) (ts : TS D.T) (chk : Bnds D.T → Bool) (k kp : TV D.T → TS D.T → Option R) : List (Ent D) → Option R
  | [] => pCallC D f vs ts chk k kp
  | e :: r => match Nat.beq e.f f with
    | false => tCallC f vs ts chk k kp r
    | true => match e.fit D vs ts with
      | .ok (M, x) => if chk M = true ∧ e.p ≤ e.aos.length ∧ e.p ≤ e.ros.length ∧ e.p ≤ e.pos.length ∧ (List.range e.p).all (fun k => match fnd M k with | some (.slot _) => true | _ => false) then
          e.go x (fun y => k (tupT D (bldL D (outSlot D M e.p ts.nx) e.outs (HL.fst _ y))) (renAfter D M e.p ts.nx e.ren (afterCall D M e.p ts e.ros (HL.snd _ y))))
            (fun y => kp (bldV D (outSlot D M e.p ts.nx) e.pan (HL.fst _ y)) (afterCall D M e.p ts e.pos (HL.snd _ y)))
          else none
      | _ => tCallC f vs ts chk k kp r
def runComm {R : Type} (all : List Oper) (kn : TS D.T → Option R) (kp : TV D.T → TS D.T → Option R) : List Nat → Rds → Wrs → TS D.T → Option R
  | [], _, _, ts => kn ts
  | i :: rest, rds, wrs, ts => match all[i]? with
  | none => none
  | some o => pOp o <| tGuard D all o ts
      (fun ts => match effB o.op with
        | true => (match effOk all i (wrK ts o.op) rds && effsOk all i wrs with
          | true => tOp P D ts o.op (fun v ts' => match ts'.put D o.dst v with
            | some ts2 => runComm all kn kp rest (loseR (wrK ts o.op) rds) ((i, wrK ts o.op) :: loseW (wrK ts o.op) wrs) ts2
            | none => none) (fun _ => none)
          | false => none)
        | false => (match rdK ts o.op with
          | some R => (match rdOk all i R wrs && R.all (liveB ts) with
            | true => tP P D ts o.op (fun v => match ts.put D o.dst v with
              | some ts2 => runComm all kn kp rest ((i, some R) :: rds) wrs ts2
              | none => none) (fun _ => none)
            | false => none)
          | none => (match o.op with
            | .call c => (match c.callee with
              | .value x => (match ts.ev x, ts.evs c.args.toList with
                | some (.fn f a b), some vs => (match pureE D tbl f with
                  | true => tCall D f (a ++ vs ++ b) ts (fun v _ => match ts.put D o.dst v with
                    | some ts2 => runComm all kn kp rest ((i, some []) :: rds) wrs ts2
                    | none => none) (fun _ _ => none) (fun _ => none) (tbl.filter (·.pure))
                  | false => (match laterOk all i rest && effsOk all i wrs with
                    | true => tCallC D f (a ++ vs ++ b) ts (callOk all i rds) (fun v ts' => match ts'.put D o.dst v with
                      | some ts2 => runComm all kn kp rest (loseR none rds) ((i, none) :: loseW none wrs) ts2
                      | none => none) (fun z ts' => kp z { ts' with t := [] }) (tbl.filter fun e => !e.pure)
                    | false => none))
                | _, _ => none)
              | _ => none)
            | _ => none)))
      (fun ts => match ts.put D o.dst (.tup []) with
        | some ts2 => runComm all kn kp rest ((i, some []) :: rds) wrs ts2
        | none => none)
def runRegion {R : Type} (ops : Array Oper) (draw : Bool) (ts : TS D.T) (kn : TS D.T → Option R) (kp : TV D.T → TS D.T → Option R) : Option R :=
  if draw then
    let n := pureLen D tbl ops.toList
    if P.follows .mixedOrders then
      (if n = ops.size then (if Region.lexB .any ops then runPure P D tbl ops.toList kn ops.toList ts else none)
      else (if Region.lexTailB .any ops n then runPure P D tbl ops.toList (fun ts => runOps P D tbl ops.toList kn kp (ops.toList.drop n) ts) (ops.toList.take n) ts
      else (let l := sched ops.toList (fun op => !effB op && (match op with | .call c => (match c.callee with | .value (.func f) => pureE D tbl f | .value _ => false | _ => true) | _ => true)) ops.size []
        if schedB .any ops l (Array.replicate ops.size false) && Nat.beq l.length ops.size && (List.range ops.size).all (fun j => l.any (Nat.beq j)) then runComm P D tbl ops.toList kn kp l [] [] ts else none)))
    else none
  else runOps P D tbl ops.toList kn kp ops.toList ts
end
/-! ### code -/
/-- code with labels -/
inductive AC where
  | skip
  | region (id : Nat) (ops : Array Oper) (draw : Bool)
  | seq (a b : AC)
  | cond (c : Operand) (a b : AC)
  | block (id : Nat) (a : AC)
  | loop (a : AC)
  | exit (id : Nat)
  | ret
  | lab (l : Nat) (a : AC)
  | other (c : Code)
def AC.erase : AC → Code
  | .skip => .skip
  | .region id ops d => .region id ops d
  | .seq a b => .seq a.erase b.erase
  | .cond c a b => .cond c a.erase b.erase
  | .block id a => .block id a.erase
  | .loop a => .loop a.erase
  | .exit id => .exit id
  | .ret => .ret
  | .lab _ a => a.erase
  | .other c => c
def labAt (f : List (Nat × Nat)) (i : Nat) (a : AC) : AC :=
  match fnd f i with
  | some l => .lab l a
  | none => a
/-- labels are put at nodes, by their numbers (a node before its parts) -/
def ann (f : List (Nat × Nat)) : Code → Nat → AC × Nat
  | .skip, i => (labAt f i .skip, i + 1)
  | .region id ops d, i => (labAt f i (.region id ops d), i + 1)
  | .seq a b, i =>
    let x := ann f a (i + 1)
    let y := ann f b x.2
    (labAt f i (.seq x.1 y.1), y.2)
  | .cond c a b, i =>
    let x := ann f a (i + 1)
    let y := ann f b x.2
    (labAt f i (.cond c x.1 y.1), y.2)
  | .block id a, i =>
    let x := ann f a (i + 1)
    (labAt f i (.block id x.1), x.2)
  | .loop a, i =>
    let x := ann f a (i + 1)
    (labAt f i (.loop x.1), x.2)
  | .exit id, i => (labAt f i (.exit id), i + 1)
  | .ret, i => (labAt f i .ret, i + 1)
  | c, i => (.other c, i + 1)
/-- a label: its shape, and what comes from it on -/
structure Lb (D : Dat) (R : Type) where
  sh : LSh
  go : HL D.T sh.tys → Option R
def jump (D : Dat) {R : Type} (labs : List (Nat × Lb D R)) (l : Nat) (ts : TS D.T) : Option R :=
  match fnd labs l with
  | some lb => lb.sh.enter D lb.go 9 ts
  | none => none
structure Ks (T : Nat → Type) (R : Type) where
  kn : TS T → Option R
  kx : List (Nat × (TS T → Option R))
  kr : TS T → Option R
  kp : TV T → TS T → Option R
section
variable (P : Program) (D : Dat) (tbl : List (Ent D)) {R : Type} (J : Nat → TS D.T → Option R)
def run : AC → TS D.T → Ks D.T R → Option R
  | .skip, ts, K => K.kn ts
  | .region _ ops d, ts, K => runRegion P D tbl ops d ts K.kn K.kp
  | .seq a b, ts, K => run a ts { K with kn := fun ts => run b ts K }
  | .cond c a b, ts, K => match ts.ev c with
    | some (.bool v) => (match c with
      | .tmp t => pIf v (run a { ts with t := (t, .bool true) :: ts.t } K) (run b { ts with t := (t, .bool false) :: ts.t } K)
      | _ => pIf v (run a ts K) (run b ts K))
    | _ => none
  | .block id a, ts, K => run a ts { K with kx := (id, K.kn) :: K.kx }
  | .loop _, _, _ => none
  | .exit id, ts, K => match fnd K.kx id with
    | some k => k ts
    | none => none
  | .ret, ts, K => K.kr ts
  | .lab l _, ts, _ => J l ts
  | .other _, _, _ => none
/-- from a label on -/
def runLab (l : Nat) (a : AC) (K : Ks D.T R) : TS D.T → Option R := fun ts =>
  match a with
  | .loop b => run P D tbl J b ts { K with kn := J l }
  | a => run P D tbl J a ts K
/-- where a label is (kl: what a loop here goes back to) -/
def AC.at (l : Nat) : AC → Ks D.T R → (TS D.T → Option R) → Option (TS D.T → Option R)
  | .seq a b, K, _ => match AC.at l a { K with kn := fun ts => run P D tbl J b ts K } (fun _ => none) with
    | some x => some x
    | none => AC.at l b K (fun _ => none)
  | .cond _ a b, K, _ => match AC.at l a K (fun _ => none) with
    | some x => some x
    | none => AC.at l b K (fun _ => none)
  | .block id a, K, _ => AC.at l a { K with kx := (id, K.kn) :: K.kx } (fun _ => none)
  | .loop a, K, kl => AC.at l a { K with kn := kl } (fun _ => none)
  | .lab l' a, K, _ => match Nat.beq l' l with
    | true => some (runLab P D tbl J l' a K)
    | false => AC.at l a K (J l')
  | _, _, _ => none
end
/-- arguments, numbered -/
def argT {α : Type} : List α → Nat → List (Nat × α)
  | [], _ => []
  | a :: l, k => (k, a) :: argT l (k + 1)
/-- where a function begins -/
def entry (D : Dat) (args : List Sh) (aos : List OSh) (nt : Nat) (x : HL D.T (Sh.tysL args ++ tysO aos)) : TS D.T :=
  ⟨argT (bldL D (fun k => k) args (HL.fst _ x)) 0, bldOs D (fun k => k) aos 0 (HL.snd _ x), aos.length, nt, []⟩
/-- the results of a function -/
def resT (P : Program) (D : Dat) (ts : TS D.T) : List ResultVar → Option (List (TV D.T))
  | [] => some []
  | .tmp t :: rs => match fnd ts.t t, resT P D ts rs with
    | some v, some vs => some (v :: vs)
    | _, _ => none
  | .cell a t :: rs => match fnd ts.t a with
    | some p => match tLoad P D ts t p, resT P D ts rs with
      | some v, some vs => some (v :: vs)
      | _, _ => none
    | none => none
/-- how a function ends: by a label of its own -/
def endK {R : Type} (D : Dat) (l : LSh) (pack : HL D.T l.tys → R) : Ks D.T R :=
  ⟨l.enter D (fun x => some (pack x)) 9, [], l.enter D (fun x => some (pack x)) 9, fun _ _ => none⟩
/-! ### panics, deferred calls -/
section
variable (D : Dat)
/-- a panic that leaves a function: what is raised, and the objects that were passed -/
def panFit (pan : Sh) (pos : List OSh) (p : Nat) (z : TV D.T) (ts : TS D.T) : Option (HL D.T (pan.tys ++ tysO pos)) :=
  match ts.d with
  | [] => match fitV D pos.length pan z (pins p) with
    | .ok (M, x) => match fitOs D pos.length ts pos 0 M with
      | .ok (_, y) => some (HL.app x y)
      | _ => none
    | _ => none
  | _ => none
def modeTys : Option Sh → List DTy
  | none => []
  | some s => s.tys
/-- a deferred function: nothing is raised, or something of a shape (which it recovers) -/
structure DEnt where
  f : Nat
  args : List Sh
  aos : List OSh
  m : Option Sh
  ros : List OSh
  go : HL D.T (Sh.tysL args ++ tysO aos) → HL D.T (modeTys m) → Option (HL D.T (tysO ros))
def DEnt.ent (de : DEnt D) : Ent D := { f := de.f, p := de.aos.length, args := de.args, aos := de.aos, outs := [], ros := de.ros, pan := .nilp, pos := [], pure := false, go := fun _ _ _ => none }
def modeFit : (m : Option Sh) → Option (TV D.T) → Option (HL D.T (modeTys m))
  | none, none => some ()
  | some s, some z => match fitV D 0 s z [] with
    | .ok (_, x) => some x
    | _ => none
  | _, _ => none
def leave1 {R : Type} (f : Nat) (vs : List (TV D.T)) (m : Option (TV D.T)) (ts : TS D.T) (k : TS D.T → Option R) : List (DEnt D) → Option R
  | [] => none
  | de :: r => match Nat.beq de.f f with
    | false => leave1 f vs m ts k r
    | true => match modeFit D de.m m with
      | none => leave1 f vs m ts k r
      | some mx => match de.ent.fit D vs ts with
        | .ok (M, x) => if de.aos.length ≤ de.ros.length ∧ (List.range de.aos.length).all (fun k => match fnd M k with | some (.slot _) => true | _ => false) then
            pBind (de.go x mx) fun y => k (afterCall D M de.aos.length ts de.ros y) else none
        | _ => leave1 f vs m ts k r
/-- the deferred calls, one after the other -/
def leaveT {R : Type} (des : List (DEnt D)) (k : TS D.T → Option R) (kp : TV D.T → TS D.T → Option R) : List (Nat × List (TV D.T)) → Option (TV D.T) → TS D.T → Option R
  | [], none, ts => k ts
  | [], some z, ts => kp z ts
  | (f, vs) :: r, m, ts => leave1 D f vs m ts (fun ts' => leaveT des k kp r none { ts' with d := r }) des
def panK {X R : Type} (pan : Sh) (pos : List OSh) (p : Nat) (packp : HL D.T (pan.tys ++ tysO pos) → X) (z : TV D.T) (ts : TS D.T) : Option (Res X R) := match panFit D pan pos p z ts with
  | some y => some (.pan (packp y))
  | none => none
/-- how a function ends that may panic, or that defers calls -/
def endKP {X R : Type} (des : List (DEnt D)) (l : LSh) (pack : HL D.T l.tys → R) (pan : Sh) (pos : List OSh) (p : Nat) (packp : HL D.T (pan.tys ++ tysO pos) → X) : Ks D.T (Res X R) :=
  ⟨fun ts => leaveT D des (l.enter D (fun x => some (.ok (pack x))) 9) (panK D pan pos p packp) ts.d none ts, [],
    fun ts => leaveT D des (l.enter D (fun x => some (.ok (pack x))) 9) (panK D pan pos p packp) ts.d none ts,
    fun z ts => leaveT D des (l.enter D (fun x => some (.ok (pack x))) 9) (panK D pan pos p packp) ts.d (some z) ts⟩
/-- how a function ends that defers calls (a panic is not foreseen) -/
def endKD {R : Type} (des : List (DEnt D)) (l : LSh) (pack : HL D.T l.tys → R) : Ks D.T R :=
  ⟨fun ts => leaveT D des (l.enter D (fun x => some (pack x)) 9) (fun _ _ => none) ts.d none ts, [],
    fun ts => leaveT D des (l.enter D (fun x => some (pack x)) 9) (fun _ _ => none) ts.d none ts,
    fun z ts => leaveT D des (l.enter D (fun x => some (pack x)) 9) (fun _ _ => none) ts.d (some z) ts⟩
/-- code that begins with recover(): mv is what it yields -/
def runS {R : Type} (P : Program) (tbl : List (Ent D)) (J : Nat → TS D.T → Option R) (mv : TV D.T) : AC → TS D.T → Ks D.T R → Option R
  | .seq (.region _ ops false) b, ts, K => match ops.toList with
    | o :: rest => match isRec o with
      | true => match ts.put D o.dst mv with
        | some ts => runOps P D tbl ops.toList (fun ts => run P D tbl J b ts K) K.kp rest ts
        | none => none
      | false => none
    | [] => none
  | _, _, _ => none
end
end Go.Ab

namespace Go.Ab
open Go
set_option linter.unusedVariables false
set_option linter.unusedSimpArgs false
theorem fnd_cons {α : Type} (i : Nat) (a : α) (r : List (Nat × α)) (j : Nat) : fnd ((i, a) :: r) j = if i = j then some a else fnd r j := by
  simp only [fnd]
  cases h : Nat.beq i j with
  | true => rw [if_pos (Nat.eq_of_beq_eq_true h)]
  | false => rw [if_neg (fun e => by rw [e, Nat.beq_refl] at h; cases h)]
theorem fnd_map {α : Type} (f : α → α) : ∀ (l : List (Nat × α)) (j : Nat), fnd (l.map fun p => (p.1, f p.2)) j = (fnd l j).map f
  | [], j => rfl
  | (i, a) :: r, j => by
    rw [List.map_cons, fnd_cons, fnd_cons]
    split
    · rfl
    · exact fnd_map f r j
/-- the parts of a row -/
def HL.nth {T : Nat → Type} : (l : List DTy) → HL T l → Nat → Option ((t : DTy) × t.S T)
  | [], _, _ => none
  | t :: _, x, 0 => some ⟨t, x.1⟩
  | _ :: l, x, j + 1 => HL.nth l x.2 j
theorem HL.nth_some {T : Nat → Type} : ∀ (l : List DTy) (x : HL T l) (j : Nat) (p : (t : DTy) × t.S T), HL.nth l x j = some p → j < l.length ∧ l[j]? = some p.1
  | [], _, j, p, h => by simp [HL.nth] at h
  | t :: _, x, 0, p, h => by simp [HL.nth] at h; subst h; simp
  | _ :: l, x, j + 1, p, h => by
    obtain ⟨h1, h2⟩ := HL.nth_some l x.2 j p h
    exact ⟨by simpa using h1, by simpa using h2⟩
structure Dat.Ok (P : Program) (D : Dat) : Prop where
  enc : ∀ i x, D.enc i x = .agg (D.els (D.fl i) (D.get i x))
  getMake : ∀ i x, D.get i (D.make i x) = x
  flat : ∀ i t, t ∈ D.fl i → (match t with | .st _ => False | .nat => False | _ => True)
  ty : ∀ e t, D.ty e = some t → t ≠ .nat
  kin : ∀ i x (Dm : Nat → Nat → Prop), V.kin Dm (D.enc i x)
section
variable {D : Dat}
theorem els_len : ∀ (l : List DTy) (x : HL D.T l), (D.els l x).length = l.length
  | [], _ => rfl
  | t :: l, x => by simp [Dat.els, els_len l x.2]
theorem els_nth : ∀ (l : List DTy) (x : HL D.T l) (j : Nat), (D.els l x)[j]? = (HL.nth l x j).map fun p => D.el p.1 p.2
  | [], _, j => by simp [Dat.els, HL.nth]
  | t :: l, x, 0 => by simp [Dat.els, HL.nth]
  | t :: l, x, j + 1 => by simpa [Dat.els, HL.nth] using els_nth l x.2 j
theorem leaves_len : ∀ (l : List DTy) (x : HL D.T l), (D.leaves l x).length = l.length
  | [], _ => rfl
  | t :: l, x => by simp [Dat.leaves, leaves_len l x.2]
theorem leaves_nth : ∀ (l : List DTy) (x : HL D.T l) (j : Nat), (D.leaves l x)[j]? = (HL.nth l x j).map fun p => D.leaf p.1 p.2
  | [], _, j => by simp [Dat.leaves, HL.nth]
  | t :: l, x, 0 => by simp [Dat.leaves, HL.nth]
  | t :: l, x, j + 1 => by simpa [Dat.leaves, HL.nth] using leaves_nth l x.2 j
/-- an abstract value says this -/
inductive DR (D : Dat) : (t : DTy) → t.S D.T → V → Prop where
  | bool (b : Bool) : DR D .bool b (.bool b)
  | int (k : IntKind) (n : Int) : DR D (.int k) n (.int k n)
  | str (s : List UInt8) : DR D .str s (.str s)
  | nat (n : Nat) : DR D .nat n .any
  | nil (t : DTy) : DR D (.sl t) ([] : List (t.S D.T)) .nils
  | sl (t : DTy) (xs : List (t.S D.T)) (ws : List V) (full : Bool) (hl : ws.length = xs.length) (h : ∀ (j : Nat) (x : t.S D.T) (w : V), xs[j]? = some x → ws[j]? = some w → DR D t x w) : DR D (.sl t) xs (.sl (D.len t) ws full)
  | st (i : Nat) (x : D.T i) (vs : List V) (hl : vs.length = (D.fl i).length) (h : ∀ (j : Nat) (p : (t : DTy) × t.S D.T) (v : V), HL.nth (D.fl i) (D.get i x) j = some p → vs[j]? = some v → DR D p.1 p.2 v) : DR D (.st i) x (.agg vs)
  | enc (i : Nat) (x : D.T i) : DR D (.st i) x (D.enc i x)
variable {P : Program} (hD : D.Ok P)
include hD
theorem el_cells (t : DTy) (x : t.S D.T) : (D.el t x).cells.length = D.len t := by
  cases t with
  | st i => exact (congrArg (fun v => v.cells.length) (hD.enc i x)).trans (els_len _ _)
  | _ => rfl
theorem DR.cells {t : DTy} {x : t.S D.T} {v : V} (h : DR D t x v) : v.cells.length = D.len t := by
  cases h with
  | enc i x => exact el_cells hD (.st i) x
  | st i x vs hl h => simpa [V.cells, Dat.len] using hl
  | _ => rfl
omit hD in
theorem DR.elsl (t : DTy) (xs : List (t.S D.T)) (h : ∀ x, DR D t x (D.el t x)) : DR D (.sl t) xs (.sl (D.len t) (xs.map (D.el t)) false) :=
  .sl t xs _ false (by simp) fun j x w hx hw => by
    rw [List.getElem?_map, hx] at hw
    injection hw with hw
    subst hw
    exact h x
omit hD in
theorem DR.el : ∀ (t : DTy) (x : t.S D.T), DR D t x (D.el t x)
  | .bool, b => .bool b
  | .int k, n => .int k n
  | .str, s => .str s
  | .nat, n => .nat n
  | .sl t, xs => DR.elsl t xs (DR.el t)
  | .st i, x => .enc i x
end
end Go.Ab
