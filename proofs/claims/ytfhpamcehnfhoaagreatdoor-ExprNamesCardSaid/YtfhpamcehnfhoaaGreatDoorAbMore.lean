/-
  MORE OPERATIONS: what strings.Builder does with its own address and its bytes; make([]T, n).
-/
import Derived.Test.YtfhpamcehnfhoaaGreatDoorAbFlat
import Derived.Test.YtfhpamcehnfhoaaGreatDoorAbGhost
import Derived.Lib.Builder
import Derived.Lib.UnsafeStr
import Derived.Laws.MakeOwn
namespace Go.Ab
open Go
set_option linter.unusedSimpArgs false
set_option linter.unusedVariables false
section
variable {W : World} {g : Gh} {H : Heap} {P : Program}

theorem Rel.new_ap (l i : Nat) {W' : World} {g' : Gh} {H' : Heap} {ty sz : Nat} {xs : List V} {cp : Option Nat} (hd : g'.dom l i) (hg : H'.get l i = some (.arr 0 ty sz xs cp)) : Rel W' g' H' (.ap l i 0 0 0) (.pointer (some ⟨g'.ab l i, 0, none⟩)) := by
  refine .ap l i 0 0 0 _ hd (fun _ _ _ _ _ _ => Nat.zero_le _) fun ty sz xs cp _ => ?_
  simp

/-! ### a variable of its own type: a row of one -/
def isBld (P : Program) (t : Nat) : Bool := match P.info? t with
  | some i => match i.desc with
    | .named n _ => n == "strings.Builder"
    | _ => false
  | none => false
def hAllocA (P : Program) (H : Heap) (t : Nat) : Option (V × Heap) := match zeroV P t, P.info? t with
  | some z, some i => if z.solid && z.cells.length == i.size && Nat.blt 0 i.size then some (.ap H.lv H.L.length 0 0 0, H.push (.arr 0 t i.size [z] (some 1))) else none
  | _, _ => none
theorem orel_arr {W' : World} {g' : Gh} {H' : Heap} {l i : Nat} {ver ty sz : Nat} {z : V} {c : Array Value} (hc : g'.cap l i = 1) (h : W'.heap[g'.ab l i]? = some (.cells c ty (0, 0))) (hsz : 0 < sz) (hl : z.cells.length = sz) (hr : RelL W' g' H' z.cells c) : ORel W' g' H' l i (.arr ver ty sz [z] (some 1)) := by
  have one : ∀ {j : Nat} {x : V}, [z][j]? = some x → j = 0 ∧ x = z := fun {j x} hj => by
    cases j with
    | zero => simp at hj; exact ⟨rfl, hj.symm⟩
    | succ j => simp at hj
  refine ⟨c, h, hsz, by rw [hr.1, hl, hc, Nat.one_mul], by rw [hc]; decide, by rw [hc]; simp, fun n hn => by injection hn with hn; rw [hc, hn], fun j x hj => ?_, fun j x t v hj ht => ?_, fun j x t v hj ht => ?_⟩
  · obtain ⟨_, rfl⟩ := one hj; exact hl
  · obtain ⟨rfl, rfl⟩ := one hj; rw [Nat.zero_mul, Nat.zero_add]; exact hr.2.1 t v ht
  · obtain ⟨rfl, rfl⟩ := one hj; rw [Nat.zero_mul, Nat.zero_add]; exact hr.2.2 t v ht
theorem sound_allocA (hG : Good W g H) {t : Nat} {v : V} {H' : Heap} (h : hAllocA P H t = some (v, H')) : Turns P W g H (do pure (.value (← Instr.alloc t true (.tuple #[])))) v H' := by
  unfold hAllocA at h
  split at h
  · rename_i z i hz hi
    split at h
    · rename_i hc
      simp only [Bool.and_eq_true, beq_iff_eq, Nat.blt_eq] at hc
      obtain ⟨⟨c1, c2⟩, c3⟩ := hc
      injection h with h; injection h with h1 h2; subst h1; subst h2
      obtain ⟨zc, hz1, hz2⟩ := run_zero (W := W) (g := g) (H := H) hz
      have hr := rel_cells c1 hz2
      obtain ⟨h1, h2⟩ := good_push hG (O := .cells zc.cells t) (o := .arr 0 t i.size [z] (some 1)) 1 (fun W' g' H' hW hg hH hst => by
        refine orel_arr (c := zc.cells) (by rw [hg]; simp [Gh.add]) ?_ c3 c2 (hr.mono hst)
        rw [hW, hg]
        simp only [Gh.add, and_self, if_true]
        exact heap_alloc_new' _ _)
      refine ⟨.pointer (some ⟨W.heap.size, 0, none⟩), _, _, .inl (by simp [Instr.alloc, hz1, newVar, newRow]), h1, h2, ?_⟩
      have hgt : (H.push (.arr 0 t i.size [z] (some 1))).get H.lv H.L.length = some (.arr 0 t i.size [z] (some 1)) := by rw [Heap.get_push, if_pos ⟨rfl, rfl⟩]
      have := Rel.new_ap (W' := W.alloc (.cells zc.cells t)) (g' := g.add H.lv H.L.length W.heap.size 1) H.lv H.L.length (.inr ⟨rfl, rfl⟩) hgt
      simpa [Gh.add] using this
    · cases h
  · cases h

/-! ### the address of such a variable, held against itself and turned -/
def apAt (H : Heap) : V → Option (Nat × Nat × Nat × Nat)
  | .ap l i ver idx off => match H.get l i with
    | some (.arr ver' ty sz xs cp) => match Nat.beq ver' ver && Nat.blt (Nat.add (Nat.mul idx sz) off) (Nat.mul xs.length sz) with
      | true => some (ty, sz, xs.length, Nat.add (Nat.mul idx sz) off)
      | false => none
    | _ => none
  | _ => none
theorem apAt_spec (hG : Good W g H) {x : V} {c : Value} {ty sz n o : Nat} (h : apAt H x = some (ty, sz, n, o)) (hx : Rel W g H x c) : ∃ b q cells, c = .pointer (some ⟨b, o, none⟩) ∧ W.heap[b]? = some (.cells cells ty (0, 0)) ∧ cells.size = q * sz ∧ n ≤ q ∧ 0 < sz ∧ o < n * sz := by
  unfold apAt at h
  split at h
  · rename_i l i ver idx off
    split at h
    · rename_i ver' ty' sz' xs cp hg
      split at h
      · rename_i hc
        simp only [Bool.and_eq_true] at hc
        have e1 : ver' = ver := Nat.eq_of_beq_eq_true hc.1
        subst e1
        injection h with h; injection h with a1 h; injection h with a2 h; injection h with a3 a4
        subst a1; subst a2; subst a3; subst a4
        cases hx with
        | ap _ _ _ _ _ a hd hv ha =>
          obtain rfl := ha _ _ _ _ hg
          obtain ⟨cc, k1, k2, k3, k3', k4, k5, k6, k7, k8⟩ := hG.obj _ _ _ hg
          exact ⟨_, g.cap l i, cc, rfl, k1, k3, k4, k2, by have := hc.2; rw [Nat.blt_eq] at this; exact this⟩
      · cases h
    · cases h
  · cases h
def sameAp : V → V → Bool
  | .ap l i v x o, .ap l' i' v' x' o' => Nat.beq l l' && Nat.beq i i' && Nat.beq v v' && Nat.beq x x' && Nat.beq o o'
  | _, _ => false
theorem sameAp_eq {x y : V} (h : sameAp x y = true) : x = y := by
  unfold sameAp at h
  split at h
  · simp only [Bool.and_eq_true] at h
    obtain ⟨⟨⟨⟨h1, h2⟩, h3⟩, h4⟩, h5⟩ := h
    rw [Nat.eq_of_beq_eq_true h1, Nat.eq_of_beq_eq_true h2, Nat.eq_of_beq_eq_true h3, Nat.eq_of_beq_eq_true h4, Nat.eq_of_beq_eq_true h5]
  · cases h
def hEqAp (P : Program) (H : Heap) (op : BinOp) (t : Nat) (x y : V) : Option V :=
  match sameAp x y, apAt H x, P.underlying t with
  | true, some _, some (.pointer e) => match (P.info? e).isSome, op with
    | true, .eql => some (.bool true)
    | true, .neq => some (.bool false)
    | _, _ => none
  | _, _, _ => none
theorem run_eq_ptr_same {tp te : TypeId} {j : TypeInfo} (a : Addr) (hp : P.underlying tp = some (.pointer te)) (hte : P.info? te = some j) :
    (binOp .eql tp (.pointer (some a)) (.pointer (some a))).run P W = .ok (.bool true) W := by
  have h : ∀ d : Nat, (Op.equalIn (d + 1) tp (.pointer (some a)) (.pointer (some a))).run P W = .ok true W := fun d => by
    simp [Op.equalIn, run_underlying hp, sizeOf, typeInfo, hte, run_sameAddr_same]
  simp only [binOp]
  simp [Op.equal, Op.maxDepth, h 9999]
theorem sound_eqAp (hG : Good W g H) {op : BinOp} {t : Nat} {x y : V} {v : V} {a b : Value} (xo yo : Operand) (h : hEqAp P H op t x y = some v) (hx : Rel W g H x a) (hy : Rel W g H y b) :
    Turns P W g H (do pure (.value (← (do eqGuard op t xo yo a b; binOp op t a b)))) v H := by
  unfold hEqAp at h
  split at h
  · rename_i p e h1 h2 h3
    obtain rfl := sameAp_eq h1
    obtain ⟨ty, sz, n, o⟩ := p
    obtain ⟨blk, q, cells, rfl, k1, k2, k3, k4, k5⟩ := apAt_spec hG h2 hx
    have hb : b = .pointer (some ⟨blk, o, none⟩) := by
      obtain ⟨blk', q', cells', rfl, m1, m2, m3, m4, m5⟩ := apAt_spec hG h2 hy
      unfold apAt at h2
      split at h2
      · rename_i l i ver idx off
        split at h2
        · rename_i ver' ty' sz' xs cp hg
          split at h2
          · rename_i hc
            simp only [Bool.and_eq_true] at hc
            obtain rfl : ver' = ver := Nat.eq_of_beq_eq_true hc.1
            cases hx with
            | ap _ _ _ _ _ _ _ _ ha =>
              have e1 := ha _ _ _ _ hg
              cases hy with
              | ap _ _ _ _ _ _ _ _ ha' =>
                have e2 := ha' _ _ _ _ hg
                rw [e1, e2]
          · cases h2
        · cases h2
      · cases h2
    subst hb
    split at h
    · rename_i hi
      obtain ⟨j, hj⟩ := Option.isSome_iff_exists.1 hi
      injection h with h; subst h
      exact ⟨_, W, g, .inl (by simp [eqGuard, run_eq_ptr_same _ h3 hj]), .refl _ _ _, hG, .bool _⟩
    · rename_i hi
      obtain ⟨j, hj⟩ := Option.isSome_iff_exists.1 hi
      injection h with h; subst h
      exact ⟨_, W, g, .inl (by simp [eqGuard, Lib.run_neq_ptr_same _ _ h3 hj]), .refl _ _ _, hG, .bool _⟩
    · cases h
  · cases h
def capOne (H : Heap) : V → Bool
  | .ap l i _ _ _ => match H.get l i with
    | some (.arr _ _ _ _ (some 1)) => true
    | _ => false
  | _ => false
def hConv (P : Program) (H : Heap) (s d : Nat) (x : V) : Option V :=
  match P.underlying s, P.underlying d, apAt H x with
  | some (.pointer t), some .unsafePointer, some _ => match P.info? t with
    | some j => match Nat.blt 0 j.size with
      | true => some x
      | false => none
    | none => none
  | some .unsafePointer, some (.pointer u), some (ty, sz, n, o) => match P.info? u with
    | some _ => match Nat.beq (P.cellsOf ty) sz && Nat.beq n 1 && capOne H x && liesAt P P.depth ty 1 o u 1 with
      | true => some x
      | false => none
    | none => none
  | _, _, _ => none
theorem sound_conv (hG : Good W g H) {s d : Nat} {x v : V} {c : Value} (h : hConv P H s d x = some v) (hx : Rel W g H x c) : Turns P W g H (do pure (.value (← convert s d c))) v H := by
  unfold hConv at h
  split at h
  · rename_i t p hs hd hp
    obtain ⟨ty, sz, n, o⟩ := p
    obtain ⟨blk, q, cells, rfl, k1, k2, k3, k4, k5⟩ := apAt_spec hG hp hx
    split at h
    · rename_i j hj
      split at h
      · rename_i hz
        rw [Nat.blt_eq] at hz
        injection h with h; subst h
        have hlt : o < cells.size := by rw [k2]; exact Nat.lt_of_lt_of_le k5 (Nat.mul_le_mul_right _ k3)
        exact ⟨_, W, g, .inl (by simp [Lib.run_to_unsafe W ⟨blk, o, none⟩ hs hd hj (by omega) (show W.shape? blk = some (ty, cells.size) by simp [World.shape?, k1]) hlt]), .refl _ _ _, hG, hx⟩
      · cases h
    · cases h
  · rename_i u ty sz n o hs hd hp
    obtain ⟨blk, q, cells, rfl, k1, k2, k3, k4, k5⟩ := apAt_spec hG hp hx
    split at h
    · rename_i j hj
      split at h
      · rename_i hz
        simp only [Bool.and_eq_true] at hz
        obtain ⟨⟨⟨z1, z2⟩, z3⟩, z4⟩ := hz
        have e1 : P.cellsOf ty = sz := Nat.eq_of_beq_eq_true z1
        injection h with h; subst h
        have hcells : cells.size = sz := by
          unfold capOne at z3
          split at z3
          · rename_i l i ver idx off
            split at z3
            · rename_i ver' ty' sz' xs hg
              cases hx with
              | ap _ _ _ _ _ a _ _ ha =>
                simp only [apAt, hg] at hp
                split at hp
                · rename_i hc
                  simp only [Bool.and_eq_true] at hc
                  obtain rfl : ver' = ver := Nat.eq_of_beq_eq_true hc.1
                  injection hp with hp; injection hp with a1 hp; injection hp with a2 hp; injection hp with a3 a4
                  have := ha _ _ _ _ hg
                  injection this with e1' e2'
                  obtain ⟨cc, m1, m2, m3, m3', m4, m5, _⟩ := hG.obj _ _ _ hg
                  rw [← e1', k1] at m1
                  injection m1 with m1; injection m1 with m1 _ _
                  rw [m1, m3, m5 1 rfl, Nat.one_mul, a2]
                · cases hp
            · cases z3
          · cases z3
        have hq : cells.size / P.cellsOf ty = 1 := by rw [hcells, e1]; exact Nat.div_self k4
        exact ⟨_, W, g, .inl (by simp [Lib.run_from_unsafe W (e := ty) (cells := cells.size) ⟨blk, o, none⟩ hs hd hj (by simp [World.shape?, k1]) (by rw [hq]; exact z4)]), .refl _ _ _, hG, hx⟩
      · cases h
    · cases h
  · cases h

/-! ### a row's head, and its bytes as a string -/
def hSliceData (H : Heap) (x : V) : Option V := match x with
  | .nils => some .nilp
  | .hs l i ver off n full => match H.get l i with
    | some (.arr ver' _ _ _ _) => match Nat.beq ver' ver && Nat.blt 0 n with
      | true => some (.ap l i ver off 0)
      | false => none
    | _ => none
  | _ => none
theorem sound_sliceData (hG : Good W g H) {x v : V} {c : Value} {ts : Array TypeId} {ty : TypeId} (h : hSliceData H x = some v) (hx : Rel W g H x c) : Turns P W g H (do pure (.value (← Builtin.unsafeSliceData_ ts ty #[c]))) v H := by
  unfold hSliceData at h
  split at h
  · injection h with h; subst h
    cases hx with
    | nils => exact ⟨_, W, g, .inl (by simp [Lib.run_unsafeSliceData_nil]), .refl _ _ _, hG, .nilp⟩
  · rename_i l i ver off n full
    split at h
    · rename_i ver' ty' sz xs cp hg
      split at h
      · rename_i hc
        simp only [Bool.and_eq_true] at hc
        obtain rfl : ver' = ver := Nat.eq_of_beq_eq_true hc.1
        have hn : 0 < n := by have := hc.2; rwa [Nat.blt_eq] at this
        injection h with h; subst h
        cases hx with
        | hs _ _ _ _ _ _ a m cap hd hv ha =>
          obtain ⟨rfl, rfl, ⟨e1, e2, e3⟩, e4⟩ := ha _ _ _ _ hg
          refine ⟨_, W, g, .inl (by rw [Sem.run_bind, Lib.run_unsafeSliceData_row W ts ty _ _ cap (by omega)]; rfl), .refl _ _ _, hG, ?_⟩
          refine .ap l i ver' off 0 _ hd hv fun ty2 sz2 xs2 cp2 h2 => ?_
          obtain ⟨q1, _⟩ := ha _ _ _ _ h2
          injection q1
      · cases h
    · cases h
  · cases h
def bytesV : List V → Option (List UInt8)
  | [] => some []
  | v :: r => match v, bytesV r with
    | .int .u8 (.ofNat m), some s => match Nat.ble m 255 with
      | true => some (m.toUInt8 :: s)
      | false => none
    | _, _ => none
theorem bytesV_spec : ∀ {vs : List V} {s : List UInt8}, bytesV vs = some s → s.length = vs.length ∧ ∀ (j : Nat) (x : UInt8), s[j]? = some x → vs[j]? = some (.int .u8 x.toNat)
  | [], s, h => by simp only [bytesV, Option.some.injEq] at h; subst h; exact ⟨rfl, by simp⟩
  | v :: r, s, h => by
    simp only [bytesV] at h
    split at h
    · rename_i m s' h2
      split at h
      · rename_i hc
        injection h with h; subst h
        obtain ⟨k1, k2⟩ := bytesV_spec h2
        refine ⟨by simp [k1], fun j x hj => ?_⟩
        cases j with
        | zero =>
          simp only [List.getElem?_cons_zero, Option.some.injEq] at hj ⊢
          subst hj
          have hc := Nat.le_of_ble_eq_true hc
          have : (m.toUInt8).toNat = m := by
            simp only [Nat.toUInt8, UInt8.toNat_ofNat']
            omega
          rw [this]; rfl
        | succ j => simpa using k2 j x (by simpa using hj)
      · cases h
    · cases h
def hStrOf (P : Program) (H : Heap) (pt : Nat) (p n : V) : Option (V × Heap) :=
  match p, n with
  | .nilp, .int .i64 (.ofNat 0) => some (.str [], H)
  | .ap l i ver 0 0, .int .i64 (.ofNat m) => match H.get l i, P.underlying pt with
    | some (.arr ver' ty sz xs cp), some (.pointer e) => match Nat.beq ver' ver && Nat.beq sz 1 && Nat.beq l H.lv && Nat.beq e ty && Nat.beq (P.cellsOf ty) 1 && Nat.blt 0 m && Nat.ble m xs.length && Nat.ble m roomB with
      | true => match bytesV (xs.take m) with
        | some s => some (.str s, H.hide i)
        | none => none
      | false => none
    | _, _ => none
  | _, _ => none
theorem freeze_cell (W : World) (p : Addr) (n : Nat) (a : Addr) : (W.freeze p n).cell? a = W.cell? a := by
  unfold World.freeze
  by_cases hn : n = 0
  · rw [if_pos hn]
  · rw [if_neg hn]
    unfold World.cell?
    simp only [Array.getElem?_modify]
    by_cases h : p.block = a.block
    · rw [if_pos h]
      cases hb : W.heap[a.block]? with
      | none => rfl
      | some o => cases o <;> rfl
    · rw [if_neg h]
theorem sound_strOf (hG : Good W g H) {pt it ty : Nat} {p n v : V} {H' : Heap} {cp cn : Value} (h : hStrOf P H pt p n = some (v, H')) (hp : Rel W g H p cp) (hn : Rel W g H n cn) :
    Turns P W g H (do pure (.value (← Builtin.unsafeString_ #[pt, it] ty #[cp, cn]))) v H' := by
  unfold hStrOf at h
  split at h
  · injection h with h; injection h with h1 h2; subst h1; subst h2
    cases hp; cases hn
    exact ⟨_, W, g, .inl (by rw [Sem.run_bind, show Int.ofNat 0 = (0 : Int) from rfl, Lib.run_unsafeString_none W pt it ty none]; rfl), .refl _ _ _, hG, .str []⟩
  · rename_i l i ver m
    split at h
    · rename_i ver' ty' sz xs cap e hg hpt
      split at h
      · rename_i hc
        simp only [Bool.and_eq_true] at hc
        obtain ⟨⟨⟨⟨⟨⟨⟨c1, c2⟩, c3⟩, c4⟩, c5⟩, c6⟩, c7⟩, c8⟩ := hc
        obtain rfl : ver' = ver := Nat.eq_of_beq_eq_true c1
        obtain rfl : sz = 1 := Nat.eq_of_beq_eq_true c2
        obtain rfl : l = H.lv := Nat.eq_of_beq_eq_true c3
        obtain rfl : e = ty' := Nat.eq_of_beq_eq_true c4
        have c5 : P.cellsOf e = 1 := Nat.eq_of_beq_eq_true c5
        rw [Nat.blt_eq] at c6
        have c7 := Nat.le_of_ble_eq_true c7
        have c8 := Nat.le_of_ble_eq_true c8
        unfold roomB at c8
        split at h
        · rename_i s hs
          injection h with h; injection h with h1 h2; subst h1; subst h2
          obtain ⟨b1, b2⟩ := bytesV_spec hs
          have hsl : s.length = m := by rw [b1, List.length_take]; omega
          cases hn
          cases hp with
          | ap _ _ _ _ _ a hd hv ha =>
            obtain rfl := ha _ _ _ _ hg
            obtain ⟨cc, k1, k2, k3, k3', k4, k5, k6, k7, k8⟩ := hG.obj _ _ _ hg
            have hlt := hG.lt _ _ _ hg
            have hrun := Lib.run_unsafeString_row (P := P) W pt it ty e hpt c5 (g.ab H.lv i) cc.size (by simp [World.shape?, k1]) s (by intro hh; rw [hh] at hsl; simp at hsl; omega) (by rw [hsl, k3]; omega) (by omega) (fun j x hj => by
              have hj' := b2 j x hj
              have hjm : j < m := by rw [← hsl]; exact (List.getElem?_eq_some_iff.1 hj).1
              rw [List.getElem?_take, if_pos hjm] at hj'
              have hrel := k8 j _ 0 _ hj' rfl
              have hadd : (⟨g.ab H.lv i, 0, none⟩ : Addr).add j = ⟨g.ab H.lv i, j, none⟩ := by unfold Addr.add; split <;> simp_all
              have hjc : j < cc.size := by rw [k3]; omega
              rw [hadd, cell_of k1 hjc]
              rw [Nat.mul_one, Nat.add_zero] at hrel
              generalize cc.getD j undef = q at hrel
              cases hrel; rfl)
            rw [hsl] at hrun
            obtain ⟨g1, g2, g3, g4⟩ := good_hide hG hg
            have hfz : ∀ k, k ≠ g.ab H.lv i → (W.freeze ⟨g.ab H.lv i, 0, none⟩ m).heap[k]? = W.heap[k]? := fun k hk => by
              unfold World.freeze
              split
              · rfl
              · simp only [Array.getElem?_modify]
                rw [if_neg (fun e => hk e.symm)]
            have hsize : (W.freeze ⟨g.ab H.lv i, 0, none⟩ m).heap.size = W.heap.size := by unfold World.freeze; split <;> simp
            have hos : (W.freeze ⟨g.ab H.lv i, 0, none⟩ m).os = W.os ∧ (W.freeze ⟨g.ab H.lv i, 0, none⟩ m).tape = W.tape ∧ (W.freeze ⟨g.ab H.lv i, 0, none⟩ m).output = W.output := by unfold World.freeze; split <;> exact ⟨rfl, rfl, rfl⟩
            have hob : Own g H (g.ab H.lv i) := ⟨_, _, _, hg, rfl⟩
            have hst : Step W g H (W.freeze ⟨g.ab H.lv i, 0, none⟩ m) g (H.hide i) :=
              ⟨hos.1, hos.2.1, hos.2.2, Nat.le_of_eq hsize.symm, fun b hb hno => hfz b (fun e => hno (by rw [e]; exact hob)), g2.own, g2.dom, g2.new, g2.blk, g2.arr, g2.lv⟩
            have hst2 : ∀ l k o, (H.hide i).get l k = some o → o.blk g l k ≠ g.ab H.lv i := fun l k o ho e => by
              obtain ⟨q1, q2⟩ := Heap.get_hide ho
              exact q2 (hG.inj _ _ _ _ _ _ q1 hg e)
            refine ⟨.string ⟨s.toArray⟩, _, g, .inl (by rw [Sem.run_bind, show Int.ofNat m = ((m : Nat) : Int) from rfl, hrun]; rfl), hst, ⟨g1.dom, fun l k o ho => by rw [hsize]; exact g1.lt l k o ho, g1.inj, g1.fresh, fun l k o ho => ?_, hG.glob.step hst⟩, .str s⟩
            have ho' := hG.obj l k o (Heap.get_hide ho).1
            exact ho'.mono hst (hfz _ (hst2 l k o ho)) rfl rfl rfl
        · cases h
      · cases h
    · cases h
  · cases h

/-! ### make([]T, n) -/
def hMakeSlice (P : Program) (H : Heap) (t : Nat) (n c : V) : Option (V × Heap) :=
  match n, c with
  | .int _ (.ofNat n), .int _ (.ofNat c) => match P.underlying t with
    | some (.slice e) => match P.info? e, zeroV P e with
      | some i, some z => match z.solid && Nat.beq z.cells.length i.size && Nat.blt 0 i.size && Nat.ble n c && Nat.ble c 1000000 && Nat.ble i.bytes 100000 with
        | true => some (.hs H.lv H.L.length 0 0 n false, H.push (.arr 0 e i.size (List.replicate n z) none))
        | false => none
      | _, _ => none
    | _ => none
  | _, _ => none
theorem madeCells_get (z : Array Value) (n j t sz : Nat) (hz : z.size = sz) (ht : t < sz) (hj : j < n) : (madeCells z (n * sz)).getD (j * sz + t) undef = z.getD t undef := by
  have hlt : j * sz + t < n * sz := by
    have : (j + 1) * sz ≤ n * sz := Nat.mul_le_mul_right _ hj
    rw [Nat.succ_mul] at this; omega
  have hm : (j * sz + t) % z.size = t := by rw [hz, Nat.mul_comm, Nat.mul_add_mod, Nat.mod_eq_of_lt ht]
  simp only [madeCells, Array.getD_eq_getD_getElem?, Array.getElem?_map]
  rw [show (Array.range (n * sz))[j * sz + t]? = some (j * sz + t) by simp [hlt]]
  simp only [Option.map_some, Option.getD_some, hm]
  rw [getElem!_pos z t (by omega), Array.getElem?_eq_getElem (by omega)]; rfl
theorem sound_makeSlice (hG : Good W g H) {t : Nat} {n c v : V} {H' : Heap} {cn cc : Value} (h : hMakeSlice P H t n c = some (v, H')) (hn : Rel W g H n cn) (hcc : Rel W g H c cc) : Turns P W g H (do pure (.value (← Instr.makeSlice t cn cc))) v H' := by
  unfold hMakeSlice at h
  split at h
  · rename_i k1 n k2 c
    split at h
    · rename_i e ht
      split at h
      · rename_i i z hi hz
        split at h
        · rename_i hc
          simp only [Bool.and_eq_true] at hc
          obtain ⟨⟨⟨⟨⟨c1, c2⟩, c3⟩, c4⟩, c5⟩, c6⟩ := hc
          have c2 := Nat.eq_of_beq_eq_true c2
          rw [Nat.blt_eq] at c3
          have c4 := Nat.le_of_ble_eq_true c4
          have c5 := Nat.le_of_ble_eq_true c5
          have c6 := Nat.le_of_ble_eq_true c6
          injection h with h; injection h with h1 h2; subst h1; subst h2
          cases hn; cases hcc
          obtain ⟨zc, hz1, hz2⟩ : ∃ zc, i.zero = some zc ∧ Rel W g H z zc := by
            simp only [zeroV, hi, Option.bind_some, Option.map_eq_some_iff] at hz
            obtain ⟨zc, q1, rfl⟩ := hz
            exact ⟨zc, q1, rel_ofConst zc⟩
          obtain ⟨r1, r2, r3⟩ := rel_cells c1 hz2
          have hb : i.bytes * c ≤ 100000 * 1000000 := Nat.mul_le_mul c6 c5
          have hrun := run_make (P := P) W t e i zc ht hi hz1 k1 k2 (Int.ofNat n) (Int.ofNat c) (Int.natCast_nonneg n) (by show ((n : Nat) : Int) ≤ (c : Nat); omega) (by show ((i.bytes : Nat) : Int) * ((c : Nat) : Int) ≤ _; rw [← Int.natCast_mul]; omega) (by show ((c : Nat) : Int) ≤ _; omega)
          simp only [Int.toNat, Int.ofNat_eq_natCast] at hrun
          obtain ⟨h1, h2⟩ := good_push hG (O := .cells (madeCells zc.cells (c * i.size)) e) (o := .arr 0 e i.size (List.replicate n z) none) c (fun W' g' H' hW hg hH hst => by
            have hcap : g'.cap H.lv H.L.length = c := by rw [hg]; simp [Gh.add]
            refine ⟨madeCells zc.cells (c * i.size), ?_, c3, by rw [hcap, size_madeCells], by rw [hcap]; unfold maxLen; omega, by rw [hcap]; simpa using c4, by simp, fun j x hj => ?_, fun j x tt u hj htt => ?_, fun j x tt u hj htt => ?_⟩
            · rw [hW, hg]
              simp only [Gh.add, and_self, if_true]
              exact heap_alloc_new' _ _
            all_goals
              rw [List.getElem?_replicate] at hj
              split at hj
              · rename_i hjn
                injection hj with hj; subst hj
                first
                | exact c2
                | (have htl : tt < i.size := by rw [← c2]; exact (List.getElem?_eq_some_iff.1 htt).1
                   rw [madeCells_get zc.cells c j tt i.size (by rw [r1, c2]) htl (by omega)]
                   first | exact r2 tt u htt | exact (r3 tt u htt).mono hst)
              · cases hj)
          refine ⟨.slice (some ⟨W.heap.size, 0, none⟩) n c, _, _, .inl (by rw [Sem.run_bind, show Int.ofNat n = ((n : Nat) : Int) from rfl, show Int.ofNat c = ((c : Nat) : Int) from rfl, hrun]; rfl), h1, h2, ?_⟩
          refine .hs H.lv H.L.length 0 0 n false _ n c (.inr ⟨rfl, rfl⟩) (fun _ _ _ _ _ _ => Nat.zero_le _) fun ty2 sz2 xs2 cp2 hg2 => ?_
          rw [Heap.get_push, if_pos ⟨rfl, rfl⟩] at hg2
          injection hg2 with hg2; injection hg2 with _ _ _ e4 _
          refine ⟨by simp [Gh.add], rfl, ⟨c4, by simp [Gh.add], fun hh => by cases hh⟩, by rw [← e4]; simp⟩
        · cases h
      · cases h
    · cases h
  · cases h

/-- make([]T, n, c), taken for data at once -/
def pMakeData (P : Program) (t : Nat) (n c : V) : Option V :=
  match n, c with
  | .int _ (.ofNat n), .int _ (.ofNat c) => match P.underlying t with
    | some (.slice e) => match P.info? e, zeroV P e with
      | some i, some z => match z.solid && Nat.beq z.cells.length i.size && Nat.blt 0 i.size && Nat.ble n c && Nat.ble c 1000000 && Nat.ble i.bytes 100000 with
        | true => some (.sl i.size (List.replicate n z) (Nat.beq n c))
        | false => none
      | _, _ => none
    | _ => none
  | _, _ => none
theorem sound_makeData (hG : Good W g H) {t : Nat} {n c v : V} {cn cc : Value} (h : pMakeData P t n c = some v) (hn : Rel W g H n cn) (hcc : Rel W g H c cc) : Turns P W g H (do pure (.value (← Instr.makeSlice t cn cc))) v H := by
  unfold pMakeData at h
  split at h
  · rename_i k1 n k2 c
    split at h
    · rename_i e ht
      split at h
      · rename_i i z hi hz
        split at h
        · rename_i hc
          simp only [Bool.and_eq_true] at hc
          obtain ⟨⟨⟨⟨⟨c1, c2⟩, c3⟩, c4⟩, c5⟩, c6⟩ := hc
          have c2 := Nat.eq_of_beq_eq_true c2
          rw [Nat.blt_eq] at c3
          have c4 := Nat.le_of_ble_eq_true c4
          have c5 := Nat.le_of_ble_eq_true c5
          have c6 := Nat.le_of_ble_eq_true c6
          injection h with h; subst h
          cases hn; cases hcc
          obtain ⟨zc, hz1, hz2⟩ : ∃ zc, i.zero = some zc ∧ Rel W g H z zc := by
            simp only [zeroV, hi, Option.bind_some, Option.map_eq_some_iff] at hz
            obtain ⟨zc, q1, rfl⟩ := hz
            exact ⟨zc, q1, rel_ofConst zc⟩
          obtain ⟨r1, r2, r3⟩ := rel_cells c1 hz2
          have hb : i.bytes * c ≤ 100000 * 1000000 := Nat.mul_le_mul c6 c5
          have hrun := run_make (P := P) W t e i zc ht hi hz1 k1 k2 (Int.ofNat n) (Int.ofNat c) (Int.natCast_nonneg n) (by show ((n : Nat) : Int) ≤ (c : Nat); omega) (by show ((i.bytes : Nat) : Int) * ((c : Nat) : Int) ≤ _; rw [← Int.natCast_mul]; omega) (by show ((c : Nat) : Int) ≤ _; omega)
          simp only [Int.toNat, Int.ofNat_eq_natCast] at hrun
          have hgr := Grow.alloc W (.cells (madeCells zc.cells (c * i.size)) e)
          refine ⟨.slice (some ⟨W.heap.size, 0, none⟩) n c, _, g, .inl (by rw [Sem.run_bind, show Int.ofNat n = ((n : Nat) : Int) from rfl, show Int.ofNat c = ((c : Nat) : Int) from rfl, hrun]; rfl), hgr.step, hG.grow hgr, ?_⟩
          have at' : ∀ (j : Nat) (x : V) (tt : Nat) (u : V), (List.replicate n z)[j]? = some x → x.cells[tt]? = some u → x = z ∧ j < n ∧ tt < i.size := fun j x tt u hj hu => by
            rw [List.getElem?_replicate] at hj
            split at hj
            · rename_i hjn
              injection hj with hj; subst hj
              exact ⟨rfl, hjn, by rw [← c2]; exact (List.getElem?_eq_some_iff.1 hu).1⟩
            · cases hj
          have hr := Rel.sl (W := W.alloc (.cells (madeCells zc.cells (c * i.size)) e)) (g := g) (H := H) i.size (List.replicate n z) (Nat.beq n c) W.heap.size 0 c (fun j tt => zc.cells.getD tt undef) (fun hn => by
              obtain ⟨l, k, o, ho, hb⟩ := hn
              have := hG.lt l k o ho
              omega) c3 (by simpa using c4) (fun hf => by rw [List.length_replicate]; exact (Nat.eq_of_beq_eq_true hf).symm) (fun j x hj => by
              rw [List.getElem?_replicate] at hj
              split at hj
              · injection hj with hj; subst hj; exact c2
              · cases hj) (fun j x tt u hj hu => by
              obtain ⟨rfl, hjn, htl⟩ := at' j x tt u hj hu
              rw [Nat.zero_add, World.cell?_alloc_new]
              have hlt : j * i.size + tt < c * i.size := by
                have : (j + 1) * i.size ≤ c * i.size := Nat.mul_le_mul_right _ (by omega)
                rw [Nat.succ_mul] at this; omega
              have hm := madeCells_get zc.cells c j tt i.size (by rw [r1, c2]) htl (by omega)
              rw [Array.getD_eq_getD_getElem?, Array.getElem?_eq_getElem (by rw [size_madeCells]; exact hlt)] at hm
              rw [Array.getElem?_eq_getElem (by rw [size_madeCells]; exact hlt)]
              simpa using hm) (fun j x tt u hj hu => by
              obtain ⟨rfl, hjn, htl⟩ := at' j x tt u hj hu
              exact r2 tt u hu) (fun j x tt u hj hu => by
              obtain ⟨rfl, hjn, htl⟩ := at' j x tt u hj hu
              exact (r3 tt u hu).mono hgr.step)
          rw [List.length_replicate] at hr
          exact hr
        · cases h
      · cases h
    · cases h
  · cases h

/-! ### all of them -/
def isC : Operand → Bool
  | .const _ => true
  | _ => false
/-- nil against the literal nil -/
def hEqNil (P : Program) (op : BinOp) (t : Nat) (xo yo : Operand) (x y : V) : Option V := match x, y, isC xo || isC yo, P.underlying t with
  | .nili, .nili, true, some (.interface _) => match op with
    | .eql => some (.bool true)
    | .neq => some (.bool false)
    | _ => none
  | _, _, _, _ => none
theorem sound_eqNil (hG : Good W g H) {op : BinOp} {t : Nat} {xo yo : Operand} {x y v : V} {a b : Value} (h : hEqNil P op t xo yo x y = some v) (hx : Rel W g H x a) (hy : Rel W g H y b) :
    Turns P W g H (do pure (.value (← (do eqGuard op t xo yo a b; binOp op t a b)))) v H := by
  unfold hEqNil at h
  split at h
  · rename_i ms hc hu
    cases hx; cases hy
    have hg : (eqGuard op t xo yo .nilIface .nilIface).run P W = .ok () W := by
      cases xo <;> cases yo <;> first | (simp [isC] at hc; done) | (cases op <;> simp [eqGuard])
    have he : ∀ d : Nat, (Op.equalIn (d + 1) t .nilIface .nilIface).run P W = .ok true W := fun d => by
      simp [Op.equalIn, run_underlying' hu]
    have hu' : (Op.equal t .nilIface .nilIface).run P W = .ok true W := he 9999
    split at h
    · injection h with h; subst h
      exact ⟨_, W, g, .inl (by simp [hg, binOp_eql (a := .nilIface) rfl, hu']), .refl _ _ _, hG, .bool _⟩
    · injection h with h; subst h
      exact ⟨_, W, g, .inl (by simp [hg, binOp_neq (a := .nilIface) rfl, hu']), .refl _ _ _, hG, .bool _⟩
    · cases h
  · cases h
def hEq2 (P : Program) (H : Heap) (op : BinOp) (t : Nat) (xo yo : Operand) (x y : V) : Option V := match hEqNil P op t xo yo x y with
  | some v => some v
  | none => hEqAp P H op t x y
theorem sound_eq2 (hG : Good W g H) {op : BinOp} {t : Nat} {xo yo : Operand} {x y v : V} {a b : Value} (h : hEq2 P H op t xo yo x y = some v) (hx : Rel W g H x a) (hy : Rel W g H y b) :
    Turns P W g H (do pure (.value (← (do eqGuard op t xo yo a b; binOp op t a b)))) v H := by
  unfold hEq2 at h
  split at h
  · rename_i u hu; injection h with h; subst h; exact sound_eqNil hG hu hx hy
  · exact sound_eqAp hG xo yo h hx hy
def hMore (P : Program) (H : Heap) (ρ : Operand → V) (op : Op) : Option (V × Heap) := match op with
  | .alloc t => match isBld P t with
    | true => hAllocA P H t
    | false => none
  | .makeSlice t n c => hMakeSlice P H t (ρ n) (ρ c)
  | .convert s d x => (hConv P H s d (ρ x)).map fun v => (v, H)
  | .binOp op t x y _ => (hEq2 P H op t x y (ρ x) (ρ y)).map fun v => (v, H)
  | .call c => match c.callee with
    | .builtin .unsafeSliceData => match c.args.toList with
      | [x] => (hSliceData H (ρ x)).map fun v => (v, H)
      | _ => none
    | .builtin .unsafeString => match c.args.toList, c.argTypes.toList with
      | [p, n], [pt, _] => hStrOf P H pt (ρ p) (ρ n)
      | _, _ => none
    | _ => none
  | _ => none
theorem more_sound {ρ : Operand → V} {r : Operand → Value} {o : Oper} {v : V} {H' : Heap} (hG : Good W g H) (hρ : ∀ x, Rel W g H (ρ x) (r x)) (h : hMore P H ρ o.op = some (v, H')) : Turns P W g H (execOp r o) v H' := by
  have pure' : ∀ {q : Option V}, (q.map fun v => (v, H)) = some (v, H') → q = some v ∧ H' = H := fun {q} h => by
    simp only [Option.map_eq_some_iff] at h
    obtain ⟨u, hu, heq⟩ := h
    injection heq with h1 h2
    exact ⟨by rw [hu, h1], h2.symm⟩
  unfold hMore at h
  split at h
  · rename_i t heq
    split at h
    · unfold execOp; rw [heq]; exact sound_allocA hG h
    · cases h
  · rename_i t n c heq; unfold execOp; rw [heq]; exact sound_makeSlice hG h (hρ n) (hρ c)
  · rename_i s d x heq; obtain ⟨h, rfl⟩ := pure' h; unfold execOp; rw [heq]; exact sound_conv hG h (hρ x)
  · rename_i op t x y _ heq; obtain ⟨h, rfl⟩ := pure' h; unfold execOp; rw [heq]; exact sound_eq2 hG h (hρ x) (hρ y)
  · rename_i c heq
    unfold execOp; rw [heq]
    obtain ⟨callee, args, argTypes⟩ := c
    simp only at h
    split at h
    · split at h
      · rename_i x hargs
        obtain ⟨h, rfl⟩ := pure' h
        obtain rfl := array_of_toList hargs
        have := sound_sliceData (P := P) (ts := argTypes) (ty := o.type) hG h (hρ x)
        obtain ⟨c, W', g', h1, h2, h3, h4⟩ := this
        refine ⟨c, W', g', ?_, h2, h3, h4⟩
        rcases h1 with h1 | ⟨h1, h1'⟩
        · left; rw [← h1]; simp [resolve, invoke, builtin]
        · right; refine ⟨?_, h1'⟩; rw [← h1]; simp [resolve, invoke, builtin]
      · cases h
    · split at h
      · rename_i p n pt it hargs htys
        obtain rfl := array_of_toList hargs
        obtain rfl := array_of_toList htys
        have := sound_strOf (P := P) (it := it) (ty := o.type) hG h (hρ p) (hρ n)
        obtain ⟨c, W', g', h1, h2, h3, h4⟩ := this
        refine ⟨c, W', g', ?_, h2, h3, h4⟩
        rcases h1 with h1 | ⟨h1, h1'⟩
        · left; rw [← h1]; simp [resolve, invoke, builtin]
        · right; refine ⟨?_, h1'⟩; rw [← h1]; simp [resolve, invoke, builtin]
      · cases h
    · cases h
  · cases h
end
end Go.Ab
