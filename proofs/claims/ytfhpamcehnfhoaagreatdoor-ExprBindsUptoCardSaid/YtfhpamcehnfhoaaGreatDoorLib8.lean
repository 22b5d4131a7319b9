/-
  slices.Sort OF STRINGS ON A SLICE OF OURS, out of a zix of the kit's kind.
-/
import Derived.Test.YtfhpamcehnfhoaaGreatDoorLib6
import Derived.Shelf.Sort.Plain
import Derived.Sort.Walk0
namespace Go.Ab
open Go Go.RowKit Go.Sort Go.Proofs
set_option linter.unusedVariables false
set_option linter.unusedSimpArgs false
def z1u (ss : List (List UInt8)) : List (List UInt8) := ss.mergeSort fun x y => decide (x ≤ y)
theorem zgw (ss : List (List UInt8)) : (z1u ss).Perm ss := List.mergeSort_perm _ _
theorem yl8 {P : Program} {f ty : Nat} (hent : ∀ args W, (callFunc f args).run P W = .ok (.enter f args) W)
  (hcon : ∀ (blk cap : Nat) (ss : List (List UInt8)) (w : World), Holds encStr w blk 0 ss.toArray → blk < w.heap.size → ss.length < 4611686018427387904 →
   Calls P f #[.slice (some ⟨blk, 0, none⟩) ss.length cap] w fun e w' => e = .returned (.tuple #[]) ∧ ∃ n os, w' = grow (putRow encStr (Sort.ahead w n) blk 0 (ss.mergeSort fun x y => decide (x ≤ y)).toArray) os)
  {lv k ver n : Nat} {L : List (Option kz3)} {E : Nat → Nat → Option kz3} {xs : List (List UInt8)} {cp : Option Nat} (hL : L[k]? = some (some (.arr ver ty 1 (xs.map V.str) cp))) (hlen : xs.length < 4611686018427387904) (hn : n = xs.length) :
  zeq P f [.hs lv k ver 0 n false] ⟨lv, L, E⟩ fun o H' => o = .ret (.tup []) ∧ H' = ⟨lv, L.set k (some (.arr ver ty 1 ((z1u xs).map V.str) cp)), E⟩ := by
 intro W g cargs hG hR
 have hg : (⟨lv, L, E⟩ : kz1).get lv k = some (.arr ver ty 1 (xs.map V.str) cp) := by simp [kz1.get, hL]
 obtain ⟨x, rfl, h0⟩ : ∃ x, cargs = #[x] ∧ Rel W g ⟨lv, L, E⟩ (.hs lv k ver 0 n false) x := by
  obtain ⟨h1, h2⟩ := hR
  have hsz : cargs.toList.length = 1 := by simpa using h1
  obtain ⟨c, hc⟩ := List.length_eq_one_iff.1 hsz
  have hc' : cargs = #[c] := by rw [← Array.toList_inj, hc]
  subst hc'
  exact ⟨c, rfl, by simpa using h2 0 _ rfl⟩
 refine ⟨hent _ _, ?_⟩
 cases h0 with
 | hs _ _ _ _ _ _ a m cap hd hv ha =>
   obtain ⟨rfl, rfl, ⟨a1, a2, _⟩, a3⟩ := ha _ _ _ _ hg
   obtain ⟨cur, k1, k2, k3, k3', k4, k5, k6, k7, k8⟩ := hG.obj _ _ _ hg
   rw [List.length_map] at k4
   have hH : Holds encStr W (g.ab lv k) 0 xs.toArray := fun j hj => by
     have hj' : j < xs.length := by simpa using hj
     have e1 : (xs.map V.str)[j]? = some (.str xs[j]) := by rw [List.getElem?_map, List.getElem?_eq_getElem hj']; rfl
     have e2 := k8 j _ 0 (.str xs[j]) e1 rfl
     have hlt : j < cur.size := by rw [k3]; omega
     refine ⟨?_, by simp [World.frozen?, k1]⟩
     rw [getElem!_pos xs.toArray j hj]
     cases e2h : cur.getD (j * 1 + 0) undef with
     | string s =>
       rw [e2h] at e2
       cases e2
       rw [Array.getD_eq_getD_getElem?] at e2h
       rw [show j * 1 + 0 = j by omega, Array.getElem?_eq_getElem hlt] at e2h
       simp only [Option.getD_some] at e2h
       simp [World.cell?, k1, hlt, e2h, encStr]
     | _ => rw [e2h] at e2; cases e2
   have hb : g.ab lv k < W.heap.size := (Array.getElem?_eq_some_iff.1 k1).1
   have hc := hcon (g.ab lv k) cap xs W hH hb hlen
   have hsp := zgw xs
   have hsl : (z1u xs).length = xs.length := hsp.length_eq
   subst hn
   refine hc.mono ?_
   rintro e W' ⟨rfl, nn, os, rfl⟩
   have hheap : (grow (putRow encStr (Sort.ahead W nn) (g.ab lv k) 0 (z1u xs).toArray) os).heap = W.heap.modify (g.ab lv k) (onCells (Go.Sort.putCells encStr 0 (z1u xs).toArray)) ++ os := rfl
   have hW' : (grow (putRow encStr (Sort.ahead W nn) (g.ab lv k) 0 (z1u xs).toArray) os).heap[g.ab lv k]? = some (.cells (Go.Sort.putCells encStr 0 (z1u xs).toArray cur) ty (0, 0)) := by
     rw [hheap, Array.getElem?_append_left (by simpa using hb), Array.getElem?_modify, if_pos rfl, k1]; rfl
   have hcur : ∀ j (hj : j < (z1u xs).length), (Go.Sort.putCells encStr 0 (z1u xs).toArray cur).getD (j * 1 + 0) undef = .string ⟨((z1u xs)[j]).toArray⟩ := fun j hj => by
     have hlt2 : j * 1 + 0 < cur.size := by rw [k3]; omega
     rw [Array.getD_eq_getD_getElem?, Go.Sort.putCells, Array.getElem?_mapIdx, Array.getElem?_eq_getElem hlt2]
     simp only [Option.map_some, Option.getD_some, Nat.sub_zero]
     rw [if_pos ⟨Nat.zero_le _, by simp; omega⟩, getElem!_pos (z1u xs).toArray _ (by simp; omega)]
     simp [encStr]
   have hys : ∀ (j : Nat) (x : V), ((z1u xs).map V.str)[j]? = some x → ∃ hj : j < (z1u xs).length, x = .str (z1u xs)[j] := fun j x hj => by
     rw [List.getElem?_map, Option.map_eq_some_iff] at hj
     obtain ⟨y, hy, rfl⟩ := hj
     obtain ⟨h1, h2⟩ := List.getElem?_eq_some_iff.1 hy
     exact ⟨h1, by rw [h2]⟩
   obtain ⟨q1, q2⟩ := zd6 (W' := grow (putRow encStr (Sort.ahead W nn) (g.ab lv k) 0 (z1u xs).toArray) os) hG (o' := .arr ver ty 1 ((z1u xs).map V.str) cp) hg rfl rfl rfl rfl (by rw [hheap]; simp) (fun b hb1 hb2 => by
       rw [hheap, Array.getElem?_append_left (by simpa using hb1), Array.getElem?_modify, if_neg (fun h => hb2 h.symm)])
     (fun ver ty sz zs cp' he => by injection he with e1 e2 e3 e4 e5; subst e1; subst e2; subst e3; subst e4; exact ⟨_, _, _, rfl, Nat.le_refl _, fun _ => by simp [hsl]⟩) (fun hst => by
     refine ⟨_, hW', by decide, by rw [Go.Sort.putCells, Array.size_mapIdx]; exact k3, k3', by rw [List.length_map, hsl]; exact k4, k5, fun j x hj => ?_, fun j x t v hj htv => ?_, fun j x t v hj htv => ?_⟩
     · obtain ⟨_, rfl⟩ := hys j x hj; rfl
     · obtain ⟨hj', rfl⟩ := hys j x hj
       have ht : t = 0 := by
         cases t with
         | zero => rfl
         | succ t => simp [V.cells] at htv
       subst ht
       rw [hcur j hj']; rfl
     · obtain ⟨hj', rfl⟩ := hys j x hj
       have ht : t = 0 := by
         cases t with
         | zero => rfl
         | succ t => simp [V.cells] at htv
       subst ht
       simp [V.cells] at htv
       subst htv
       rw [hcur j hj']
       exact .str _)
   refine ⟨.ret (.tup []), _, g, ⟨rfl, rfl⟩, ?_, ?_, _, rfl, .tup [] #[] rfl (by simp)⟩
   · have := q1; simp only [kz1.set, if_pos] at this; exact this
   · have := q2; simp only [kz1.set, if_pos] at this; exact this
def yct (D : Dat) (f ty : Nat) (go : Nat → List (List UInt8) → Option (List (List UInt8))) : FI D :=
 { R := List (List UInt8), ent := fun n => { f := f, p := 0, args := [.own 0], aos := [.acc ty .str true], outs := [], ros := [.acc ty .str true], pan := .nilp, pos := [.acc ty .str true], pure := false, go := fun x k _ => (go n x.1).bind fun r => k (r, ()), ren := [(0, 0)] },
   c := .skip, K := ⟨fun _ => none, [], fun _ => none, fun _ _ => none⟩, p := 0, args := [], aos := [], nt := 0, z3u := fun _ => [], go := fun _ _ => none }
theorem ylo {D : Dat} {xs : List (List UInt8)} {ws : List V} (hl : ws.length = xs.length) (h : ∀ (j : Nat) (x : List UInt8) (v : V), xs[j]? = some x → ws[j]? = some v → DR D .str x v) : ws = xs.map V.str := by
 refine List.ext_getElem? fun j => ?_
 rw [List.getElem?_map]
 cases hx : xs[j]? with
 | none =>
   rw [List.getElem?_eq_none_iff] at hx
   simp only [Option.map_none]
   rw [List.getElem?_eq_none_iff]; omega
 | some x =>
   have hlt := (List.getElem?_eq_some_iff.1 hx).1
   have hw : ws[j]? = some ws[j] := List.getElem?_eq_getElem (by omega)
   have := h j x _ hx hw
   rw [hw]
   cases hv : ws[j] with
   | str s => rw [hv] at this; cases this; rfl
   | _ => rw [hv] at this; cases this
theorem yha {P : Program} {D : Dat} {f ty : Nat} (hent : ∀ args W, (callFunc f args).run P W = .ok (.enter f args) W)
  (hcon : ∀ (blk cap : Nat) (ss : List (List UInt8)) (w : World), Holds encStr w blk 0 ss.toArray → blk < w.heap.size → ss.length < 4611686018427387904 →
   Calls P f #[.slice (some ⟨blk, 0, none⟩) ss.length cap] w fun e w' => e = .returned (.tuple #[]) ∧ ∃ n os, w' = grow (putRow encStr (Sort.ahead w n) blk 0 (ss.mergeSort fun x y => decide (x ≤ y)).toArray) os)
  (hnone : ∀ (p : Option Addr) (cap : Nat) (w : World), Calls P f #[.slice p 0 cap] w fun e w' => e = .returned (.tuple #[]) ∧ w' = w)
  (xs : List (List UInt8)) (hlen : xs.length < 4611686018427387904) (go : Nat → List (List UInt8) → Option (List (List UInt8))) (n : Nat) : ((yct D f ty go).ent n).Flat P ((xs, ()) : HL D.T [.sl .str]) (.inl ((z1u xs, ()) : HL D.T [.sl .str])) := fun lv L E ρ0 vargs k1 k2 k3 k4 => by
 have k1 : ρ0.length = 1 := k1
 obtain ⟨sl, rfl⟩ := List.length_eq_one_iff.1 k1
 have k2 : VRL D [sl] lv [.own 0] vargs := k2
 simp only [VRL, VR] at k2
 obtain ⟨v, rr, rfl, ⟨sl', e1, e2, e3⟩, rfl⟩ := k2
 obtain rfl : sl = sl' := by simpa using e1
 subst e2
 obtain ⟨sl', e4, e5⟩ := k3 0 (.acc ty .str xs true) (List.mem_cons_self)
 obtain rfl : sl = sl' := by simpa using e4
 simp only [OR] at e5
 obtain ⟨o1, o2, o3⟩ := e5
 have o1 : sl.ws.length = xs.length := o1
 have o2 : ∀ (j : Nat) (x : List UInt8) (v : V), xs[j]? = some x → sl.ws[j]? = some v → DR D .str x v := o2
 have hws := ylo o1 o2
 have hsl : (z1u xs).length = xs.length := (zgw xs).length_eq
 have left : ∀ (L' : List (Option kz3)) (sl' : Slot), sl'.v = sl.v → sl'.k = sl.k → sl'.ws = (z1u xs).map V.str → (∀ i, (∀ j, sl.k = some j → j ≠ i) → L'[i]? = L[i]?) → L'.length = L.length →
   (match sl'.k with
   | none => (sl'.v = .nils ∧ sl'.ws = []) ∨ (sl'.v = .sl (D.len .str) sl'.ws true ∧ (True → sl'.ws = []))
   | some i => ∃ ver cp, sl'.v = .hs lv i ver 0 sl'.ws.length false ∧ L'[i]? = some (some (.arr ver ty (D.len .str) sl'.ws cp))) →
   Left D lv L [sl] 0 L' [sl'] [.acc ty .str true] ((z1u xs, ()) : HL D.T [.sl .str]) ∧ (∀ q ∈ [((0 : Nat), (0 : Nat))], ∀ s0, [sl][q.1]? = some s0 → ∃ s1, [sl'][q.2]? = some s1 ∧ s1.v = s0.v) := fun L' sl' a1 a2 a3 a4 a5 a6 => by
  refine ⟨⟨rfl, fun j o hm => ?_, fun s s' t t' i r1 r2 _ _ => ?_, fun s t i r1 c1 => ?_, fun i hi hno => ?_, fun j t hj => absurd hj (Nat.not_lt_zero _)⟩, fun q hq s0 hs0 => ?_⟩
  ·have hm : (j, o) ∈ [(0, (TO.acc ty .str (z1u xs) true : TO D.T))] := hm
   simp only [List.mem_singleton, Prod.mk.injEq] at hm
   obtain ⟨rfl, rfl⟩ := hm
   refine ⟨sl', rfl, ?_⟩
   simp only [OR]
   refine ⟨by rw [a3]; exact List.length_map _, fun j y v hy hv => ?_, a6⟩
   have hy : (z1u xs)[j]? = some y := hy
   rw [a3, List.getElem?_map, hy] at hv
   injection hv with hv
   subst hv
   exact .str _
  ·have l1 := (List.getElem?_eq_some_iff.1 r1).1
   have l2 := (List.getElem?_eq_some_iff.1 r2).1
   simp at l1 l2; omega
  ·have l1 := (List.getElem?_eq_some_iff.1 r1).1
   have : s = 0 := by simp at l1; omega
   subst this
   obtain rfl : sl' = t := by simpa using r1
   exact .inr ⟨0, sl, rfl, by rw [← a2]; exact c1⟩
  ·refine ⟨by rw [a5]; exact hi, a4 i fun j hj hji => hno 0 sl rfl (by rw [hj, hji])⟩
  ·simp only [List.mem_singleton] at hq
   subst hq
   obtain rfl : sl = s0 := by simpa using hs0
   exact ⟨sl', rfl, a1⟩
 have nothing : xs = [] → (∀ W g cargs, zdm W g ⟨lv, L, E⟩ [sl.v] cargs → ∃ p cap, cargs = #[.slice p 0 cap]) → zeq P f [sl.v] ⟨lv, L, E⟩ fun out H' => ∃ L' ρ', H' = ⟨lv, L', E⟩ ∧ (Left D lv L [sl] 0 L' ρ' [.acc ty .str true] ((z1u xs, ()) : HL D.T [.sl .str]) ∧ (∀ q ∈ [((0 : Nat), (0 : Nat))], ∀ s0, [sl][q.1]? = some s0 → ∃ s1, ρ'[q.2]? = some s1 ∧ s1.v = s0.v) ∧ ∃ vs, out = .ret (z5b vs) ∧ VRL D ρ' lv [] vs) := fun hx hc W g cargs hG hR => by
  obtain ⟨p, cap, rfl⟩ := hc W g cargs hR
  refine ⟨hent _ _, (hnone p cap W).mono ?_⟩
  rintro e W' ⟨rfl, rfl⟩
  have hs : z1u xs = [] := List.eq_nil_of_length_eq_zero (by rw [hsl, hx]; rfl)
  obtain ⟨l1, l2⟩ := left L sl rfl rfl (by rw [hs, hws, hx]) (fun _ _ => rfl) rfl o3
  exact ⟨.ret (.tup []), ⟨lv, L, E⟩, g, ⟨L, [sl], rfl, l1, l2, [], rfl, (by simp only [VRL] : VRL D [sl] lv [] [])⟩, .refl _ _ _, hG, _, rfl, .tup [] #[] rfl (by simp)⟩
 have one : ∀ {W : World} {g : Gh} {cargs : Array Value}, zdm W g ⟨lv, L, E⟩ [sl.v] cargs → ∃ c, cargs = #[c] ∧ Rel W g ⟨lv, L, E⟩ sl.v c := fun {W g cargs} hR => by
  obtain ⟨h1, h2⟩ := hR
  have hsz : cargs.toList.length = 1 := by simpa using h1
  obtain ⟨c, hc⟩ := List.length_eq_one_iff.1 hsz
  have hc' : cargs = #[c] := by rw [← Array.toList_inj, hc]
  subst hc'
  exact ⟨c, rfl, by simpa using h2 0 _ rfl⟩
 cases hk : sl.k with
 | none =>
   rw [hk] at o3
   rcases o3 with ⟨v1, v2⟩ | ⟨v1, v2⟩
   · refine nothing (by rw [hws] at v2; simpa using v2) fun W g cargs hR => ?_
     obtain ⟨c, rfl, hc⟩ := one hR
     rw [v1] at hc
     cases hc
     exact ⟨_, _, rfl⟩
   · have v3 := v2 trivial
     refine nothing (by rw [hws] at v3; simpa using v3) fun W g cargs hR => ?_
     obtain ⟨c, rfl, hc⟩ := one hR
     rw [v1, v3] at hc
     cases hc with
     | slnil => exact ⟨_, _, rfl⟩
     | sle _ _ a cap hf => exact ⟨_, _, rfl⟩
     | sl _ _ _ b o cap c => exact ⟨_, _, rfl⟩
 | some i =>
   rw [hk] at o3
   obtain ⟨ver, cp, v1, v2⟩ := o3
   have hi := (List.getElem?_eq_some_iff.1 v2).1
   rw [hws] at v2
   have hh := yl8 (P := P) (f := f) (ty := ty) hent hcon (lv := lv) (E := E) (n := sl.ws.length) v2 hlen (by rw [hws]; simp)
   rw [← v1] at hh
   refine hh.mono fun o H' ⟨e1, e2⟩ => ?_
   subst e1; subst e2
   obtain ⟨l1, l2⟩ := left (L.set i (some (.arr ver ty 1 ((z1u xs).map V.str) cp))) ⟨sl.v, sl.k, (z1u xs).map V.str⟩ rfl rfl rfl (fun j hj => List.getElem?_set_ne (hj i hk)) (by simp) (by
     simp only [hk]
     exact ⟨ver, cp, by rw [v1, hws]; simp [hsl], by simp [hi, Dat.len]⟩)
   exact ⟨_, [⟨sl.v, sl.k, (z1u xs).map V.str⟩], rfl, l1, l2, [], rfl, (by simp only [VRL] : VRL D [⟨sl.v, sl.k, (z1u xs).map V.str⟩] lv [] [])⟩
theorem ylp {P : Program} {D : Dat} {f ty : Nat} (hent : ∀ args W, (callFunc f args).run P W = .ok (.enter f args) W)
  (hcon : ∀ (blk cap : Nat) (ss : List (List UInt8)) (w : World), Holds encStr w blk 0 ss.toArray → blk < w.heap.size → ss.length < 4611686018427387904 →
   Calls P f #[.slice (some ⟨blk, 0, none⟩) ss.length cap] w fun e w' => e = .returned (.tuple #[]) ∧ ∃ n os, w' = grow (putRow encStr (Sort.ahead w n) blk 0 (ss.mergeSort fun x y => decide (x ≤ y)).toArray) os)
  (hnone : ∀ (p : Option Addr) (cap : Nat) (w : World), Calls P f #[.slice p 0 cap] w fun e w' => e = .returned (.tuple #[]) ∧ w' = w) :
  FOk P (yct D f ty fun _ xs => if xs.length < 4611686018427387904 then some (z1u xs) else none) := fun n R x k kp r h => by
 have h : ((if x.1.length < 4611686018427387904 then some (z1u x.1) else none).bind fun r => k (r, ())) = some r := h
 obtain ⟨r0, h1, h2⟩ := zid h
 split at h1
 ·rename_i hlen
  injection h1 with h1
  subst h1
  exact .inl ⟨(z1u x.1, ()), h2, yha hent hcon hnone x.1 hlen _ n⟩
 ·cases h1
end Go.Ab


namespace Go.Ab
open Go
set_option linter.unusedVariables false
set_option linter.unusedSimpArgs false
theorem zjc : ∀ a : List UInt8, Op.bytesLess a a = false
 | [] => rfl
 | x :: a => by simp [Op.bytesLess, zjc a]
theorem zn5 : ∀ {a b c : List UInt8}, Op.bytesLess a b = true → Op.bytesLess b c = true → Op.bytesLess a c = true
 | _, [], _, h, _ => by simp [Op.bytesLess] at h
 | _, _ :: _, [], _, h => by simp [Op.bytesLess] at h
 | [], _ :: _, _ :: _, _, _ => by simp [Op.bytesLess]
 | x :: a, y :: b, z :: c, h1, h2 => by
   simp only [Op.bytesLess, Bool.or_eq_true, decide_eq_true_eq, Bool.and_eq_true, beq_iff_eq] at h1 h2 ⊢
   rcases h1 with h1 | ⟨rfl, h1⟩
   · rcases h2 with h2 | ⟨rfl, h2⟩
     · exact .inl (by rw [UInt8.lt_iff_toNat_lt] at *; omega)
     · exact .inl h1
   · rcases h2 with h2 | ⟨rfl, h2⟩
     · exact .inl h2
     · exact .inr ⟨rfl, zn5 h1 h2⟩
theorem zmv : ∀ {a b : List UInt8}, Op.bytesLess a b = false → Op.bytesLess b a = false → a = b
 | [], [], _, _ => rfl
 | [], _ :: _, h, _ => by simp [Op.bytesLess] at h
 | _ :: _, [], _, h => by simp [Op.bytesLess] at h
 | x :: a, y :: b, h1, h2 => by
   simp only [Op.bytesLess, Bool.or_eq_false_iff, decide_eq_false_iff_not, Bool.and_eq_false_iff, beq_eq_false_iff_ne] at h1 h2
   have hxy : x = y := UInt8.toNat_inj.1 (by have := h1.1; have := h2.1; simp only [UInt8.lt_iff_toNat_lt] at *; omega)
   subst hxy
   have e1 : Op.bytesLess a b = false := by rcases h1.2 with h | h; exact absurd rfl h; exact h
   have e2 : Op.bytesLess b a = false := by rcases h2.2 with h | h; exact absurd rfl h; exact h
   rw [zmv e1 e2]
theorem y9k {a b : List UInt8} (h : Op.bytesLess a b = true) : Op.bytesLess b a = false := by
 cases h2 : Op.bytesLess b a
 ·rfl
 ·have := zn5 h h2; rw [zjc] at this; cases this
theorem ygs {a b c : List UInt8} (h1 : Op.bytesLess a b = false) (h2 : Op.bytesLess b c = false) : Op.bytesLess a c = false := by
 cases h : Op.bytesLess a c
 ·rfl
 ·cases h3 : Op.bytesLess b a
  ·rw [zmv h1 h3] at h; rw [h] at h2; cases h2
  ·rw [zn5 h3 h] at h2; cases h2
theorem yg3 (x y : List UInt8) : decide (x ≤ y) = !Op.bytesLess y x := by
 rw [Go.Proofs.bytesLess_eq]
 by_cases h : y < x
 ·have : ¬ x ≤ y := List.not_le.2 h
  simp [h, this]
 ·have : x ≤ y := List.not_lt.1 h
  simp [h, this]
def z9h (l : List (List UInt8)) : Prop := l.Pairwise fun x y => Op.bytesLess x y = true
theorem zkc : ∀ {l m : List (List UInt8)}, z9h l → z9h m → (∀ x, x ∈ l ↔ x ∈ m) → l = m
 | [], [], _, _, _ => rfl
 | [], y :: m, _, _, h => by have := (h y).2 List.mem_cons_self; cases this
 | x :: l, [], _, _, h => by have := (h x).1 List.mem_cons_self; cases this
 | x :: l, y :: m, h1, h2, h => by
   have a1 := List.pairwise_cons.1 h1
   have a2 := List.pairwise_cons.1 h2
   have hxy : x = y := by
     rcases List.mem_cons.1 ((h x).1 List.mem_cons_self) with e | e
     · exact e
     · rcases List.mem_cons.1 ((h y).2 List.mem_cons_self) with e' | e'
       · exact e'.symm
       · have b1 := a2.1 x e; have b2 := a1.1 y e'
         rw [y9k b1] at b2; cases b2
   subst hxy
   refine congrArg (x :: ·) (zkc a1.2 a2.2 fun z => ⟨fun hz => ?_, fun hz => ?_⟩)
   · rcases List.mem_cons.1 ((h z).1 (List.mem_cons_of_mem _ hz)) with e | e
     · subst e; have := a1.1 z hz; rw [zjc] at this; cases this
     · exact e
   · rcases List.mem_cons.1 ((h z).2 (List.mem_cons_of_mem _ hz)) with e | e
     · subst e; have := a2.1 z hz; rw [zjc] at this; cases this
     · exact e
theorem y5a {l : List (List UInt8)} (h : l.Nodup) : z9h (z1u l) := by
 have hp : (z1u l).Pairwise fun x y => decide (x ≤ y) = true := List.pairwise_mergeSort (fun a b c h1 h2 => by
  rw [yg3, Bool.not_eq_true'] at *
  exact ygs h2 h1) (fun a b => by
  rw [yg3, yg3]
  cases h : Op.bytesLess b a
  ·rfl
  ·rw [y9k h]; rfl) l
 have hn : (z1u l).Nodup := (zgw l).nodup_iff.2 h
 unfold z9h
 refine List.Pairwise.imp₂ (R := fun x y => decide (x ≤ y) = true) (S := (· ≠ ·)) (fun x y h1 h2 => ?_) hp hn
 rw [yg3, Bool.not_eq_true'] at h1
 cases h3 : Op.bytesLess x y
 ·exact (h2 (zmv h3 h1)).elim
 ·rfl
def ins : List (List UInt8) → List UInt8 → List (List UInt8)
 | [], s => [s]
 | x :: l, s => if Op.bytesLess x s then x :: ins l s else if x = s then x :: l else s :: x :: l
theorem zrr (s : List UInt8) : ∀ (l : List (List UInt8)) (z : List UInt8), z ∈ ins l s ↔ z ∈ l ∨ z = s
 | [], z => by simp [ins]
 | x :: l, z => by
   rw [ins]
   split
   · rw [List.mem_cons, List.mem_cons, zrr s l z, or_assoc]
   · split
     · rename_i h; subst h
       constructor
       · exact .inl
       · rintro (h | rfl)
         · exact h
         · exact List.mem_cons_self
     · rw [List.mem_cons, or_comm]
theorem zlc {s : List UInt8} : ∀ {l : List (List UInt8)}, z9h l → z9h (ins l s)
 | [], _ => by simp [ins, z9h]
 | x :: l, h => by
   have a := List.pairwise_cons.1 h
   rw [ins]
   split
   · rename_i hx
     refine List.pairwise_cons.2 ⟨fun z hz => ?_, zlc a.2⟩
     rcases (zrr s l z).1 hz with hz | rfl
     · exact a.1 z hz
     · exact hx
   · split
     · exact h
     · rename_i h1 h2
       have h1 : Op.bytesLess x s = false := by simpa using h1
       have hs : Op.bytesLess s x = true := by
         cases h3 : Op.bytesLess s x
         · exact (h2 (zmv h1 h3)).elim
         · rfl
       refine List.pairwise_cons.2 ⟨fun z hz => ?_, h⟩
       rcases List.mem_cons.1 hz with rfl | hz
       · exact hs
       · exact zn5 hs (a.1 z hz)
theorem zrq (s : List UInt8) : ∀ l : List (List UInt8), (ins l s).length ≤ l.length + 1
 | [] => by simp [ins]
 | x :: l => by
   have := zrq s l
   rw [ins]; split
   · simp; omega
   · split <;> simp
end Go.Ab

