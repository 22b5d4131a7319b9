/-
  slices.Sort OF STRINGS ON A SLICE OF OURS, out of a zx7 of the kit's kind.
-/
import Derived.Test.YtflgdagdibabiaaGreatLib6
import Derived.Shelf.Sort.Plain
import Derived.Lib.SlicesCompact
import Derived.Sort.Walk0
namespace Go.Ab
open Go Go.RowKit Go.Sort Go.Proofs
set_option linter.unusedVariables false
set_option linter.unusedSimpArgs false
def z2f (ss : List (List UInt8)) : List (List UInt8) := ss.mergeSort fun x y => decide (x ≤ y)
theorem zdt (ss : List (List UInt8)) : (z2f ss).Perm ss := List.mergeSort_perm _ _
theorem yrz {P : Program} {f ty : Nat} (hent : ∀ args W, (callFunc f args).run P W = .ok (.enter f args) W)
  (hcon : ∀ (blk cap : Nat) (ss : List (List UInt8)) (w : World), Holds encStr w blk 0 ss.toArray → blk < w.heap.size → ss.length < 4611686018427387904 →
   Calls P f #[.slice (some ⟨blk, 0, none⟩) ss.length cap] w fun e w' => e = .returned (.tuple #[]) ∧ ∃ n os, w' = grow (putRow encStr (Sort.ahead w n) blk 0 (ss.mergeSort fun x y => decide (x ≤ y)).toArray) os)
  {lv k ver n : Nat} {L : List (Option zz7)} {E : Nat → Nat → Option zz7} {xs : List (List UInt8)} {cp : Option Nat} (hL : L[k]? = some (some (.arr ver ty 1 (xs.map V.str) cp))) (hlen : xs.length < 4611686018427387904) (hn : n = xs.length) :
  zxc P f [.hs lv k ver 0 n false] ⟨lv, L, E⟩ fun o H' => o = .ret (.tup []) ∧ H' = ⟨lv, L.set k (some (.arr ver ty 1 ((z2f xs).map V.str) cp)), E⟩ := by
 intro W g cargs hG hR
 have hg : (⟨lv, L, E⟩ : yz3).get lv k = some (.arr ver ty 1 (xs.map V.str) cp) := by simp [yz3.get, hL]
 obtain ⟨x, rfl, h0⟩ : ∃ x, cargs = #[x] ∧ Rel W g ⟨lv, L, E⟩ (.hs lv k ver 0 n false) x := by
  obtain ⟨h1, h2⟩ := hR
  have hsz : cargs.toList.length = 1 := by simpa using h1
  obtain ⟨c, hc⟩ := List.length_eq_one_iff.1 hsz
  have hc' : cargs = #[c] := by rw [← Array.toList_inj, hc]
  subst hc'
  exact ⟨c, rfl, by simpa using h2 0 _ rfl⟩
 refine ⟨hent _ _, ?_⟩
 cases h0 with
 | hs _ _ _ _ _ _ a m cap hd hv ha =>
   obtain ⟨rfl, rfl, ⟨a1, a2, _⟩, a3⟩ := ha _ _ _ _ hg
   obtain ⟨cur, k1, k2, k3, k3', k4, k5, k6, k7, k8⟩ := hG.obj _ _ _ hg
   rw [List.length_map] at k4
   have hH : Holds encStr W (g.ab lv k) 0 xs.toArray := fun j hj => by
     have hj' : j < xs.length := by simpa using hj
     have e1 : (xs.map V.str)[j]? = some (.str xs[j]) := by rw [List.getElem?_map, List.getElem?_eq_getElem hj']; rfl
     have e2 := k8 j _ 0 (.str xs[j]) e1 rfl
     have hlt : j < cur.size := by rw [k3]; omega
     refine ⟨?_, by simp [World.frozen?, k1]⟩
     rw [getElem!_pos xs.toArray j hj]
     cases e2h : cur.getD (j * 1 + 0) undef with
     | string s =>
       rw [e2h] at e2
       cases e2
       rw [Array.getD_eq_getD_getElem?] at e2h
       rw [show j * 1 + 0 = j by omega, Array.getElem?_eq_getElem hlt] at e2h
       simp only [Option.getD_some] at e2h
       simp [World.cell?, k1, hlt, e2h, encStr]
     | _ => rw [e2h] at e2; cases e2
   have hb : g.ab lv k < W.heap.size := (Array.getElem?_eq_some_iff.1 k1).1
   have hc := hcon (g.ab lv k) cap xs W hH hb hlen
   have hsp := zdt xs
   have hsl : (z2f xs).length = xs.length := hsp.length_eq
   subst hn
   refine hc.mono ?_
   rintro e W' ⟨rfl, nn, os, rfl⟩
   have hheap : (grow (putRow encStr (Sort.ahead W nn) (g.ab lv k) 0 (z2f xs).toArray) os).heap = W.heap.modify (g.ab lv k) (onCells (Go.Sort.putCells encStr 0 (z2f xs).toArray)) ++ os := rfl
   have hW' : (grow (putRow encStr (Sort.ahead W nn) (g.ab lv k) 0 (z2f xs).toArray) os).heap[g.ab lv k]? = some (.cells (Go.Sort.putCells encStr 0 (z2f xs).toArray cur) ty (0, 0)) := by
     rw [hheap, Array.getElem?_append_left (by simpa using hb), Array.getElem?_modify, if_pos rfl, k1]; rfl
   have hcur : ∀ j (hj : j < (z2f xs).length), (Go.Sort.putCells encStr 0 (z2f xs).toArray cur).getD (j * 1 + 0) undef = .string ⟨((z2f xs)[j]).toArray⟩ := fun j hj => by
     have hlt2 : j * 1 + 0 < cur.size := by rw [k3]; omega
     rw [Array.getD_eq_getD_getElem?, Go.Sort.putCells, Array.getElem?_mapIdx, Array.getElem?_eq_getElem hlt2]
     simp only [Option.map_some, Option.getD_some, Nat.sub_zero]
     rw [if_pos ⟨Nat.zero_le _, by simp; omega⟩, getElem!_pos (z2f xs).toArray _ (by simp; omega)]
     simp [encStr]
   have hys : ∀ (j : Nat) (x : V), ((z2f xs).map V.str)[j]? = some x → ∃ hj : j < (z2f xs).length, x = .str (z2f xs)[j] := fun j x hj => by
     rw [List.getElem?_map, Option.map_eq_some_iff] at hj
     obtain ⟨y, hy, rfl⟩ := hj
     obtain ⟨h1, h2⟩ := List.getElem?_eq_some_iff.1 hy
     exact ⟨h1, by rw [h2]⟩
   obtain ⟨q1, q2⟩ := zgn (W' := grow (putRow encStr (Sort.ahead W nn) (g.ab lv k) 0 (z2f xs).toArray) os) hG (o' := .arr ver ty 1 ((z2f xs).map V.str) cp) hg rfl rfl rfl rfl (by rw [hheap]; simp) (fun b hb1 hb2 => by
       rw [hheap, Array.getElem?_append_left (by simpa using hb1), Array.getElem?_modify, if_neg (fun h => hb2 h.symm)])
     (fun ver ty sz zs cp' he => by injection he with e1 e2 e3 e4 e5; subst e1; subst e2; subst e3; subst e4; exact ⟨_, _, _, rfl, Nat.le_refl _, fun _ => by simp [hsl]⟩) (fun hst => by
     refine ⟨_, hW', by decide, by rw [Go.Sort.putCells, Array.size_mapIdx]; exact k3, k3', by rw [List.length_map, hsl]; exact k4, k5, fun j x hj => ?_, fun j x t v hj htv => ?_, fun j x t v hj htv => ?_⟩
     · obtain ⟨_, rfl⟩ := hys j x hj; rfl
     · obtain ⟨hj', rfl⟩ := hys j x hj
       have ht : t = 0 := by
         cases t with
         | zero => rfl
         | succ t => simp [V.cells] at htv
       subst ht
       rw [hcur j hj']; rfl
     · obtain ⟨hj', rfl⟩ := hys j x hj
       have ht : t = 0 := by
         cases t with
         | zero => rfl
         | succ t => simp [V.cells] at htv
       subst ht
       simp [V.cells] at htv
       subst htv
       rw [hcur j hj']
       exact .str _)
   refine ⟨.ret (.tup []), _, g, ⟨rfl, rfl⟩, ?_, ?_, _, rfl, .tup [] #[] rfl (by simp)⟩
   · have := q1; simp only [yz3.set, if_pos] at this; exact this
   · have := q2; simp only [yz3.set, if_pos] at this; exact this
def ym2 (D : Dat) (f ty : Nat) (go : Nat → List (List UInt8) → Option (List (List UInt8))) : FI D :=
 { R := List (List UInt8), ent := fun n => { f := f, p := 0, args := [.own 0], aos := [.acc ty .str true], outs := [], ros := [.acc ty .str true], pan := .nilp, pos := [.acc ty .str true], pure := false, go := fun x k _ => (go n x.1).bind fun r => k (r, ()), ren := [(0, 0)] },
   c := .skip, K := ⟨fun _ => none, [], fun _ => none, fun _ _ => none⟩, p := 0, args := [], aos := [], nt := 0, zjm := fun _ => [], go := fun _ _ => none }
theorem yom {D : Dat} {xs : List (List UInt8)} {ws : List V} (hl : ws.length = xs.length) (h : ∀ (j : Nat) (x : List UInt8) (v : V), xs[j]? = some x → ws[j]? = some v → DR D .str x v) : ws = xs.map V.str := by
 refine List.ext_getElem? fun j => ?_
 rw [List.getElem?_map]
 cases hx : xs[j]? with
 | none =>
   rw [List.getElem?_eq_none_iff] at hx
   simp only [Option.map_none]
   rw [List.getElem?_eq_none_iff]; omega
 | some x =>
   have hlt := (List.getElem?_eq_some_iff.1 hx).1
   have hw : ws[j]? = some ws[j] := List.getElem?_eq_getElem (by omega)
   have := h j x _ hx hw
   rw [hw]
   cases hv : ws[j] with
   | str s => rw [hv] at this; cases this; rfl
   | _ => rw [hv] at this; cases this
theorem yp2 {P : Program} {D : Dat} {f ty : Nat} (hent : ∀ args W, (callFunc f args).run P W = .ok (.enter f args) W)
  (hcon : ∀ (blk cap : Nat) (ss : List (List UInt8)) (w : World), Holds encStr w blk 0 ss.toArray → blk < w.heap.size → ss.length < 4611686018427387904 →
   Calls P f #[.slice (some ⟨blk, 0, none⟩) ss.length cap] w fun e w' => e = .returned (.tuple #[]) ∧ ∃ n os, w' = grow (putRow encStr (Sort.ahead w n) blk 0 (ss.mergeSort fun x y => decide (x ≤ y)).toArray) os)
  (hnone : ∀ (p : Option Addr) (cap : Nat) (w : World), Calls P f #[.slice p 0 cap] w fun e w' => e = .returned (.tuple #[]) ∧ w' = w)
  (xs : List (List UInt8)) (hlen : xs.length < 4611686018427387904) (go : Nat → List (List UInt8) → Option (List (List UInt8))) (n : Nat) : ((ym2 D f ty go).ent n).Flat P ((xs, ()) : HL D.T [.sl .str]) (.inl ((z2f xs, ()) : HL D.T [.sl .str])) := fun lv L E ρ0 vargs k1 k2 k3 k4 => by
 have k1 : ρ0.length = 1 := k1
 obtain ⟨sl, rfl⟩ := List.length_eq_one_iff.1 k1
 have k2 : VRL D [sl] lv [.own 0] vargs := k2
 simp only [VRL, VR] at k2
 obtain ⟨v, rr, rfl, ⟨sl', e1, e2, e3⟩, rfl⟩ := k2
 obtain rfl : sl = sl' := by simpa using e1
 subst e2
 obtain ⟨sl', e4, e5⟩ := k3 0 (.acc ty .str xs true) (List.mem_cons_self)
 obtain rfl : sl = sl' := by simpa using e4
 simp only [OR] at e5
 obtain ⟨o1, o2, o3⟩ := e5
 have o1 : sl.ws.length = xs.length := o1
 have o2 : ∀ (j : Nat) (x : List UInt8) (v : V), xs[j]? = some x → sl.ws[j]? = some v → DR D .str x v := o2
 have hws := yom o1 o2
 have hsl : (z2f xs).length = xs.length := (zdt xs).length_eq
 have left : ∀ (L' : List (Option zz7)) (sl' : Slot), sl'.v = sl.v → sl'.k = sl.k → sl'.ws = (z2f xs).map V.str → (∀ i, (∀ j, sl.k = some j → j ≠ i) → L'[i]? = L[i]?) → L'.length = L.length →
   (match sl'.k with
   | none => (sl'.v = .nils ∧ sl'.ws = []) ∨ ((sl'.v = .sl (D.len .str) sl'.ws true ∧ DTy.str ≠ .int .u8) ∧ (True → sl'.ws = []))
   | some i => ∃ ver cp, sl'.v = .hs lv i ver 0 sl'.ws.length false ∧ L'[i]? = some (some (.arr ver ty (D.len .str) sl'.ws cp))) →
   Left D lv L [sl] 0 L' [sl'] [.acc ty .str true] ((z2f xs, ()) : HL D.T [.sl .str]) ∧ (∀ q ∈ [((0 : Nat), (0 : Nat))], ∀ s0, [sl][q.1]? = some s0 → ∃ s1, [sl'][q.2]? = some s1 ∧ s1.v = s0.v) := fun L' sl' a1 a2 a3 a4 a5 a6 => by
  refine ⟨⟨rfl, fun j o hm => ?_, fun s s' t t' i r1 r2 _ _ => ?_, fun s t i r1 c1 => ?_, fun i hi hno => ?_, fun j t hj => absurd hj (Nat.not_lt_zero _)⟩, fun q hq s0 hs0 => ?_⟩
  ·have hm : (j, o) ∈ [(0, (TO.acc ty .str (z2f xs) true : TO D.T))] := hm
   simp only [List.mem_singleton, Prod.mk.injEq] at hm
   obtain ⟨rfl, rfl⟩ := hm
   refine ⟨sl', rfl, ?_⟩
   simp only [OR]
   refine ⟨by rw [a3]; exact List.length_map _, fun j y v hy hv => ?_, a6⟩
   have hy : (z2f xs)[j]? = some y := hy
   rw [a3, List.getElem?_map, hy] at hv
   injection hv with hv
   subst hv
   exact .str _
  ·have l1 := (List.getElem?_eq_some_iff.1 r1).1
   have l2 := (List.getElem?_eq_some_iff.1 r2).1
   simp at l1 l2; omega
  ·have l1 := (List.getElem?_eq_some_iff.1 r1).1
   have : s = 0 := by simp at l1; omega
   subst this
   obtain rfl : sl' = t := by simpa using r1
   exact .inr ⟨0, sl, rfl, by rw [← a2]; exact c1⟩
  ·refine ⟨by rw [a5]; exact hi, a4 i fun j hj hji => hno 0 sl rfl (by rw [hj, hji])⟩
  ·simp only [List.mem_singleton] at hq
   subst hq
   obtain rfl : sl = s0 := by simpa using hs0
   exact ⟨sl', rfl, a1⟩
 have nothing : xs = [] → (∀ W g cargs, zpn W g ⟨lv, L, E⟩ [sl.v] cargs → ∃ p cap, cargs = #[.slice p 0 cap]) → zxc P f [sl.v] ⟨lv, L, E⟩ fun out H' => ∃ L' ρ', H' = ⟨lv, L', E⟩ ∧ (Left D lv L [sl] 0 L' ρ' [.acc ty .str true] ((z2f xs, ()) : HL D.T [.sl .str]) ∧ (∀ q ∈ [((0 : Nat), (0 : Nat))], ∀ s0, [sl][q.1]? = some s0 → ∃ s1, ρ'[q.2]? = some s1 ∧ s1.v = s0.v) ∧ ∃ vs, out = .ret (zhx vs) ∧ VRL D ρ' lv [] vs) := fun hx hc W g cargs hG hR => by
  obtain ⟨p, cap, rfl⟩ := hc W g cargs hR
  refine ⟨hent _ _, (hnone p cap W).mono ?_⟩
  rintro e W' ⟨rfl, rfl⟩
  have hs : z2f xs = [] := List.eq_nil_of_length_eq_zero (by rw [hsl, hx]; rfl)
  obtain ⟨l1, l2⟩ := left L sl rfl rfl (by rw [hs, hws, hx]) (fun _ _ => rfl) rfl o3
  exact ⟨.ret (.tup []), ⟨lv, L, E⟩, g, ⟨L, [sl], rfl, l1, l2, [], rfl, (by simp only [VRL] : VRL D [sl] lv [] [])⟩, .refl _ _ _, hG, _, rfl, .tup [] #[] rfl (by simp)⟩
 have one : ∀ {W : World} {g : Gh} {cargs : Array Value}, zpn W g ⟨lv, L, E⟩ [sl.v] cargs → ∃ c, cargs = #[c] ∧ Rel W g ⟨lv, L, E⟩ sl.v c := fun {W g cargs} hR => by
  obtain ⟨h1, h2⟩ := hR
  have hsz : cargs.toList.length = 1 := by simpa using h1
  obtain ⟨c, hc⟩ := List.length_eq_one_iff.1 hsz
  have hc' : cargs = #[c] := by rw [← Array.toList_inj, hc]
  subst hc'
  exact ⟨c, rfl, by simpa using h2 0 _ rfl⟩
 cases hk : sl.k with
 | none =>
   rw [hk] at o3
   rcases o3 with ⟨v1, v2⟩ | ⟨v1, v2⟩
   · refine nothing (by rw [hws] at v2; simpa using v2) fun W g cargs hR => ?_
     obtain ⟨c, rfl, hc⟩ := one hR
     rw [v1] at hc
     cases hc
     exact ⟨_, _, rfl⟩
   · have v3 := v2 trivial
     refine nothing (by rw [hws] at v3; simpa using v3) fun W g cargs hR => ?_
     obtain ⟨c, rfl, hc⟩ := one hR
     rw [v1.1, v3] at hc
     cases hc with
     | slnil => exact ⟨_, _, rfl⟩
     | sle _ _ a cap hf => exact ⟨_, _, rfl⟩
     | sl _ _ _ b o cap c => exact ⟨_, _, rfl⟩
 | some i =>
   rw [hk] at o3
   obtain ⟨ver, cp, v1, v2⟩ := o3
   have hi := (List.getElem?_eq_some_iff.1 v2).1
   rw [hws] at v2
   have hh := yrz (P := P) (f := f) (ty := ty) hent hcon (lv := lv) (E := E) (n := sl.ws.length) v2 hlen (by rw [hws]; simp)
   rw [← v1] at hh
   refine hh.mono fun o H' ⟨e1, e2⟩ => ?_
   subst e1; subst e2
   obtain ⟨l1, l2⟩ := left (L.set i (some (.arr ver ty 1 ((z2f xs).map V.str) cp))) ⟨sl.v, sl.k, (z2f xs).map V.str⟩ rfl rfl rfl (fun j hj => List.getElem?_set_ne (hj i hk)) (by simp) (by
     simp only [hk]
     exact ⟨ver, cp, by rw [v1, hws]; simp [hsl], by simp [hi, Dat.len]⟩)
   exact ⟨_, [⟨sl.v, sl.k, (z2f xs).map V.str⟩], rfl, l1, l2, [], rfl, (by simp only [VRL] : VRL D [⟨sl.v, sl.k, (z2f xs).map V.str⟩] lv [] [])⟩
theorem yto {P : Program} {D : Dat} {f ty : Nat} (hent : ∀ args W, (callFunc f args).run P W = .ok (.enter f args) W)
  (hcon : ∀ (blk cap : Nat) (ss : List (List UInt8)) (w : World), Holds encStr w blk 0 ss.toArray → blk < w.heap.size → ss.length < 4611686018427387904 →
   Calls P f #[.slice (some ⟨blk, 0, none⟩) ss.length cap] w fun e w' => e = .returned (.tuple #[]) ∧ ∃ n os, w' = grow (putRow encStr (Sort.ahead w n) blk 0 (ss.mergeSort fun x y => decide (x ≤ y)).toArray) os)
  (hnone : ∀ (p : Option Addr) (cap : Nat) (w : World), Calls P f #[.slice p 0 cap] w fun e w' => e = .returned (.tuple #[]) ∧ w' = w) :
  FOk P (ym2 D f ty fun _ xs => if xs.length < 4611686018427387904 then some (z2f xs) else none) := fun n R x k kp r h => by
 have h : ((if x.1.length < 4611686018427387904 then some (z2f x.1) else none).bind fun r => k (r, ())) = some r := h
 obtain ⟨r0, h1, h2⟩ := y54 h
 split at h1
 ·rename_i hlen
  injection h1 with h1
  subst h1
  exact .inl ⟨(z2f x.1, ()), h2, yp2 hent hcon hnone x.1 hlen _ n⟩
 ·cases h1
end Go.Ab


namespace Go.Ab
open Go Go.RowKit Go.Sort Go.Proofs
set_option linter.unusedVariables false
set_option linter.unusedSimpArgs false
theorem y0g (xs : List (List UInt8)) : (Lib.compact xs).length ≤ xs.length := by
 unfold Lib.compact Lib.compactUpTo
 rw [List.length_map]
 exact Nat.le_trans (List.length_filter_le _ _) (by simp)
theorem yz3.ykc {lv k : Nat} {L : List (Option zz7)} {E : Nat → Nat → Option zz7} {o o' : zz7} (h : L[k]? = some (some o)) : yz3.get ⟨lv, L.set k (some o'), E⟩ lv k = some o' := by
 have := (List.getElem?_eq_some_iff.1 h).1
 simp [yz3.get, this]
theorem yje {P : Program} {f ty : Nat} (hent : ∀ args W, (callFunc f args).run P W = .ok (.enter f args) W)
  (hcon : ∀ (blk cap : Nat) (zs : List (List UInt8)) (w : World), Holds encStr w blk 0 zs.toArray → zs.length ≤ 9223372036854775807 → zs.length ≤ cap →
   Calls P f #[.slice (some ⟨blk, 0, none⟩) zs.length cap] w fun e w' => e = .returned (.slice (some ⟨blk, 0, none⟩) (Lib.compact zs).length cap) ∧ ∃ q, w' = putRow encStr (Sort.ahead w q) blk 0 (Lib.compact zs ++ List.replicate (zs.length - (Lib.compact zs).length) []).toArray)
  {lv k ver n : Nat} {L : List (Option zz7)} {E : Nat → Nat → Option zz7} {xs : List (List UInt8)} {cp : Option Nat} (hL : L[k]? = some (some (.arr ver ty 1 (xs.map V.str) cp))) (hlen : xs.length ≤ 9223372036854775807) (hn : n = xs.length) :
  zxc P f [.hs lv k ver 0 n false] ⟨lv, L, E⟩ fun o H' => o = .ret (.hs lv k (ver + 1) 0 (Lib.compact xs).length false) ∧ H' = ⟨lv, L.set k (some (.arr (ver + 1) ty 1 ((Lib.compact xs).map V.str) cp)), E⟩ := by
 intro W g cargs hG hR
 have hg : (⟨lv, L, E⟩ : yz3).get lv k = some (.arr ver ty 1 (xs.map V.str) cp) := by simp [yz3.get, hL]
 obtain ⟨x, rfl, h0⟩ : ∃ x, cargs = #[x] ∧ Rel W g ⟨lv, L, E⟩ (.hs lv k ver 0 n false) x := by
  obtain ⟨h1, h2⟩ := hR
  have hsz : cargs.toList.length = 1 := by simpa using h1
  obtain ⟨c, hc⟩ := List.length_eq_one_iff.1 hsz
  have hc' : cargs = #[c] := by rw [← Array.toList_inj, hc]
  subst hc'
  exact ⟨c, rfl, by simpa using h2 0 _ rfl⟩
 refine ⟨hent _ _, ?_⟩
 cases h0 with
 | hs _ _ _ _ _ _ a m cap hd hv ha =>
   obtain ⟨rfl, rfl, ⟨a1, a2, _⟩, a3⟩ := ha _ _ _ _ hg
   obtain ⟨cur, k1, k2, k3, k3', k4, k5, k6, k7, k8⟩ := hG.obj _ _ _ hg
   rw [List.length_map] at k4
   have hH : Holds encStr W (g.ab lv k) 0 xs.toArray := fun j hj => by
     have hj' : j < xs.length := by simpa using hj
     have e1 : (xs.map V.str)[j]? = some (.str xs[j]) := by rw [List.getElem?_map, List.getElem?_eq_getElem hj']; rfl
     have e2 := k8 j _ 0 (.str xs[j]) e1 rfl
     have hlt : j < cur.size := by rw [k3]; omega
     refine ⟨?_, by simp [World.frozen?, k1]⟩
     rw [getElem!_pos xs.toArray j hj]
     cases e2h : cur.getD (j * 1 + 0) undef with
     | string s =>
       rw [e2h] at e2
       cases e2
       rw [Array.getD_eq_getD_getElem?] at e2h
       rw [show j * 1 + 0 = j by omega, Array.getElem?_eq_getElem hlt] at e2h
       simp only [Option.getD_some] at e2h
       simp [World.cell?, k1, hlt, e2h, encStr]
     | _ => rw [e2h] at e2; cases e2
   have hb : g.ab lv k < W.heap.size := (Array.getElem?_eq_some_iff.1 k1).1
   have hcl := y0g xs
   have hc := hcon (g.ab lv k) cap xs W hH hlen (by omega)
   subst hn
   refine hc.mono ?_
   rintro e W' ⟨rfl, nn, rfl⟩
   generalize hrow : Lib.compact xs ++ List.replicate (xs.length - (Lib.compact xs).length) [] = row
   have hrl : row.length = xs.length := by rw [← hrow]; simp; omega
   have hheap : (putRow encStr (Sort.ahead W nn) (g.ab lv k) 0 row.toArray).heap = W.heap.modify (g.ab lv k) (onCells (Go.Sort.putCells encStr 0 row.toArray)) := rfl
   have hW' : (putRow encStr (Sort.ahead W nn) (g.ab lv k) 0 row.toArray).heap[g.ab lv k]? = some (.cells (Go.Sort.putCells encStr 0 row.toArray cur) ty (0, 0)) := by
     rw [hheap, Array.getElem?_modify, if_pos rfl, k1]; rfl
   have hcur : ∀ j (hj : j < (Lib.compact xs).length), (Go.Sort.putCells encStr 0 row.toArray cur).getD (j * 1 + 0) undef = .string ⟨((Lib.compact xs)[j]).toArray⟩ := fun j hj => by
     have hlt2 : j * 1 + 0 < cur.size := by rw [k3]; omega
     rw [Array.getD_eq_getD_getElem?, Go.Sort.putCells, Array.getElem?_mapIdx, Array.getElem?_eq_getElem hlt2]
     simp only [Option.map_some, Option.getD_some, Nat.sub_zero]
     rw [if_pos ⟨Nat.zero_le _, by simp; omega⟩, getElem!_pos row.toArray _ (by simp; omega)]
     simp [encStr, ← hrow, List.getElem_append_left hj]
   have hys : ∀ (j : Nat) (x : V), ((Lib.compact xs).map V.str)[j]? = some x → ∃ hj : j < (Lib.compact xs).length, x = .str (Lib.compact xs)[j] := fun j x hj => by
     rw [List.getElem?_map, Option.map_eq_some_iff] at hj
     obtain ⟨y, hy, rfl⟩ := hj
     obtain ⟨h1, h2⟩ := List.getElem?_eq_some_iff.1 hy
     exact ⟨h1, by rw [h2]⟩
   obtain ⟨q1, q2⟩ := zgn (W' := putRow encStr (Sort.ahead W nn) (g.ab lv k) 0 row.toArray) hG (o' := .arr (ver + 1) ty 1 ((Lib.compact xs).map V.str) cp) hg rfl rfl rfl rfl (by rw [hheap]; simp) (fun b hb1 hb2 => by
       rw [hheap, Array.getElem?_modify, if_neg (fun h => hb2 h.symm)])
     (fun ver' ty' sz' zs cp' he => by injection he with e1 e2 e3 e4 e5; subst e1; subst e2; subst e3; subst e4; exact ⟨_, _, _, rfl, Nat.le_succ _, fun h => by omega⟩) (fun hst => by
     refine ⟨_, hW', by decide, by rw [Go.Sort.putCells, Array.size_mapIdx]; exact k3, k3', by rw [List.length_map]; omega, k5, fun j x hj => ?_, fun j x t v hj htv => ?_, fun j x t v hj htv => ?_⟩
     · obtain ⟨_, rfl⟩ := hys j x hj; rfl
     · obtain ⟨hj', rfl⟩ := hys j x hj
       have ht : t = 0 := by
         cases t with
         | zero => rfl
         | succ t => simp [V.cells] at htv
       subst ht
       rw [hcur j hj']; rfl
     · obtain ⟨hj', rfl⟩ := hys j x hj
       have ht : t = 0 := by
         cases t with
         | zero => rfl
         | succ t => simp [V.cells] at htv
       subst ht
       simp [V.cells] at htv
       subst htv
       rw [hcur j hj']
       exact .str _)
   simp only [yz3.set, if_pos] at q1 q2
   refine ⟨.ret (.hs lv k (ver + 1) 0 (Lib.compact xs).length false), _, g, ⟨rfl, rfl⟩, q1, q2, _, rfl, .hs _ _ _ _ _ _ _ _ _ hd (fun v ty sz ys cp' hg' => ?_) fun ty sz ys cp' hg' => ?_⟩
   · rw [yz3.ykc hL] at hg'
     injection hg' with hg'; injection hg' with e1; omega
   · rw [yz3.ykc hL] at hg'
     injection hg' with hg'; injection hg' with e1 e2 e3 e4 e5
     subst e3; subst e4
     exact ⟨rfl, rfl, ⟨by omega, a2, fun h => by cases h⟩, by simp⟩
abbrev zqg (xs : List (List UInt8)) : List (List UInt8) := Lib.compact xs
def zyi (D : Dat) (f ty : Nat) (go : Nat → List (List UInt8) → Option (List (List UInt8))) : FI D :=
 { R := List (List UInt8), ent := fun n => { f := f, p := 0, args := [.own 0], aos := [.acc ty .str true], outs := [.own 0], ros := [.acc ty .str true], pan := .nilp, pos := [.acc ty .str true], pure := false, go := fun x k _ => (go n x.1).bind fun r => k (r, ()) },
   c := .skip, K := ⟨fun _ => none, [], fun _ => none, fun _ _ => none⟩, p := 0, args := [], aos := [], nt := 0, zjm := fun _ => [], go := fun _ _ => none }
theorem yia {P : Program} {D : Dat} {f ty : Nat} (hent : ∀ args W, (callFunc f args).run P W = .ok (.enter f args) W)
  (hcon : ∀ (blk cap : Nat) (zs : List (List UInt8)) (w : World), Holds encStr w blk 0 zs.toArray → zs.length ≤ 9223372036854775807 → zs.length ≤ cap →
   Calls P f #[.slice (some ⟨blk, 0, none⟩) zs.length cap] w fun e w' => e = .returned (.slice (some ⟨blk, 0, none⟩) (Lib.compact zs).length cap) ∧ ∃ q, w' = putRow encStr (Sort.ahead w q) blk 0 (Lib.compact zs ++ List.replicate (zs.length - (Lib.compact zs).length) []).toArray)
  (hnone : ∀ (p : Option Addr) (cap : Nat) (w : World), Calls P f #[.slice p 0 cap] w fun e w' => e = .returned (.slice p 0 cap) ∧ w' = w)
  (xs : List (List UInt8)) (hlen : xs.length ≤ 9223372036854775807) (go : Nat → List (List UInt8) → Option (List (List UInt8))) (n : Nat) : ((zyi D f ty go).ent n).Flat P ((xs, ()) : HL D.T [.sl .str]) (.inl ((zqg xs, ()) : HL D.T [.sl .str])) := fun lv L E ρ0 vargs k1 k2 k3 k4 => by
 have k1 : ρ0.length = 1 := k1
 obtain ⟨sl, rfl⟩ := List.length_eq_one_iff.1 k1
 have k2 : VRL D [sl] lv [.own 0] vargs := k2
 simp only [VRL, VR] at k2
 obtain ⟨v, rr, rfl, ⟨sl', e1, e2, e3⟩, rfl⟩ := k2
 obtain rfl : sl = sl' := by simpa using e1
 subst e2
 obtain ⟨sl', e4, e5⟩ := k3 0 (.acc ty .str xs true) (List.mem_cons_self)
 obtain rfl : sl = sl' := by simpa using e4
 simp only [OR] at e5
 obtain ⟨o1, o2, o3⟩ := e5
 have o1 : sl.ws.length = xs.length := o1
 have o2 : ∀ (j : Nat) (x : List UInt8) (v : V), xs[j]? = some x → sl.ws[j]? = some v → DR D .str x v := o2
 have hws := yom o1 o2
 have hsl := y0g xs
 have left : ∀ (L' : List (Option zz7)) (sl' : Slot), sl'.k = sl.k → sl'.ws = (zqg xs).map V.str → (∀ i, (∀ j, sl.k = some j → j ≠ i) → L'[i]? = L[i]?) → L'.length = L.length →
   (match sl'.k with
   | none => (sl'.v = .nils ∧ sl'.ws = []) ∨ ((sl'.v = .sl (D.len .str) sl'.ws true ∧ DTy.str ≠ .int .u8) ∧ (True → sl'.ws = []))
   | some i => ∃ ver cp, sl'.v = .hs lv i ver 0 sl'.ws.length false ∧ L'[i]? = some (some (.arr ver ty (D.len .str) sl'.ws cp))) →
   Left D lv L [sl] 0 L' [sl'] [.acc ty .str true] ((zqg xs, ()) : HL D.T [.sl .str]) := fun L' sl' a2 a3 a4 a5 a6 => by
  refine ⟨rfl, fun j o hm => ?_, fun s s' t t' i r1 r2 _ _ => ?_, fun s t i r1 c1 => ?_, fun i hi hno => ?_, fun j t hj => absurd hj (Nat.not_lt_zero _)⟩
  ·have hm : (j, o) ∈ [(0, (TO.acc ty .str (zqg xs) true : TO D.T))] := hm
   simp only [List.mem_singleton, Prod.mk.injEq] at hm
   obtain ⟨rfl, rfl⟩ := hm
   refine ⟨sl', rfl, ?_⟩
   simp only [OR]
   refine ⟨by rw [a3]; exact List.length_map _, fun j y v hy hv => ?_, a6⟩
   have hy : (zqg xs)[j]? = some y := hy
   rw [a3, List.getElem?_map, hy] at hv
   injection hv with hv
   subst hv
   exact .str _
  ·have l1 := (List.getElem?_eq_some_iff.1 r1).1
   have l2 := (List.getElem?_eq_some_iff.1 r2).1
   simp at l1 l2; omega
  ·have l1 := (List.getElem?_eq_some_iff.1 r1).1
   have : s = 0 := by simp at l1; omega
   subst this
   obtain rfl : sl' = t := by simpa using r1
   exact .inr ⟨0, sl, rfl, by rw [← a2]; exact c1⟩
  ·refine ⟨by rw [a5]; exact hi, a4 i fun j hj hji => hno 0 sl rfl (by rw [hj, hji])⟩
 have one : ∀ {W : World} {g : Gh} {cargs : Array Value}, zpn W g ⟨lv, L, E⟩ [sl.v] cargs → ∃ c, cargs = #[c] ∧ Rel W g ⟨lv, L, E⟩ sl.v c := fun {W g cargs} hR => by
  obtain ⟨h1, h2⟩ := hR
  have hsz : cargs.toList.length = 1 := by simpa using h1
  obtain ⟨c, hc⟩ := List.length_eq_one_iff.1 hsz
  have hc' : cargs = #[c] := by rw [← Array.toList_inj, hc]
  subst hc'
  exact ⟨c, rfl, by simpa using h2 0 _ rfl⟩
 have nothing : xs = [] → (∀ W g cargs, zpn W g ⟨lv, L, E⟩ [sl.v] cargs → ∃ p cap, cargs = #[.slice p 0 cap]) → zxc P f [sl.v] ⟨lv, L, E⟩ fun out H' => ∃ L' ρ', H' = ⟨lv, L', E⟩ ∧ (Left D lv L [sl] 0 L' ρ' [.acc ty .str true] ((zqg xs, ()) : HL D.T [.sl .str]) ∧ (∀ q ∈ ([] : List (Nat × Nat)), ∀ s0, [sl][q.1]? = some s0 → ∃ s1, ρ'[q.2]? = some s1 ∧ s1.v = s0.v) ∧ ∃ vs, out = .ret (zhx vs) ∧ VRL D ρ' lv [.own 0] vs) := fun hx hc W g cargs hG hR => by
  obtain ⟨p, cap, rfl⟩ := hc W g cargs hR
  obtain ⟨c, hc1, hc2⟩ := one hR
  refine ⟨hent _ _, (hnone p cap W).mono ?_⟩
  rintro e W' ⟨rfl, rfl⟩
  have hs : zqg xs = [] := List.eq_nil_of_length_eq_zero (by rw [hx] at hsl ⊢; simpa using hsl)
  have l1 := left L sl rfl (by rw [hs, hws, hx]) (fun _ _ => rfl) rfl o3
  refine ⟨.ret sl.v, ⟨lv, L, E⟩, g, ⟨L, [sl], rfl, l1, (fun q hq => by cases hq), [sl.v], rfl, ?_⟩, .refl _ _ _, hG, _, rfl, ?_⟩
  ·simp only [VRL, VR]
   exact ⟨sl.v, [], rfl, ⟨sl, rfl, rfl, e3⟩, rfl⟩
  ·have : (#[Value.slice p 0 cap] : Array Value) = #[c] := hc1
   rw [show Value.slice p 0 cap = c by simpa using this]
   exact hc2
 cases hk : sl.k with
 | none =>
   rw [hk] at o3
   rcases o3 with ⟨v1, v2⟩ | ⟨v1, v2⟩
   · refine nothing (by rw [hws] at v2; simpa using v2) fun W g cargs hR => ?_
     obtain ⟨c, rfl, hc⟩ := one hR
     rw [v1] at hc
     cases hc
     exact ⟨_, _, rfl⟩
   · have v3 := v2 trivial
     refine nothing (by rw [hws] at v3; simpa using v3) fun W g cargs hR => ?_
     obtain ⟨c, rfl, hc⟩ := one hR
     rw [v1.1, v3] at hc
     cases hc with
     | slnil => exact ⟨_, _, rfl⟩
     | sle _ _ a cap hf => exact ⟨_, _, rfl⟩
     | sl _ _ _ b o cap c => exact ⟨_, _, rfl⟩
 | some i =>
   rw [hk] at o3
   obtain ⟨ver, cp, v1, v2⟩ := o3
   have hi := (List.getElem?_eq_some_iff.1 v2).1
   rw [hws] at v2
   have hh := yje (P := P) (f := f) (ty := ty) hent hcon (lv := lv) (E := E) (n := sl.ws.length) v2 hlen (by rw [hws]; simp)
   rw [← v1] at hh
   refine hh.mono fun o H' ⟨e1, e2⟩ => ?_
   subst e1; subst e2
   have l1 := left (L.set i (some (.arr (ver + 1) ty 1 ((zqg xs).map V.str) cp))) ⟨.hs lv i (ver + 1) 0 (zqg xs).length false, some i, (zqg xs).map V.str⟩ hk.symm rfl (fun j hj => List.getElem?_set_ne (hj i hk)) (by simp) ⟨ver + 1, cp, by simp, by simp [hi, Dat.len]⟩
   refine ⟨_, [⟨.hs lv i (ver + 1) 0 (zqg xs).length false, some i, (zqg xs).map V.str⟩], rfl, l1, (fun q hq => by cases hq), [.hs lv i (ver + 1) 0 (zqg xs).length false], rfl, ?_⟩
   show VRL D _ lv [.own 0] _
   simp only [VRL, VR]
   exact ⟨_, [], rfl, ⟨_, rfl, rfl, rfl⟩, rfl⟩
theorem ynu {P : Program} {D : Dat} {f ty : Nat} (hent : ∀ args W, (callFunc f args).run P W = .ok (.enter f args) W)
  (hcon : ∀ (blk cap : Nat) (zs : List (List UInt8)) (w : World), Holds encStr w blk 0 zs.toArray → zs.length ≤ 9223372036854775807 → zs.length ≤ cap →
   Calls P f #[.slice (some ⟨blk, 0, none⟩) zs.length cap] w fun e w' => e = .returned (.slice (some ⟨blk, 0, none⟩) (Lib.compact zs).length cap) ∧ ∃ q, w' = putRow encStr (Sort.ahead w q) blk 0 (Lib.compact zs ++ List.replicate (zs.length - (Lib.compact zs).length) []).toArray)
  (hnone : ∀ (p : Option Addr) (cap : Nat) (w : World), Calls P f #[.slice p 0 cap] w fun e w' => e = .returned (.slice p 0 cap) ∧ w' = w) :
  FOk P (zyi D f ty fun _ xs => if xs.length ≤ 9223372036854775807 then some (zqg xs) else none) := fun n R x k kp r h => by
 have h : ((if x.1.length ≤ 9223372036854775807 then some (zqg x.1) else none).bind fun r => k (r, ())) = some r := h
 obtain ⟨r0, h1, h2⟩ := y54 h
 split at h1
 ·rename_i hlen
  injection h1 with h1
  subst h1
  exact .inl ⟨(zqg x.1, ()), h2, yia hent hcon hnone x.1 hlen _ n⟩
 ·cases h1
end Go.Ab


namespace Go.Ab
open Go
set_option linter.unusedVariables false
set_option linter.unusedSimpArgs false
theorem zo7 : ∀ a : List UInt8, Op.bytesLess a a = false
 | [] => rfl
 | x :: a => by simp [Op.bytesLess, zo7 a]
theorem zva : ∀ {a b c : List UInt8}, Op.bytesLess a b = true → Op.bytesLess b c = true → Op.bytesLess a c = true
 | _, [], _, h, _ => by simp [Op.bytesLess] at h
 | _, _ :: _, [], _, h => by simp [Op.bytesLess] at h
 | [], _ :: _, _ :: _, _, _ => by simp [Op.bytesLess]
 | x :: a, y :: b, z :: c, h1, h2 => by
   simp only [Op.bytesLess, Bool.or_eq_true, decide_eq_true_eq, Bool.and_eq_true, beq_iff_eq] at h1 h2 ⊢
   rcases h1 with h1 | ⟨rfl, h1⟩
   · rcases h2 with h2 | ⟨rfl, h2⟩
     · exact .inl (by rw [UInt8.lt_iff_toNat_lt] at *; omega)
     · exact .inl h1
   · rcases h2 with h2 | ⟨rfl, h2⟩
     · exact .inl h2
     · exact .inr ⟨rfl, zva h1 h2⟩
theorem zpg : ∀ {a b : List UInt8}, Op.bytesLess a b = false → Op.bytesLess b a = false → a = b
 | [], [], _, _ => rfl
 | [], _ :: _, h, _ => by simp [Op.bytesLess] at h
 | _ :: _, [], _, h => by simp [Op.bytesLess] at h
 | x :: a, y :: b, h1, h2 => by
   simp only [Op.bytesLess, Bool.or_eq_false_iff, decide_eq_false_iff_not, Bool.and_eq_false_iff, beq_eq_false_iff_ne] at h1 h2
   have hxy : x = y := UInt8.toNat_inj.1 (by have := h1.1; have := h2.1; simp only [UInt8.lt_iff_toNat_lt] at *; omega)
   subst hxy
   have e1 : Op.bytesLess a b = false := by rcases h1.2 with h | h; exact absurd rfl h; exact h
   have e2 : Op.bytesLess b a = false := by rcases h2.2 with h | h; exact absurd rfl h; exact h
   rw [zpg e1 e2]
theorem y5y {a b : List UInt8} (h : Op.bytesLess a b = true) : Op.bytesLess b a = false := by
 cases h2 : Op.bytesLess b a
 ·rfl
 ·have := zva h h2; rw [zo7] at this; cases this
theorem yd4 {a b c : List UInt8} (h1 : Op.bytesLess a b = false) (h2 : Op.bytesLess b c = false) : Op.bytesLess a c = false := by
 cases h : Op.bytesLess a c
 ·rfl
 ·cases h3 : Op.bytesLess b a
  ·rw [zpg h1 h3] at h; rw [h] at h2; cases h2
  ·rw [zva h3 h] at h2; cases h2
theorem y0h (x y : List UInt8) : decide (x ≤ y) = !Op.bytesLess y x := by
 rw [Go.Proofs.bytesLess_eq]
 by_cases h : y < x
 ·have : ¬ x ≤ y := List.not_le.2 h
  simp [h, this]
 ·have : x ≤ y := List.not_lt.1 h
  simp [h, this]
def z6y (l : List (List UInt8)) : Prop := l.Pairwise fun x y => Op.bytesLess x y = true
theorem zim : ∀ {l m : List (List UInt8)}, z6y l → z6y m → (∀ x, x ∈ l ↔ x ∈ m) → l = m
 | [], [], _, _, _ => rfl
 | [], y :: m, _, _, h => by have := (h y).2 List.mem_cons_self; cases this
 | x :: l, [], _, _, h => by have := (h x).1 List.mem_cons_self; cases this
 | x :: l, y :: m, h1, h2, h => by
   have a1 := List.pairwise_cons.1 h1
   have a2 := List.pairwise_cons.1 h2
   have hxy : x = y := by
     rcases List.mem_cons.1 ((h x).1 List.mem_cons_self) with e | e
     · exact e
     · rcases List.mem_cons.1 ((h y).2 List.mem_cons_self) with e' | e'
       · exact e'.symm
       · have b1 := a2.1 x e; have b2 := a1.1 y e'
         rw [y5y b1] at b2; cases b2
   subst hxy
   refine congrArg (x :: ·) (zim a1.2 a2.2 fun z => ⟨fun hz => ?_, fun hz => ?_⟩)
   · rcases List.mem_cons.1 ((h z).1 (List.mem_cons_of_mem _ hz)) with e | e
     · subst e; have := a1.1 z hz; rw [zo7] at this; cases this
     · exact e
   · rcases List.mem_cons.1 ((h z).2 (List.mem_cons_of_mem _ hz)) with e | e
     · subst e; have := a2.1 z hz; rw [zo7] at this; cases this
     · exact e
theorem zpz {l : List (List UInt8)} (h : l.Nodup) : z6y (z2f l) := by
 have hp : (z2f l).Pairwise fun x y => decide (x ≤ y) = true := List.pairwise_mergeSort (fun a b c h1 h2 => by
  rw [y0h, Bool.not_eq_true'] at *
  exact yd4 h2 h1) (fun a b => by
  rw [y0h, y0h]
  cases h : Op.bytesLess b a
  ·rfl
  ·rw [y5y h]; rfl) l
 have hn : (z2f l).Nodup := (zdt l).nodup_iff.2 h
 unfold z6y
 refine List.Pairwise.imp₂ (R := fun x y => decide (x ≤ y) = true) (S := (· ≠ ·)) (fun x y h1 h2 => ?_) hp hn
 rw [y0h, Bool.not_eq_true'] at h1
 cases h3 : Op.bytesLess x y
 ·exact (h2 (zpg h3 h1)).elim
 ·rfl
def ins : List (List UInt8) → List UInt8 → List (List UInt8)
 | [], s => [s]
 | x :: l, s => if Op.bytesLess x s then x :: ins l s else if x = s then x :: l else s :: x :: l
theorem zmj (s : List UInt8) : ∀ (l : List (List UInt8)) (z : List UInt8), z ∈ ins l s ↔ z ∈ l ∨ z = s
 | [], z => by simp [ins]
 | x :: l, z => by
   rw [ins]
   split
   · rw [List.mem_cons, List.mem_cons, zmj s l z, or_assoc]
   · split
     · rename_i h; subst h
       constructor
       · exact .inl
       · rintro (h | rfl)
         · exact h
         · exact List.mem_cons_self
     · rw [List.mem_cons, or_comm]
theorem zia {s : List UInt8} : ∀ {l : List (List UInt8)}, z6y l → z6y (ins l s)
 | [], _ => by simp [ins, z6y]
 | x :: l, h => by
   have a := List.pairwise_cons.1 h
   rw [ins]
   split
   · rename_i hx
     refine List.pairwise_cons.2 ⟨fun z hz => ?_, zia a.2⟩
     rcases (zmj s l z).1 hz with hz | rfl
     · exact a.1 z hz
     · exact hx
   · split
     · exact h
     · rename_i h1 h2
       have h1 : Op.bytesLess x s = false := by simpa using h1
       have hs : Op.bytesLess s x = true := by
         cases h3 : Op.bytesLess s x
         · exact (h2 (zpg h1 h3)).elim
         · rfl
       refine List.pairwise_cons.2 ⟨fun z hz => ?_, h⟩
       rcases List.mem_cons.1 hz with rfl | hz
       · exact hs
       · exact zva hs (a.1 z hz)
theorem zmp (s : List UInt8) : ∀ l : List (List UInt8), (ins l s).length ≤ l.length + 1
 | [] => by simp [ins]
 | x :: l => by
   have := zmp s l
   rw [ins]; split
   · simp; omega
   · split <;> simp
theorem ymk (s : List UInt8) : ∀ l : List (List UInt8), ins l s = if (l.dropWhile (fun x => Op.bytesLess x s)).head? = some s then l else l.takeWhile (fun x => Op.bytesLess x s) ++ s :: l.dropWhile (fun x => Op.bytesLess x s)
 | [] => by simp [ins]
 | x :: l => by
   rw [ins]
   cases h : Op.bytesLess x s
   · rw [List.dropWhile_cons_of_neg (by simp [h]), List.takeWhile_cons_of_neg (by simp [h])]
     by_cases hx : x = s
     · simp [hx]
     · simp [hx]
   · rw [List.dropWhile_cons_of_pos (by simp [h]), List.takeWhile_cons_of_pos (by simp [h]), if_pos rfl, ymk s l]
     split <;> rfl
end Go.Ab

