/-
  slices.SortFunc OVER LINES, by the kit's contract.
-/
import Derived.Test.YtoimblncdeimoaaShelfP
import Derived.Test.YtoimblncdeimoaaPlain0
import Derived.Test.YtoimblncdeimoaaFacts
namespace Go.Proofs
open Go Go.Ab Go.RowKit Go.Sort
set_option linter.unusedVariables false
set_option linter.unusedSimpArgs false
instance : Inhabited GTally := ⟨⟨[], 0, 0⟩⟩

def encT (x : GTally) : List Value := [.string ⟨x.name.toArray⟩, .int .i64 x.count, .int .i64 x.volume]
def cfT (x y : GTally) : Int := Lib.compareBytes x.name y.name
theorem ltOf_cfT (x y : GTally) : Go.Proofs.ltOf cfT x y = ltT x y := cmp_bl _ _
theorem swoT : SWO (Go.Proofs.ltOf cfT) where
  irrefl x := by rw [ltOf_cfT]; exact bl_irrefl _
  trans x y z h1 h2 := by rw [ltOf_cfT] at *; exact bl_trans h1 h2
  ntrans x y z h1 h2 := by rw [ltOf_cfT] at *; exact bl_ntrans h1 h2

set_option maxHeartbeats 1000000 in
theorem closureT (x y : GTally) (W : World) : Calls Try.prog 36 #[.agg (encT x).toArray, .agg (encT y).toArray] W fun e w' => e = .returned (.int .i64 (cfT x y)) ∧ ∃ q os', w' = grow (W.drewN q) os' := by
  have hcon := fun W' => Any.strings_Compare Try.lays106 ⟨x.name.toArray⟩ ⟨y.name.toArray⟩ W'
  change ∀ W', Calls Try.prog 37 #[.string ⟨x.name.toArray⟩, .string ⟨y.name.toArray⟩] W' (fun e w' => e = .returned (.int .i64 (cfT x y)) ∧ w' = W') at hcon
  generalize cfT x y = r at hcon ⊢
  unfold encT
  go_enter Try.func36, Try.ntmps36
  go_wp2_with (go_at_call 37; refine (hcon _).mono ?_; rintro e w' ⟨rfl, rfl⟩)
  go_ret
  exact ⟨rfl, 0, _, by rw [alloc_eq_grow, alloc_eq_grow, grow_grow]; rfl⟩

theorem sort_calls (blk cap : Nat) (d : Array GTally) (w : World) (hH : HoldsK encT 3 w blk 0 d) (hblk : blk < w.heap.size) (hsz : d.size < 4611686018427387904) :
    Calls Try.prog 35 #[.slice (some ⟨blk, 0, none⟩) d.size cap, .func (.func 36) #[] #[]] w fun e w' => e = .returned (.tuple #[]) ∧ ∃ d' n os, PermIn 0 d.size d d' ∧ SortedIn ltT 0 d.size d' ∧ w' = sortWorldK encT 3 w blk 0 n d' os := by
  have eg : ∀ args w, (callFunc 36 args).run Try.prog w = .ok (.enter 36 args) w := fun _ _ => Try.call36 _ _
  have hcon := AnyQ.slices_SortFunc Try.sortT 3 Try.isAgg30 Try.sizeOf30 encT (fun _ => rfl) (fun x v hv => by simp [encT] at hv; rcases hv with rfl | rfl | rfl <;> rfl) cfT swoT 36 #[] blk 0 cap d w eg
    (fun _ _ _ _ x y => by rw [Array.append_empty]; exact closureT x y _) hH hblk hsz
  rw [show Go.Proofs.ltOf cfT = ltT from funext fun x => funext fun y => ltOf_cfT x y] at hcon
  exact hcon

theorem asc_of {d : Array GTally} (h : SortedIn ltT 0 d.size d) : Asc d.toList := by
  refine List.pairwise_iff_getElem.2 fun i j hi hj hij => ?_
  have hi' : i < d.size := by simpa using hi
  have hj' : j < d.size := by simpa using hj
  have := h i j (Nat.zero_le _) hij hj'
  rw [getElem!_pos d j hj', getElem!_pos d i hi'] at this
  simpa using this

theorem el_cells {x : GTally} {t : Nat} {v : V} (h : x.el.cells[t]? = some v) : t < 3 ∧ (∀ (W : World) (g : Gh) (H : Heap) (c : Value), Rel W g H v c → c = (encT x)[t]!) ∧ ∀ (W : World) (g : Gh) (H : Heap), Rel W g H v (encT x)[t]! := by
  rw [GTally.el_eq] at h
  have ht : t < 3 := (List.getElem?_eq_some_iff.1 h).1
  refine ⟨ht, ?_⟩
  match t, ht with
  | 0, _ => simp [V.cells] at h; subst h; exact ⟨fun W g H c hc => by cases hc; rfl, fun W g H => .str _⟩
  | 1, _ => simp [V.cells] at h; subst h; exact ⟨fun W g H c hc => by cases hc; rfl, fun W g H => .int _ _⟩
  | 2, _ => simp [V.cells] at h; subst h; exact ⟨fun W g H c hc => by cases hc; rfl, fun W g H => .int _ _⟩
theorem el_some (x : GTally) {t : Nat} (ht : t < 3) : ∃ v, x.el.cells[t]? = some v := by
  rw [GTally.el_eq]
  exact ⟨_, List.getElem?_eq_getElem (by simpa [V.cells] using ht)⟩

theorem h_setAt {lv : Nat} {L : List (Option AObj)} {al : List AccE} {ol : List (Nat × AObj)} {k ver n : Nat} {xs ys : List V} {cp : Option Nat} (hA : AccG lv L (⟨30, 3, .hs lv k ver 0 n false, xs, true⟩ :: al) ol) (hL : L[k]? = some (some (.arr ver 30 3 xs cp))) (hne : xs ≠ []) (hys : ys.length = xs.length) :
    AccG lv (L.set k (some (.arr ver 30 3 ys cp))) (⟨30, 3, .hs lv k ver 0 n false, ys, true⟩ :: al) ol := by
  have hn : n = xs.length := by
    rcases hA.form (j := 0) rfl with ⟨h, _⟩ | ⟨h, _⟩ | ⟨k', ver', cp', h, _⟩
    · cases h
    · cases h
    · injection h
  subst hn
  have := hA.accs.setAt (j := 0) (n := k) rfl rfl hL hne hys
  exact ⟨this, hA.nodup⟩

theorem sort_rel {xs : List GTally} (hlen : xs.length ≤ 1048576) (hn : (xs.map (·.name)).Nodup) : ∀ (lv : Nat) (L : List (Option AObj)) (E : Nat → Nat → Option AObj) (asl : List AccE) (osl : List (Nat × AObj)) (v : V), AccG lv L (⟨30, 3, v, xs.map GTally.el, true⟩ :: asl) osl →
    HRel Try.prog 35 [v, .fn 36 [] []] ⟨lv, L, E⟩ (fun o H' => ∃ L' : List (Option AObj), H' = ⟨lv, L', E⟩ ∧ AccG lv L' (⟨30, 3, v, (sortT xs).map GTally.el, true⟩ :: asl) osl ∧ o = .ret (.tup [])) := by
  intro lv L E asl osl v hA W g cargs hG hR
  obtain ⟨x, y, rfl, h0, h1⟩ := args2 hR
  refine ⟨Try.call35 _ _, ?_⟩
  have hnone : xs = [] → ∀ p cap fv, x = .slice p 0 cap → Calls Try.prog 35 #[x, fv] W (fun e W' => ∃ o H' g', (∃ L' : List (Option AObj), H' = ⟨lv, L', E⟩ ∧ AccG lv L' (⟨30, 3, v, (sortT xs).map GTally.el, true⟩ :: asl) osl ∧ o = .ret (.tup [])) ∧ Step W g ⟨lv, L, E⟩ W' g' H' ∧ Go.Ab.Good W' g' H' ∧ ORelE W' g' H' o e) := fun hx p cap fv e => by
    subst hx; subst e
    refine (AnyF.slices_SortFunc_none Try.sortT p cap fv W).mono ?_
    rintro e W' ⟨rfl, rfl⟩
    exact ⟨.ret (.tup []), ⟨lv, L, E⟩, g, ⟨L, rfl, by simpa [sortT] using hA, rfl⟩, .refl _ _ _, hG, _, rfl, .tup [] #[] rfl (by simp)⟩
  cases h1 with
  | fn _ _ _ fs' cs' n1 n2 r1 r2 =>
    obtain rfl : fs' = #[] := Array.eq_empty_of_size_eq_zero n1
    obtain rfl : cs' = #[] := Array.eq_empty_of_size_eq_zero n2
    rcases hA.form (j := 0) rfl with ⟨rfl, he⟩ | ⟨rfl, hw⟩ | ⟨k, ver, cp, rfl, hL⟩
    · cases h0
      exact hnone (by simpa using he) _ _ _ rfl
    · have hx : xs = [] := by simpa using hw rfl
      subst hx
      cases h0 with
      | slnil => exact hnone rfl _ _ _ rfl
      | sle _ _ a cap hf => exact hnone rfl _ _ _ rfl
      | sl _ _ _ b o cap c => exact hnone rfl _ _ _ rfl
    · have hg : (⟨lv, L, E⟩ : Heap).get lv k = some (.arr ver 30 3 (xs.map GTally.el) cp) := by simp [Heap.get, hL]
      cases h0 with
      | hs _ _ _ _ _ _ a m cap hd hv ha =>
        obtain ⟨rfl, rfl, ⟨a1, a2, _⟩, a3⟩ := ha _ _ _ _ hg
        by_cases hx : xs = []
        · subst hx; exact hnone rfl _ _ _ rfl
        obtain ⟨cur, k1, k2, k3, k3', k4, k5, k6, k7, k8⟩ := hG.obj _ _ _ hg
        rw [List.length_map] at k4
        have hcell : ∀ (d : Array GTally) (t : Nat), t < d.size * 3 → (flatK encT 3 d)[t]! = (encT d[t / 3]!)[t % 3]! := fun d t ht => get_flatK encT 3 d t ht
        have hH : HoldsK encT 3 W (g.ab lv k) 0 xs.toArray := fun j hj => by
          rw [size_flatK] at hj
          have hj' : j < xs.length * 3 := by simpa using hj
          have hq : j / 3 < xs.length := by omega
          obtain ⟨v, hv⟩ := el_some xs[j / 3] (t := j % 3) (Nat.mod_lt _ (by decide))
          have e1 : (xs.map GTally.el)[j / 3]? = some (xs[j / 3]).el := by rw [List.getElem?_map, List.getElem?_eq_getElem hq]; rfl
          have e2 := k8 _ _ _ _ e1 hv
          have e3 := (el_cells hv).2.1 _ _ _ _ e2
          rw [Nat.mul_comm, Nat.div_add_mod] at e3
          have hlt : j < cur.size := by rw [k3]; omega
          refine ⟨?_, by simp [World.frozen?, k1]⟩
          rw [hcell _ _ hj]
          have e4 : xs.toArray[j / 3]! = xs[j / 3] := by rw [getElem!_pos xs.toArray (j / 3) (by simpa using hq)]; simp
          rw [e4]
          show W.cell? ⟨g.ab lv k, 0 + j, none⟩ = some ((encT xs[j / 3])[j % 3]!)
          rw [← e3, Nat.zero_add, Array.getD_eq_getD_getElem?]
          simp [World.cell?, k1, hlt]
        have hb : g.ab lv k < W.heap.size := (Array.getElem?_eq_some_iff.1 k1).1
        have hcon := sort_calls (g.ab lv k) cap xs.toArray W hH hb (by simp; omega)
        rw [List.size_toArray, ← List.length_map (f := GTally.el)] at hcon
        refine hcon.mono ?_
        rw [List.length_map]
        rintro e W' ⟨rfl, d', n, os, hp, hs, rfl⟩
        have hsz : d'.size = xs.length := by have := hp.1; simpa using this
        have hperm : d'.toList.Perm xs := by
          have := hp.2.2
          rw [← hsz] at this
          have h2 : (List.take xs.length d'.toList).Perm xs := by simpa [hsz] using this
          rwa [List.take_of_length_le (by simp; omega)] at h2
        have hd' : d'.toList = sortT xs := by
          refine asc_unique (hperm.trans (sortT_perm xs).symm) (asc_of (by rw [hsz]; exact hs)) (sortT_asc xs) ?_
          exact (hperm.map _).nodup_iff.2 hn
        have hheap : (sortWorldK encT 3 W (g.ab lv k) 0 n d' os).heap = W.heap.modify (g.ab lv k) (onCells (Go.Sort.putCells id 0 (flatK encT 3 d'))) ++ os := rfl
        have hW' : (sortWorldK encT 3 W (g.ab lv k) 0 n d' os).heap[g.ab lv k]? = some (.cells (Go.Sort.putCells id 0 (flatK encT 3 d') cur) 30 (0, 0)) := by
          rw [hheap, Array.getElem?_append_left (by simpa using hb), Array.getElem?_modify, if_pos rfl, k1]; rfl
        have hcur : ∀ j t, j < xs.length → t < 3 → (Go.Sort.putCells id 0 (flatK encT 3 d') cur).getD (j * 3 + t) undef = (encT d'[j]!)[t]! := fun j t hj ht => by
          have hlt : j * 3 + t < d'.size * 3 := by omega
          have hlt2 : j * 3 + t < cur.size := by rw [k3]; omega
          have e := hcell d' (j * 3 + t) hlt
          rw [show (j * 3 + t) / 3 = j by omega, show (j * 3 + t) % 3 = t by omega] at e
          rw [Array.getD_eq_getD_getElem?, Go.Sort.putCells, Array.getElem?_mapIdx, Array.getElem?_eq_getElem hlt2]
          simp only [Option.map_some, Option.getD_some, id, Nat.sub_zero, size_flatK]
          rw [if_pos ⟨Nat.zero_le _, by omega⟩, e]
        have hys : ∀ (j : Nat) (x : V), ((sortT xs).map GTally.el)[j]? = some x → j < xs.length ∧ x = (d'[j]!).el := fun j x hj => by
          rw [← hd', List.getElem?_map, Option.map_eq_some_iff] at hj
          obtain ⟨y, hy, rfl⟩ := hj
          have hlt := (List.getElem?_eq_some_iff.1 hy).1
          have hlt' : j < d'.size := by simpa using hlt
          refine ⟨by omega, ?_⟩
          rw [getElem!_pos d' j hlt']
          have := (List.getElem?_eq_some_iff.1 hy).2
          rw [← this]; simp
        obtain ⟨q1, q2⟩ := good_set (W' := sortWorldK encT 3 W (g.ab lv k) 0 n d' os) hG (o' := .arr ver 30 3 ((sortT xs).map GTally.el) cp) hg rfl rfl rfl rfl (by rw [hheap]; simp) (fun b hb1 hb2 => by
            rw [hheap, Array.getElem?_append_left (by simpa using hb1), Array.getElem?_modify, if_neg (fun h => hb2 h.symm)])
          (fun ver ty sz zs cp' he => by injection he with e1 e2 e3 e4 e5; subst e1; subst e2; subst e3; subst e4; exact ⟨_, _, _, rfl, Nat.le_refl _, fun _ => by simp [(sortT_perm xs).length_eq]⟩) (fun hst => by
          refine ⟨_, hW', by decide, by rw [Go.Sort.putCells, Array.size_mapIdx]; exact k3, k3', by simp [(sortT_perm xs).length_eq]; exact k4, k5, fun j x hj => ?_, fun j x t v hj htv => ?_, fun j x t v hj htv => ?_⟩
          · obtain ⟨_, rfl⟩ := hys j x hj; exact GTally.cells_len _
          · obtain ⟨hj', rfl⟩ := hys j x hj
            obtain ⟨ht, _, _⟩ := el_cells htv
            rw [hcur j t hj' ht]
            match t, ht with
            | 0, _ => rfl
            | 1, _ => rfl
            | 2, _ => rfl
          · obtain ⟨hj', rfl⟩ := hys j x hj
            obtain ⟨ht, _, h3⟩ := el_cells htv
            rw [hcur j t hj' ht]
            exact h3 _ _ _)
        refine ⟨.ret (.tup []), _, g, ⟨L.set k (some (.arr ver 30 3 ((sortT xs).map GTally.el) cp)), by simp [Heap.set], ?_, rfl⟩, q1, q2, _, rfl, .tup [] #[] rfl (by simp)⟩
        have := h_setAt hA hL (by simpa using hx) (ys := (sortT xs).map GTally.el) (by simp [(sortT_perm xs).length_eq])
        rw [List.length_map] at this
        exact this
end Go.Proofs
