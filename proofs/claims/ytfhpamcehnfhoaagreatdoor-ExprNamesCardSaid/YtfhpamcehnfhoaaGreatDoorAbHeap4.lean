import Derived.Test.YtfhpamcehnfhoaaGreatDoorAbHeap3
namespace Go.Ab
open Go
set_option linter.unusedSimpArgs false
set_option linter.unusedVariables false
section
variable {W : World} {g : Gh} {H : Heap} {P : Program}

def Gh.move (g : Gh) (l i b c : Nat) : Gh where
  dom := g.dom
  blk := g.blk
  ab l' i' := if l' = l ∧ i' = i then b else g.ab l' i'
  cap l' i' := if l' = l ∧ i' = i then c else g.cap l' i'

/-- an array that has grown into a new block -/
theorem good_move (hG : Good W g H) {l i ver ty sz : Nat} {xs zs : List V} {cp : Option Nat} (ho : H.get l i = some (.arr ver ty sz xs cp)) {W' : World} {O : Obj} (hW : W' = W.alloc O) (c : Nat)
    (hrel : Step W g H W' (g.move l i W.heap.size c) (H.set l i (.arr (ver + 1) ty sz zs none)) → ORel W' (g.move l i W.heap.size c) (H.set l i (.arr (ver + 1) ty sz zs none)) l i (.arr (ver + 1) ty sz zs none)) :
    Step W g H W' (g.move l i W.heap.size c) (H.set l i (.arr (ver + 1) ty sz zs none)) ∧ Good W' (g.move l i W.heap.size c) (H.set l i (.arr (ver + 1) ty sz zs none)) := by
  have hget := Heap.get_set (o' := .arr (ver + 1) ty sz zs none) ho
  have hgr : Grow W W' := hW ▸ Grow.alloc W O
  have hblk : ∀ (q : AObj) (l' i' : Nat), ¬ (l' = l ∧ i' = i) → q.blk (g.move l i W.heap.size c) l' i' = q.blk g l' i' := fun q l' i' h => by cases q <;> simp [AObj.blk, Gh.move, h]
  have hstep : Step W g H W' (g.move l i W.heap.size c) (H.set l i (.arr (ver + 1) ty sz zs none)) := by
    refine ⟨hgr.os, hgr.tape, hgr.output, hgr.size, fun b hb _ => hgr.block b hb, fun b hb => ?_, fun _ _ h => h, fun _ _ h => .inl h, fun _ _ _ => rfl, fun l' i' ver' ty' sz' xs' cp' hd hg => ?_, Heap.set_lv _ _ _⟩
    · obtain ⟨l', i', q, hq, hqb⟩ := hb
      rw [hget] at hq
      split at hq
      · rename_i hk; obtain ⟨rfl, rfl⟩ := hk
        injection hq with hq; subst hq
        simp only [AObj.blk, Gh.move, and_self, if_true] at hqb
        right; omega
      · rename_i hk
        rw [hblk _ _ _ hk] at hqb
        exact .inl ⟨l', i', q, hq, hqb⟩
    · rw [hget] at hg
      split at hg
      · rename_i hk; obtain ⟨rfl, rfl⟩ := hk
        injection hg with hg; injection hg with e1 e2 e3 e4 e5
        subst e1; subst e2; subst e3
        exact ⟨ver, xs, cp, ho, Nat.le_succ _, fun h => by omega⟩
      · rename_i hk
        exact ⟨ver', xs', cp', hg, Nat.le_refl _, fun _ => ⟨by simp [Gh.move, hk], by simp [Gh.move, hk], Nat.le_refl _⟩⟩
  refine ⟨hstep, ?_, ?_, ?_, ?_, ?_, hG.glob.step hstep⟩
  · intro l' i' q hq
    rw [hget] at hq
    split at hq
    · rename_i hk; obtain ⟨rfl, rfl⟩ := hk; exact hG.dom _ _ _ ho
    · exact hG.dom _ _ _ hq
  · intro l' i' q hq
    rw [hget] at hq
    split at hq
    · rename_i hk; obtain ⟨rfl, rfl⟩ := hk
      injection hq with hq; subst hq
      simp only [AObj.blk, Gh.move, and_self, if_true]
      rw [hW]; simp
    · rename_i hk
      rw [hblk _ _ _ hk]
      exact Nat.lt_of_lt_of_le (hG.lt _ _ _ hq) hgr.size
  · intro l1 i1 q1 l2 i2 q2 h1 h2 h3
    rw [hget] at h1 h2
    split at h1
    · rename_i hk; obtain ⟨rfl, rfl⟩ := hk
      injection h1 with h1; subst h1
      split at h2
      · rename_i hk'; exact ⟨hk'.1.symm, hk'.2.symm⟩
      · rename_i hk'
        rw [hblk _ _ _ hk'] at h3
        simp only [AObj.blk, Gh.move, and_self, if_true] at h3
        have := hG.lt _ _ _ h2
        cases q2 <;> simp only [AObj.blk] at h3 this <;> omega
    · rename_i hk
      split at h2
      · rename_i hk'; obtain ⟨rfl, rfl⟩ := hk'
        injection h2 with h2; subst h2
        rw [hblk _ _ _ hk] at h3
        simp only [AObj.blk, Gh.move, and_self, if_true] at h3
        have := hG.lt _ _ _ h1
        cases q1 <;> simp only [AObj.blk] at h3 this <;> omega
      · rename_i hk'
        rw [hblk _ _ _ hk, hblk _ _ _ hk'] at h3
        exact hG.inj _ _ _ _ _ _ h1 h2 h3
  · intro l' i' h
    rw [Heap.set_lv, Heap.set_len]
    exact hG.fresh l' i' h
  · intro l' i' q hq
    rw [hget] at hq
    split at hq
    · rename_i hk; obtain ⟨rfl, rfl⟩ := hk
      injection hq with hq; subst hq
      exact hrel hstep
    · rename_i hk
      exact (hG.obj l' i' q hq).mono hstep (hgr.block _ (hG.lt _ _ _ hq)) rfl (by simp [Gh.move, hk]) (by simp [Gh.move, hk])

theorem Grow.drawnThen {W W' : World} {d : Nat} (h : Grow { W with drawn := d } W') : Grow W W' := (Grow.drawn W d).trans h

theorem run_append_zero {t u ty e : TypeId} {i : TypeInfo} {du : TypeDesc} (ht : P.underlying t = some (.slice e)) (hu : P.underlying u = some du) (hdu : ∀ k, du ≠ .int k) (hi : P.info? e = some i)
    {base : Option Addr} {sLen sCap : Nat} {x : Value} {news : Array Value} (hx : (Builtin.lenOf x).run P W = .ok 0 W) (hn : (Builtin.firstCells i.size 0 x).run P W = .ok news W) (hz : news = #[]) (hg : sLen ≤ sCap) :
    (Builtin.append_ #[t, u] ty #[.slice base sLen sCap, x]).run P W = .ok (.slice base sLen sCap) W := by
  subst hz
  cases base <;> simp [Builtin.append_, run_underlying' ht, run_underlying' hu, sizeOf, typeInfo, hi, hx, hg, hn, storeCells]

theorem getD_append_left {a b : Array Value} {i : Nat} (h : i < a.size) : (a ++ b).getD i undef = a.getD i undef := by
  simp only [Array.getD_eq_getD_getElem?]; rw [Array.getElem?_append_left h]
theorem getD_append_right {a b : Array Value} {i : Nat} : (a ++ b).getD (a.size + i) undef = b.getD i undef := by
  simp only [Array.getD_eq_getD_getElem?]; rw [Array.getElem?_append_right (by omega)]; congr 2; omega

theorem sound_append (hG : Good W g H) {t u ty : Nat} {s x v : V} {cs cx : Value} {H' : Heap} (h : hAppend P H t u s x = some (v, H')) (hs : Rel W g H s cs) (hx : Rel W g H x cx) :
    Turns P W g H (do pure (.value (← Builtin.append_ #[t, u] ty #[cs, cx]))) v H' := by
  unfold hAppend at h
  split at h
  · rename_i e du ht hu
    split at h
    · rename_i i hi
      split at h
      · rename_i ys z hys hz
        split at h
        · rename_i hc
          simp only [Bool.and_eq_true, decide_eq_true_eq, beq_iff_eq] at hc
          obtain ⟨⟨⟨c1, c2⟩, c3⟩, c4⟩ := hc
          have hdu : ∀ k, du ≠ .int k := fun k hk => by subst hk; simp [notInt] at c1
          obtain ⟨hlen, news, n1, n2, n3, n4⟩ := src_sound (P := P) hG c2 hys hx
          -- nothing to append
          have nothing : ∀ (a : Option Addr) (n cap : Nat), ys = [] → cs = .slice a n cap → n ≤ cap → Turns P W g H (do pure (.value (← Builtin.append_ #[t, u] ty #[cs, cx]))) s H := fun a n cap hy hcs hle => by
            subst hy
            have hz0 : news = #[] := by simpa using n1
            have := run_append_zero (P := P) (W := W) (ty := ty) (base := a) ht hu hdu hi hlen (n4 W.drawn) hz0 hle
            rw [hcs]
            exact ⟨_, W, g, .inl (by simp [this]), .refl _ _ _, hG, hcs ▸ hs⟩
          -- a new row
          have fresh : ∀ (a : Option Addr) (n cap : Nat) (xs : List V) (olds : Array Value), cs = .slice a n cap → n = xs.length → cap < n + ys.length → n + ys.length ≤ roomB → olds.size = n * i.size → RelF W g H i.size xs olds →
              (∀ d : Nat, (Builtin.firstCells i.size n (.slice a n cap)).run P { W with drawn := d } = .ok olds { W with drawn := d }) →
              ∃ cap' d, n + ys.length ≤ cap' ∧ cap' ≤ maxLen ∧ (Builtin.append_ #[t, u] ty #[cs, cx]).run P W =
                .ok (.slice (some ⟨W.heap.size, 0, none⟩) (n + ys.length) cap') (({ W with drawn := d } : World).alloc (.cells (olds ++ news ++ Builtin.zeroCells z.cells (cap' - (n + ys.length))) e)) ∧
                (olds ++ news ++ Builtin.zeroCells z.cells (cap' - (n + ys.length))).size = cap' * i.size ∧ RelF W g H i.size (xs ++ ys) (olds ++ news ++ Builtin.zeroCells z.cells (cap' - (n + ys.length))) :=
              fun a n cap xs olds hcs hn hcap hroom ho1 ho2 ho3 => by
            have hb : n + ys.length ≤ 268435456 := hroom
            have hbytes : (n + ys.length) * i.bytes ≤ 140737488355328 := by
              calc (n + ys.length) * i.bytes ≤ 268435456 * 524288 := Nat.mul_le_mul hb c3
                _ = _ := by decide
            obtain ⟨cap', d, k1, k2, k3⟩ := run_append_new (P := P) (W := W) (ty := ty) (base := a) ht hu hdu hi hz hlen ho3 n4 hcap (by omega) (growslice_fits hcap hbytes)
            refine ⟨cap', d, k1, k2, by rw [hcs]; exact k3, ?_, ?_⟩
            · rw [Array.size_append, Array.size_append, size_zeroCells, ho1, n1, c4, ← Nat.add_mul, ← Nat.add_mul]
              congr 1; omega
            · refine ho2.append n3 (fun j hj => ?_) (fun j hj => ?_)
              · rw [Array.append_assoc, getD_append_left (by rw [ho1, hn]; exact hj)]
              · rw [Array.append_assoc, ← hn, ← ho1, getD_append_right, getD_append_left (by rw [n1]; exact hj)]
          have pushed : ∀ (a : Option Addr) (n cap : Nat) (xs : List V) (olds : Array Value), cs = .slice a n cap → n = xs.length → cap < n + ys.length → n + ys.length ≤ roomB → olds.size = n * i.size → RelF W g H i.size xs olds →
              (∀ d : Nat, (Builtin.firstCells i.size n (.slice a n cap)).run P { W with drawn := d } = .ok olds { W with drawn := d }) →
              Turns P W g H (do pure (.value (← Builtin.append_ #[t, u] ty #[cs, cx]))) (.hs H.lv H.L.length 0 0 (n + ys.length) false) (H.push (.arr 0 e i.size (xs ++ ys) none)) := fun a n cap xs olds hcs hn hcap hroom ho1 ho2 ho3 => by
            obtain ⟨cap', d, k1, k2, k3, k4, k5⟩ := fresh a n cap xs olds hcs hn hcap hroom ho1 ho2 ho3
            have hGd := hG.grow (Grow.drawn W d)
            obtain ⟨q1, q2⟩ := good_push hGd (o := .arr 0 e i.size (xs ++ ys) none) (O := .cells (olds ++ news ++ Builtin.zeroCells z.cells (cap' - (n + ys.length))) e) cap' (fun W' g' H' hW hg hH hst => by
              have hm := (k5.mono (Grow.drawn W d).step).mono hst
              refine ⟨_, ?_, c2, ?_, ?_, ?_, by simp, hm.1, hm.2.1, hm.2.2⟩
              · rw [hW, hg]; simp only [Gh.add, and_self, if_true]; exact heap_alloc_new' _ _
              · rw [hg]; simpa [Gh.add] using k4
              · rw [hg]; simpa [Gh.add] using k2
              · rw [hg]; simp [Gh.add]; omega)
            refine ⟨_, _, _, .inl (by simp [k3]; rfl), (Grow.drawn W d).step.trans q1, q2, ?_⟩
            refine .hs _ _ _ _ _ _ _ _ _ (.inr ⟨rfl, rfl⟩) (fun v ty sz xs cp hg => Nat.zero_le _) fun ty sz zs cp hg => ?_
            rw [Heap.get_push, if_pos ⟨rfl, rfl⟩] at hg
            injection hg with hg; injection hg with _ _ e3 e4 _
            subst e3; subst e4
            refine ⟨by simp [Gh.add], rfl, ⟨k1, by simp [Gh.add], by simp⟩, by simp; omega⟩
          unfold appendTo at h
          split at h
          · -- nil
            cases hs
            split at h
            · injection h with h; injection h with h1 h2; subst h1; subst h2
              exact nothing none 0 0 rfl rfl (Nat.le_refl _)
            · rename_i y r
              split at h
              · rename_i hr
                injection h with h; injection h with h1 h2; subst h1; subst h2
                have := pushed none 0 0 [] #[] rfl rfl (by simp) (by simpa using hr) (by simp) ⟨by simp, by simp, by simp⟩ (fun d => by simp [Builtin.firstCells])
                simpa using this
              · cases h
          · rename_i sz xs
            split at h
            · rename_i hsz
              obtain ⟨a, n, cap, rfl, rfl, o2, olds, o3, o4, o5, o6⟩ := elems_sound (P := P) hG c2 (show elemsOf H i.size (.sl sz xs true) = some xs by simp [elemsOf, hsz]) hs
              have hfull : cap = xs.length := by
                cases hs with
                | slnil => rfl
                | sle _ _ _ _ hf => exact hf rfl
                | sl _ _ _ _ _ _ _ _ _ _ hf => exact hf rfl
              split at h
              · injection h with h; injection h with h1 h2; subst h1; subst h2
                exact nothing a _ cap rfl rfl o2
              · rename_i y r
                split at h
                · rename_i hr
                  injection h with h; injection h with h1 h2; subst h1; subst h2
                  exact pushed a _ cap xs olds rfl rfl (by simp; omega) hr o3 o5 o6
                · cases h
            · cases h
          · rename_i l i' ver n
            split at h
            · rename_i ver' e' sz xs cp hg
              split at h
              · rename_i hcc
                obtain ⟨rfl, rfl, rfl, rfl, hroom⟩ := hcc
                injection h with h; injection h with h1 h2; subst h1; subst h2
                obtain ⟨a, n, cap, rfl, hn', o2, olds, o3, o4, o5, o6⟩ := elems_sound (P := P) hG c2 (show elemsOf H i.size (.hs l i' ver' 0 xs.length false) = some xs by simp [elemsOf, hg]) hs
                cases hs with
                | hs _ _ _ _ _ _ _ _ _ hd hv ha =>
                  obtain ⟨rfl, rfl, ⟨hcap, hcap2, hff⟩, hle⟩ := ha _ _ _ _ hg
                  obtain ⟨cur, k1, k2, k3, k3', k4, k5, k6⟩ := arr_rel hG hg
                  rw [Nat.zero_mul] at *
                  by_cases hfit : xs.length + ys.length ≤ cap
                  · have hf2 : 0 + xs.length * i.size + news.size ≤ cur.size := by
                      rw [n1, k3, Nat.zero_add, ← Nat.add_mul]; exact Nat.mul_le_mul_right _ (by omega)
                    have hrun := run_append_here (P := P) (W := W) (ty := ty) ht hu hdu hi hlen (n4 W.drawn) n2 hfit k1 hf2
                    rw [Nat.zero_add] at hrun
                    obtain ⟨p1, p2⟩ := putCells_get cur (xs.length * i.size) news
                    obtain ⟨s1, s2, s3, s4⟩ := setRow_good W (g.ab l i') (putCells cur (xs.length * i.size) news)
                    obtain ⟨q1, q2⟩ := good_set hG (o' := .arr (ver' + 1) e' i.size (xs ++ ys) none) hg rfl s1 s2 s3 s4 (fun b _ hb => setRow_other W _ b _ hb)
                      (fun _ _ _ _ _ h => by cases h; exact ⟨ver', xs, cp, rfl, Nat.le_succ _, fun h => by omega⟩) (fun hst => by
                      have hm : RelF W g H i.size (xs ++ ys) (putCells cur (xs.length * i.size) news) := k6.append n3 (fun j hj => by
                          rw [Array.getD_eq_getD_getElem?, p2, if_neg (by omega), ← Array.getD_eq_getD_getElem?]) (fun j hj => by
                          rw [Array.getD_eq_getD_getElem?, p2, if_pos ⟨by omega, by rw [n1]; omega, by rw [n1] at hf2; omega⟩, show xs.length * i.size + j - xs.length * i.size = j by omega, ← Array.getD_eq_getD_getElem?])
                      have hm' := hm.mono hst
                      exact ⟨_, setRow_heap W _ cur _ e' _ k1, k2, by rw [p1]; exact k3, k3', by simp; omega, by simp, hm'.1, hm'.2.1, hm'.2.2⟩)
                    refine ⟨_, _, g, .inl (by simp [hrun]; rfl), q1, q2, ?_⟩
                    refine .hs _ _ _ _ _ _ _ _ _ hd (fun v ty sz zs cp hg' => ?_) fun ty sz zs cp hg' => ?_
                    · rw [Heap.get_set hg, if_pos ⟨rfl, rfl⟩] at hg'
                      injection hg' with hg'; injection hg' with e1 _ _ _ _
                      omega
                    · rw [Heap.get_set hg, if_pos ⟨rfl, rfl⟩] at hg'
                      injection hg' with hg'; injection hg' with _ _ e3 e4 _
                      subst e3; subst e4
                      exact ⟨by simp, rfl, ⟨hfit, by omega, by simp⟩, by simp⟩
                  · obtain ⟨cap', d, j1, j2, j3, j4, j5⟩ := fresh (some ⟨g.ab l i', 0, none⟩) xs.length cap xs olds rfl rfl (by omega) hroom o3 o5 o6
                    have hGd := hG.grow (Grow.drawn W d)
                    obtain ⟨q1, q2⟩ := good_move hGd (zs := xs ++ ys) hg (W' := ({ W with drawn := d } : World).alloc (.cells (olds ++ news ++ Builtin.zeroCells z.cells (cap' - (xs.length + ys.length))) e')) rfl cap' (fun hst => by
                      have hm := (j5.mono (Grow.drawn W d).step).mono hst
                      refine ⟨_, ?_, k2, ?_, ?_, ?_, by simp, hm.1, hm.2.1, hm.2.2⟩
                      · simp only [Gh.move, and_self, if_true]; exact heap_alloc_new' _ _
                      · simpa [Gh.move] using j4
                      · simpa [Gh.move] using j2
                      · simp [Gh.move]; omega)
                    refine ⟨_, _, _, .inl (by simp [j3]; rfl), (Grow.drawn W d).step.trans q1, q2, ?_⟩
                    refine .hs _ _ _ _ _ _ _ _ _ hd (fun v ty sz zs cp hg' => ?_) fun ty sz zs cp hg' => ?_
                    · rw [Heap.get_set hg, if_pos ⟨rfl, rfl⟩] at hg'
                      injection hg' with hg'; injection hg' with e1 _ _ _ _
                      omega
                    · rw [Heap.get_set hg, if_pos ⟨rfl, rfl⟩] at hg'
                      injection hg' with hg'; injection hg' with _ _ e3 e4 _
                      subst e3; subst e4
                      exact ⟨by simp [Gh.move], rfl, ⟨j1, by simp [Gh.move], by simp⟩, by simp⟩
              · cases h
            · cases h
          · cases h
        · cases h
      · cases h
    · cases h
  · cases h

end
end Go.Ab
