/-
  THE TYPED MACHINE: operations that branch.
-/
import Derived.Test.YtagebdhlgnlcnaaGreatDoorLib3
namespace Go.Ab
open Go
set_option linter.unusedVariables false
set_option linter.unusedSimpArgs false
section
variable {P : Program} {D : Dat} {F : Fr} {ρ : List Slot} {ts : TS D.T} {σ : St} {lv : Nat}
mutual
theorem tEqv_sound : ∀ {d t : Nat} {x y : TV D.T} {vx vy : V} {b : Bool}, tEqv P d t x y = some b → VR D ρ lv x vx → VR D ρ lv y vy → eqv P d t vx vy = some b
 | 0, t, x, y, vx, vy, b, h, hx, hy => by simp [tEqv] at h
 | d + 1, t, x, y, vx, vy, b, h, hx, hy => by
   simp only [tEqv] at h
   split at h
   · simp only [VR] at hx hy; subst hx; subst hy; (simp only [eqv]; split at h <;> first | (rename_i hu; simp only [hu]; exact h) | cases h)
   · simp only [VR] at hx hy; subst hx; subst hy; (simp only [eqv]; split at h <;> first | (rename_i hu; simp only [hu]; exact h) | cases h)
   · simp only [VR] at hx hy; subst hx; subst hy; (simp only [eqv]; split at h <;> first | (rename_i hu; simp only [hu]; exact h) | cases h)
   · simp only [VR] at hx hy
     obtain ⟨xs, rfl, hx⟩ := hx
     obtain ⟨ys, rfl, hy⟩ := hy
     simp only [eqv]
     split at h
     · rename_i hu
       simp only [hu]
       split at h
       · cases h
       · rename_i hs
         rw [if_neg hs]
         exact tEqFs_sound h hx hy
     · cases h
   · simp only [VR] at hx hy; subst hx; subst hy; (simp only [eqv]; split at h <;> first | (rename_i hu; simp only [hu]; exact h) | cases h)
   · simp only [VR] at hx hy; subst hx; obtain ⟨_, _, _, _, rfl⟩ := hy; (simp only [eqv]; split at h <;> first | (rename_i hu; simp only [hu]; exact h) | cases h)
   · simp only [VR] at hx hy; subst hx; obtain ⟨_, rfl, _⟩ := hy; (simp only [eqv]; split at h <;> first | (rename_i hu; simp only [hu]; exact h) | cases h)
   · simp only [VR] at hx hy; subst hy; obtain ⟨_, _, _, _, rfl⟩ := hx; (simp only [eqv]; split at h <;> first | (rename_i hu; simp only [hu]; exact h) | cases h)
   · simp only [VR] at hx hy; subst hy; obtain ⟨_, rfl, _⟩ := hx; (simp only [eqv]; split at h <;> first | (rename_i hu; simp only [hu]; exact h) | cases h)
   · simp only [VR] at hx hy; subst hx; subst hy; (simp only [eqv]; split at h <;> first | (rename_i hu; simp only [hu]; exact h) | cases h)
   · simp only [VR] at hx hy; subst hx; subst hy; (simp only [eqv]; split at h <;> first | (rename_i hu; simp only [hu]; exact h) | cases h)
   · simp only [VR] at hx hy; subst hx; obtain ⟨_, _, rfl, _⟩ := hy; (simp only [eqv]; split at h <;> first | (rename_i hu; simp only [hu]; exact h) | cases h)
   · simp only [VR] at hx hy; subst hy; obtain ⟨_, _, rfl, _⟩ := hx; (simp only [eqv]; split at h <;> first | (rename_i hu; simp only [hu]; exact h) | cases h)
   · simp only [VR] at hx hy; subst hx; obtain ⟨_, rfl, _⟩ := hy; (simp only [eqv]; split at h <;> first | (rename_i hu; simp only [hu]; exact h) | cases h)
   · simp only [VR] at hx hy; subst hy; obtain ⟨_, rfl, _⟩ := hx; (simp only [eqv]; split at h <;> first | (rename_i hu; simp only [hu]; exact h) | cases h)
   · cases h
theorem tEqFs_sound : ∀ {d : Nat} {fs : List Field} {xs ys : List (TV D.T)} {vx vy : List V} {b : Bool}, tEqFs P d fs xs ys = some b → VRL D ρ lv xs vx → VRL D ρ lv ys vy → eqFs P d fs vx vy = some b
 | 0, fs, xs, ys, vx, vy, b, h, hx, hy => by simp [tEqFs] at h
 | d + 1, [], xs, ys, vx, vy, b, h, hx, hy => by simpa only [eqFs, tEqFs] using h
 | d + 1, f :: fs, xs, ys, vx, vy, b, h, hx, hy => by
   simp only [tEqFs] at h
   simp only [eqFs]
   split at h
   · rename_i hf
     rw [if_pos hf]
     exact tEqFs_sound h hx hy
   · rename_i hf
     rw [if_neg hf]
     split at h
     · rename_i a c ha hc
       obtain ⟨va, k1, k2⟩ := tRd_sound hx ha
       obtain ⟨vc, k3, k4⟩ := tRd_sound hy hc
       rw [k1, k3]
       split at h
       · rename_i r s hr hs
         simp only [tEqv_sound hr k2 k4, tEqFs_sound hs hx hy]
         exact h
       · cases h
     · cases h
end
theorem tEq_pair {t : Nat} {x y : TV D.T} {vx vy : V} {b : Bool} (h : tEqv P 24 t x y = some b) (ho : (x.odd && tPlainEq P t x y) = true) (hx : VR D ρ lv x vx) (hy : VR D ρ lv y vy) :
  (∀ k k' a c, vx = .int k a → vy = .int k' c → False) ∧ (∀ a c, vx = .str a → vy = .str c → False) ∧ (vx.odd && plainEq P t vx vy) = true := by
 simp only [tEqv] at h
 split at h <;> (try simp only [TV.odd, tPlainEq, Bool.and_eq_true, Bool.false_eq_true, false_and, true_and, Bool.and_true, Bool.and_false, Bool.true_and] at ho) <;> (try simp only [VR] at hx hy)
 ·subst hx; subst hy; exact ⟨by simp, by simp, rfl⟩
 ·obtain ⟨xs, rfl, hx⟩ := hx
  obtain ⟨ys, rfl, hy⟩ := hy
  exact ⟨by simp, by simp, by simpa [V.odd, plainEq] using ho⟩
 ·subst hx; subst hy; exact ⟨by simp, by simp, rfl⟩
 ·subst hx; obtain ⟨_, _, _, _, rfl⟩ := hy; exact ⟨by simp, by simp, rfl⟩
 ·subst hx; obtain ⟨_, rfl, _⟩ := hy; exact ⟨by simp, by simp, rfl⟩
 ·subst hy; obtain ⟨_, _, _, _, rfl⟩ := hx; exact ⟨by simp, by simp, rfl⟩
 ·subst hy; obtain ⟨_, rfl, _⟩ := hx; exact ⟨by simp, by simp, rfl⟩
 ·subst hx; subst hy; exact ⟨by simp, by simp, rfl⟩
 ·subst hx; subst hy; exact ⟨by simp, by simp, rfl⟩
 ·subst hx; obtain ⟨_, _, rfl, _⟩ := hy; exact ⟨by simp, by simp, rfl⟩
 ·subst hy; obtain ⟨_, _, rfl, _⟩ := hx; exact ⟨by simp, by simp, rfl⟩
 ·subst hx; obtain ⟨_, rfl, _⟩ := hy; exact ⟨by simp, by simp, rfl⟩
 ·subst hy; obtain ⟨_, rfl, _⟩ := hx; exact ⟨by simp, by simp, rfl⟩
 ·cases h
theorem bnd_of {α : Type} {o : Option α} {β : Type} {f : α → Option β} {r : β} (h : pBind o f = some r) : ∃ x, o = some x ∧ f x = some r := bnd_hi h
theorem pBin_eql {t : Nat} {x y : V} {b : Bool} (h1 : ∀ k k' a c, x = .int k a → y = .int k' c → False) (h2 : ∀ a c, x = .str a → y = .str c → False) (h3 : (x.odd && plainEq P t x y) = true) (h4 : eqv P 24 t x y = some b) : pBin P .eql t x y = some (.bool b) := by
 unfold pBin
 split
 ·exact (h1 _ _ _ _ rfl rfl).elim
 ·exact (h2 _ _ rfl rfl).elim
 ·simp only; rw [if_pos h3, h4]; rfl
theorem pBin_neq {t : Nat} {x y : V} {b : Bool} (h1 : ∀ k k' a c, x = .int k a → y = .int k' c → False) (h2 : ∀ a c, x = .str a → y = .str c → False) (h3 : (x.odd && plainEq P t x y) = true) (h4 : eqv P 24 t x y = some b) : pBin P .neq t x y = some (.bool (!b)) := by
 unfold pBin
 split
 ·exact (h1 _ _ _ _ rfl rfl).elim
 ·exact (h2 _ _ rfl rfl).elim
 ·simp only; rw [if_pos h3, h4]; rfl
theorem tBin_sound {R : Type} {op : BinOp} {t : Nat} {x y : TV D.T} {vx vy : V} {k : TV D.T → Option R} {r : R} (h : tBin P op t x y k = some r) (hx : VR D ρ lv x vx) (hy : VR D ρ lv y vy) :
  ∃ z v, pBin P op t vx vy = some v ∧ VR D ρ lv z v ∧ k z = some r := by
 unfold tBin at h
 split at h
 ·rename_i i a i' b
  simp only [VR] at hx hy; subst hx; subst hy
  split at h
  ·obtain ⟨z, h1, h2⟩ := bnd_of h
   unfold shl at h1
   split at h1
   ·cases h1
   ·rename_i hb
    injection h1 with h1; subst h1
    exact ⟨_, _, by simp only [pBin]; rw [if_neg hb], by simp only [VR], h2⟩
  ·obtain ⟨z, h1, h2⟩ := bnd_of h
   unfold shr at h1
   split at h1
   ·cases h1
   ·rename_i hb
    injection h1 with h1; subst h1
    exact ⟨_, _, by simp only [pBin]; rw [if_neg hb], by simp only [VR], h2⟩
  ·rename_i hn1 hn2
   split at h
   ·rename_i hi
    subst hi
    have key : ∀ v, intBin op i a b = some v → pBin P op t (.int i a) (.int i b) = some v := fun v hv => by
     unfold pBin
     cases op <;> first | exact (hn1 rfl).elim | exact (hn2 rfl).elim | (simp only [if_true]; exact hv)
    split at h
    all_goals first
     | (refine ⟨_, _, key _ rfl, by simp only [VR], h⟩; done)
     | skip
    ·obtain ⟨z, h1, h2⟩ := bnd_of h
     obtain ⟨h3, rfl⟩ := quo_some h1
     exact ⟨_, _, key _ (by simp only [intBin]; rw [if_neg h3]), by simp only [VR], h2⟩
    ·obtain ⟨z, h1, h2⟩ := bnd_of h
     obtain ⟨h3, rfl⟩ := rem_some h1
     exact ⟨_, _, key _ (by simp only [intBin]; rw [if_neg h3]), by simp only [VR], h2⟩
    ·cases h
   ·cases h
 ·rename_i a b
  simp only [VR] at hx hy; subst hx; subst hy
  split at h
  ·obtain ⟨z, h1, h2⟩ := bnd_of h
   obtain ⟨h3, rfl⟩ := cat_some h1
   exact ⟨_, _, by simp only [pBin, strBin]; rw [if_pos h3], by simp only [VR], h2⟩
  ·exact ⟨_, _, rfl, by simp only [VR], h⟩
  ·exact ⟨_, _, rfl, by simp only [VR], h⟩
  ·exact ⟨_, _, rfl, by simp only [VR], h⟩
  ·exact ⟨_, _, rfl, by simp only [VR], h⟩
  ·exact ⟨_, _, rfl, by simp only [VR], h⟩
  ·exact ⟨_, _, rfl, by simp only [VR], h⟩
  ·cases h
 ·split at h
  ·split at h
   ·rename_i ho
    split at h
    ·rename_i b hb
     obtain ⟨h1, h2, h3⟩ := tEq_pair hb ho hx hy
     exact ⟨_, _, pBin_eql h1 h2 h3 (tEqv_sound hb hx hy), by simp only [VR], h⟩
    ·cases h
   ·cases h
  ·split at h
   ·rename_i ho
    split at h
    ·rename_i b hb
     obtain ⟨h1, h2, h3⟩ := tEq_pair hb ho hx hy
     exact ⟨_, _, pBin_neq h1 h2 h3 (tEqv_sound hb hx hy), by simp only [VR], h⟩
    ·cases h
   ·cases h
  ·cases h
variable (hD : D.Ok P)
include hD
omit hD in
theorem ix_rel {t : DTy} {xs : List (t.S D.T)} {ws : List V} (hl : ws.length = xs.length) (h : ∀ (j : Nat) (x : t.S D.T) (w : V), xs[j]? = some x → ws[j]? = some w → DR D t x w) {n : Int} {y : t.S D.T} (hy : ix xs n = some y) : 0 ≤ n ∧ n.toNat < ws.length ∧ ∃ w, ws[n.toNat]? = some w ∧ DR D t y w := by
 obtain ⟨h1, h2⟩ := ix_some hy
 have hlt : n.toNat < ws.length := by rw [hl]; exact (List.getElem?_eq_some_iff.1 h2).1
 exact ⟨h1, hlt, ws[n.toNat], List.getElem?_eq_getElem hlt, h _ _ _ h2 (List.getElem?_eq_getElem hlt)⟩
omit hD in
theorem idxSplit_some {R : Type} {r : R} : ∀ {len : Nat} {n : Int} {f : Nat → Option R}, 0 ≤ n → n < (len : Int) → idxSplit len n f = some r → ∃ m, m < len ∧ n = Int.ofNat m ∧ f m = some r
 | 0, _, _, _, _, h => by cases h
 | 1, n, f, h0, h1, h => ⟨0, by omega, by simp only [Int.ofNat_eq_natCast]; omega, h⟩
 | len + 2, n, f, h0, h1, h => by
   simp only [idxSplit] at h
   rw [pIf_ite] at h
   split at h
   · rename_i hc; exact ⟨len + 1, by omega, by simpa using hc, h⟩
   · rename_i hc
     have hne : n ≠ ((len + 1 : Nat) : Int) := by simpa using hc
     obtain ⟨m, h2, h3, h4⟩ := idxSplit_some h0 (by omega) h
     exact ⟨m, by omega, h3, h4⟩
omit hD in
theorem tIdxArr_sound {R : Type} {t len e : Nat} {ik : IntKind} {H : Heap} {x : TV D.T} {vx : V} {k : TV D.T → Option R} {r : R} {m : Nat} (hu : P.underlying t = some (.array len e)) (h : tIdxArr P len e x k m = some r) (hx : VR D ρ lv x vx) :
  ∃ z v, pIndexAddr P H t vx (.int ik (Int.ofNat m)) = some v ∧ VR D ρ lv z v ∧ k z = some r := by
 unfold tIdxArr at h
 split at h
 ·rename_i hc
  have hn0 : (0 : Int) ≤ Int.ofNat m := Int.natCast_nonneg m
  have hlt : Int.ofNat m < (len : Int) := Int.ofNat_lt.2 hc.1
  split at h
  ·rename_i cs off
   simp only [VR] at hx
   obtain ⟨vs, rfl, hv⟩ := hx
   exact ⟨_, .ref vs (off + m * P.cellsOf e), by unfold pIndexAddr; simp only; rw [if_pos hn0, hu]; simp only; rw [if_pos ⟨hlt, hc.2⟩]; rfl, by simp only [VR]; exact ⟨vs, rfl, hv⟩, h⟩
  ·rename_i s off
   simp only [VR] at hx
   obtain ⟨sl, j, h1, h2, rfl⟩ := hx
   exact ⟨_, .ptr lv j (off + m * P.cellsOf e), by unfold pIndexAddr; simp only; rw [if_pos hn0, hu]; simp only; rw [if_pos ⟨hlt, hc.2⟩]; rfl, by simp only [VR]; exact ⟨sl, j, h1, h2, rfl⟩, h⟩
  ·rename_i s τ i' x' off
   simp only [VR] at hx
   obtain ⟨sl, w, h1, h2, h3, h4, h5⟩ := hx
   cases hk : sl.k with
   | none =>
     rw [hk] at h5; simp only at h5; subst h5
     exact ⟨_, .ref w.cells (off + m * P.cellsOf e), by unfold pIndexAddr; simp only; rw [if_pos hn0, hu]; simp only; rw [if_pos ⟨hlt, hc.2⟩]; rfl, by simp only [VR]; exact ⟨sl, w, h1, h2, h3, h4, by rw [hk]⟩, h⟩
   | some j =>
     rw [hk] at h5
     obtain ⟨ver, n, e1, rfl⟩ := h5
     exact ⟨_, .ap lv j ver i'.toNat (off + m * P.cellsOf e), by unfold pIndexAddr; simp only; rw [if_pos hn0, hu]; simp only; rw [if_pos ⟨hlt, hc.2⟩]; rfl, by simp only [VR]; exact ⟨sl, w, h1, h2, h3, h4, by rw [hk]; exact ⟨ver, n, e1, rfl⟩⟩, h⟩
  ·cases h
 ·cases h
theorem tIndexAddr_sound {R : Type} (hR : TRr D F ρ ts σ) {t : Nat} {x i : TV D.T} {vx vi : V} {k : TV D.T → Option R} {r : R} (h : tIndexAddr P D ts t x i k = some r) (hx : VR D ρ F.lv x vx) (hi : VR D ρ F.lv i vi) :
  ∃ z v, pIndexAddr P σ.H t vx vi = some v ∧ VR D ρ F.lv z v ∧ k z = some r := by
 unfold tIndexAddr at h
 split at h
 ·rename_i ik n
  simp only [VR] at hi; subst hi
  split at h
  ·rename_i e hu
   split at h
   ·rename_i he
    split at h
    ·rename_i τ xs fl
     split at h
     ·rename_i hz
      obtain ⟨y, hy, h⟩ := bnd_of h
      simp only [VR] at hx
      obtain ⟨hx, _⟩ := hx
      cases hx with
      | nil => obtain ⟨_, h2⟩ := ix_some hy; simp at h2
      | sl _ _ ws full hl hh =>
        obtain ⟨h1, h2, w, h3, h4⟩ := ix_rel hl hh hy
        refine ⟨_, .ref w.cells 0, ?_, ?_, h⟩
        · rw [pIndexAddr_sl, if_pos h1, hu]
          simp only
          rw [if_pos ⟨hz, he⟩, h3]; rfl
        · simp only [VR]; exact ⟨_, rfl, VR.tvCells hD h4⟩
     ·cases h
    ·rename_i s
     split at h
     ·rename_i ty τ xs w ho
      split at h
      ·rename_i hz
       obtain ⟨y, hy, h⟩ := bnd_of h
       simp only [VR] at hx
       obtain ⟨sl, h1, rfl, hleaf⟩ := hx
       obtain ⟨sl', k1, k2⟩ := hR.ob _ _ ho
       rw [h1] at k1; injection k1 with k1; subst k1
       simp only [OR] at k2
       obtain ⟨q1, q2, q3⟩ := k2
       obtain ⟨p1, p2, u, p3, p4⟩ := ix_rel q1 q2 hy
       cases hk : sl.k with
       | none =>
         rw [hk] at q3
         rcases q3 with ⟨e1, e2⟩ | ⟨e1, e2⟩
         · rw [e2] at p3; simp at p3
         · refine ⟨_, .ref u.cells 0, ?_, ?_, h⟩
           · rw [e1.1, pIndexAddr_sl, if_pos p1, hu]
             simp only
             rw [if_pos ⟨hz, he⟩, p3]; rfl
           · simp only [VR]; exact ⟨sl, u, h1, p1, p3, p4, by rw [hk]⟩
       | some j =>
         rw [hk] at q3
         obtain ⟨ver, cp, e1, e2⟩ := q3
         refine ⟨_, .ap F.lv j ver n.toNat 0, ?_, ?_, h⟩
         · rw [e1]
           unfold pIndexAddr
           simp only
           rw [if_pos p1, hu]
           simp only [hR.get e2]
           rw [if_pos ⟨trivial, hz, he, by omega⟩]; simp
         · simp only [VR]; exact ⟨sl, u, h1, p1, p3, p4, by rw [hk]; exact ⟨ver, _, e1, by simp⟩⟩
      ·cases h
     ·cases h
    ·cases h
   ·cases h
  ·rename_i len e hu
   split at h
   ·obtain ⟨_, hr, h⟩ := bnd_of h
    unfold inR at hr
    split at hr
    ·rename_i hc
     obtain ⟨m, hm, rfl, h2⟩ := idxSplit_some hc.1 hc.2 h
     exact tIdxArr_sound hu h2 hx
    ·cases hr
   ·split at h
    ·exact tIdxArr_sound hu h hx
    ·cases h
  ·cases h
 ·cases h
omit hD in
theorem asDs_len {t : DTy} : ∀ {cs : List (TV D.T)} {xs : List (t.S D.T)}, asDs D t cs = .ok xs → xs.length = cs.length
 | [], xs, h => by simp only [asDs] at h; injection h with h; subst h; rfl
 | c :: cs, xs, h => by
   simp only [asDs] at h
   split at h
   · split at h
     · rename_i ys hys; injection h with h; subst h; simp [asDs_len hys]
     · cases h
     · cases h
   · cases h
   · cases h
theorem tIndex_sound {R : Type} {t : Nat} {x i : TV D.T} {vx vi : V} {k : TV D.T → Option R} {r : R} (h : tIndex P D t x i k = some r) (hx : VR D ρ lv x vx) (hi : VR D ρ lv i vi) :
  ∃ z v, pIndex P t vx vi = some v ∧ VR D ρ lv z v ∧ k z = some r := by
 unfold tIndex at h
 split at h
 ·rename_i ik n
  simp only [VR] at hi; subst hi
  split at h
  ·rename_i s
   simp only [VR] at hx; subst hx
   split at h
   ·rename_i hu
    obtain ⟨b, hb, h⟩ := bnd_of h
    obtain ⟨h1, h2⟩ := ix_some hb
    refine ⟨_, .int .u8 b.toNat, ?_, by simp only [VR], h⟩
    unfold pIndex; simp only; rw [if_pos h1, hu]; simp only [h2]; rfl
   ·cases h
  ·rename_i cs
   simp only [VR] at hx
   obtain ⟨vs, rfl, hx⟩ := hx
   split at h
   ·rename_i len e hu
    split at h
    ·rename_i τ hτ
     split at h
     ·rename_i hc
      obtain ⟨c1, c2, c3, c4⟩ := hc
      split at h
      ·split at h
       ·rename_i xs hxs
        obtain ⟨y, hy, h⟩ := bnd_of h
        obtain ⟨k1, k2⟩ := asDs_sound hD hxs hx
        obtain ⟨p1, p2, u, p3, p4⟩ := ix_rel k1 k2 hy
        have hlen : vs.length = len := by rw [k1, asDs_len hxs, c1]
        refine ⟨_, u, ?_, VR.leaf p4, h⟩
        unfold pIndex; simp only; rw [if_pos p1, hu]; simp only
        rw [if_pos ⟨by omega, c3⟩, c2, Nat.mul_one]
        unfold rd
        rw [Option.any_eq_true] at c4
        obtain ⟨d, hd, hag⟩ := c4
        rw [hd]
        cases d <;> first | exact p3 | (simp [TypeDesc.isAgg] at hag)
       ·cases h
      ·cases h
     ·cases h
    ·cases h
   ·cases h
  ·cases h
 ·cases h
omit hD in
theorem bnd_ok {d n : Nat} {o : Option (TV D.T)} {l : Int} {vo : Option V} (hd : d ≤ n) (h : tBnd D (d : Int) o = some l) (hv : ∀ x, o = some x → ∃ v, vo = some v ∧ VR D ρ lv x v) (hn : o = none → vo = none) (h0 : 0 ≤ l) (hl : l ≤ n) : bnd n d vo = some l.toNat := by
 unfold tBnd at h
 split at h
 ·injection h with h; subst h; rw [hn rfl]; simp [bnd]
 ·rename_i ik x
  injection h with h; subst h
  obtain ⟨v, e1, e2⟩ := hv _ rfl
  simp only [VR] at e2
  subst e2
  rw [e1]
  simp only [bnd]; rw [if_pos ⟨h0, hl⟩]
 ·cases h
omit hD in
theorem tSlice_sound {R : Type} {t : Nat} {x : TV D.T} {lo hi : Option (TV D.T)} {vx : V} {vlo vhi : Option V} {k : TV D.T → Option R} {kf : Nat → Option R} {r : R} (h : tSlice P D t x lo hi k kf = some r) (hx : VR D ρ lv x vx)
  (hlo : ∀ y, lo = some y → ∃ v, vlo = some v ∧ VR D ρ lv y v) (hlo0 : lo = none → vlo = none) (hhi : ∀ y, hi = some y → ∃ v, vhi = some v ∧ VR D ρ lv y v) (hhi0 : hi = none → vhi = none) (H : Heap) :
  (∃ z v, pSlice P H t vx vlo vhi none = some v ∧ VR D ρ lv z v ∧ k z = some r) ∨ ∃ s, kf s = some r := by
 unfold tSlice at h
 have bounds : ∀ {n : Nat} {l q : Int}, tBnd D 0 lo = some l → tBnd D (n : Int) hi = some q → 0 ≤ l → l ≤ q → q ≤ n → bounds3 n vlo vhi none = some (l.toNat, q.toNat, none) := fun {n l q} hl hq h1 h2 h3 => by
  simp only [bounds3]
  rw [bnd_ok (Nat.le_refl n) hq hhi hhi0 (by omega) h3]
  simp only [Option.bind_some]
  rw [bnd_ok (d := 0) (n := q.toNat) (Nat.zero_le _) hl hlo hlo0 h1 (by omega)]
  rfl
 split at h
 ·rename_i s
  simp only [VR] at hx; subst hx
  split at h
  ·rename_i hu
   split at h
   ·rename_i l q hl hq
    obtain ⟨y, hy, h⟩ := bnd_of h
    obtain ⟨h1, h2, h3, rfl, _⟩ := sub_some hy
    left
    exact ⟨_, .str ((s.take q.toNat).drop l.toNat), by simp only [pSlice, hu, bounds hl hq h1 h2 h3, Option.map_some], by simp only [VR], h⟩
   ·cases h
  ·cases h
 ·rename_i τ xs fl
  simp only [VR] at hx
  obtain ⟨hx, hf1, hf2⟩ := hx
  split at h
  ·rename_i e hu
   split at h
   ·rename_i hz
    split at h
    ·rename_i l q hl hq
     obtain ⟨y, hy, h⟩ := bnd_of h
     obtain ⟨h1, h2, h3, rfl, _⟩ := sub_some hy
     left
     cases hx with
     | nil =>
       refine ⟨_, .nils, ?_, ?_, h⟩
       · have hb : bounds3 0 vlo vhi none = some (l.toNat, q.toNat, none) := bounds hl hq h1 h2 h3
         simp only [pSlice, hu]; rw [if_pos hz.2, hb]; rfl
       · simp only [VR]
         refine ⟨by simp only [List.take_nil, List.drop_nil]; exact .nil τ, fun hfl => ?_, fun hfl => by simp⟩
         have : 1 ≤ fl := by
           split at hfl
           · omega
           · omega
         obtain ⟨ws, hw⟩ := hf1 this
         cases hw
     | sl _ _ ws full hlw hh =>
       refine ⟨_, .sl (D.len τ) ((ws.take q.toNat).drop l.toNat) (full && q.toNat == ws.length), ?_, ?_, h⟩
       rotate_left
       · simp only [VR]
         refine ⟨.sl τ _ ((ws.take q.toNat).drop l.toNat) (full && q.toNat == ws.length) (by simp [hlw]) fun j x w hx hw => ?_, fun hfl => ?_, fun hfl => ?_⟩
         · rw [List.getElem?_drop, List.getElem?_take] at hx hw
           split at hx
           · rw [if_pos ‹_›] at hw; exact hh _ _ _ hx hw
           · cases hx
         · have hfl' : hi = none ∧ 1 ≤ fl := by
             split at hfl
             · exact ⟨by first | assumption | rfl, by omega⟩
             · omega
           obtain ⟨ws', hw'⟩ := hf1 hfl'.2
           injection hw' with _ _ hw'
           subst hw'
           have hqn : q = xs.length := by
             rw [hfl'.1] at hq
             simp only [tBnd, Option.some.injEq] at hq
             exact hq.symm
           refine ⟨(ws.take q.toNat).drop l.toNat, ?_⟩
           have : (q.toNat == ws.length) = true := by rw [hqn, hlw]; simp
           rw [this]; rfl
         · exfalso
           split at hfl
           · omega
           · omega
       · have hb : bounds3 ws.length vlo vhi none = some (l.toNat, q.toNat, none) := by rw [hlw]; exact bounds hl hq h1 h2 h3
         simp only [pSlice, hu]; rw [if_pos hz, hb]; simp
    ·cases h
   ·cases h
  ·cases h
 ·exact .inr ⟨_, h⟩
 ·cases h
omit hD in
theorem TRr.oev (hR : TRr D F ρ ts σ) {o : Option Operand} {x : Option (TV D.T)} (h : oev D ts o = some x) : (∀ y, x = some y → ∃ v, o.map σ.ev = some v ∧ VR D ρ F.lv y v) ∧ (x = none → o.map σ.ev = none) := by
 cases o with
 | none => simp only [Go.Ab.oev, Option.some.injEq] at h; subst h; exact ⟨by simp, fun _ => rfl⟩
 | some o =>
   simp only [Go.Ab.oev, Option.map_eq_some_iff] at h
   obtain ⟨y, hy, rfl⟩ := h
   exact ⟨fun z hz => by injection hz with hz; subst hz; exact ⟨_, rfl, hR.ev hy⟩, by simp⟩
theorem tP_sound {R : Type} (hR : TRr D F ρ ts σ) {op : Op} {k : TV D.T → Option R} {kf : Nat → Option R} {r : R} (h : tP P D ts op k kf = some r) :
  (∃ x v, pv P σ.H σ.ev op = some v ∧ VR D ρ F.lv x v ∧ k x = some r) ∨ ∃ s, kf s = some r := by
 unfold tP at h
 split at h
 ·rename_i c a b
  split at h
  ·rename_i t x y hc hx hy
   have h1 := hR.ev hc
   simp only [VR] at h1
   left
   rw [pIf_ite] at h
   split at h
   ·rename_i ht; exact ⟨x, _, by simp only [pv, h1]; rw [if_pos ht], hR.ev hx, h⟩
   ·rename_i ht; exact ⟨y, _, by simp only [pv, h1]; rw [if_neg ht], hR.ev hy, h⟩
  ·cases h
 ·split at h
  ·rename_i hx hy
   left
   obtain ⟨z, v, h1, h2, h3⟩ := tBin_sound h (hR.ev hx) (hR.ev hy)
   exact ⟨z, v, h1, h2, h3⟩
  ·cases h
 ·split at h
  ·rename_i hx hy
   left
   obtain ⟨z, v, h1, h2, h3⟩ := tIndexAddr_sound hD hR h (hR.ev hx) (hR.ev hy)
   exact ⟨z, v, h1, h2, h3⟩
  ·cases h
 ·split at h
  ·rename_i hx hy
   left
   obtain ⟨z, v, h1, h2, h3⟩ := tIndex_sound hD h (hR.ev hx) (hR.ev hy)
   exact ⟨z, v, h1, h2, h3⟩
  ·cases h
 ·split at h
  ·rename_i hx hlo hhi
   obtain ⟨a1, a2⟩ := hR.oev hlo
   obtain ⟨b1, b2⟩ := hR.oev hhi
   exact tSlice_sound h (hR.ev hx) a1 a2 b1 b2 σ.H
  ·cases h
 ·split at h
  ·rename_i v hv
   obtain ⟨u, h1, h2⟩ := tP1_sound hD hR hv
   exact .inl ⟨v, u, h1, h2, h⟩
  ·exact .inr ⟨_, h⟩
  ·cases h
end
end Go.Ab


namespace Go.Ab
open Go
set_option linter.unusedVariables false
set_option linter.unusedSimpArgs false
set_option linter.unusedSectionVars false
section
variable {P : Program} {D : Dat} {F : Fr} {ρ : List Slot} {ts : TS D.T} {σ : St} {lv : Nat}
theorem OR.mono {L L' : List (Option AObj)} {sl : Slot} {o : TO D.T} (h : OR D ρ lv L sl o) (e : List Slot) (hL : ∀ i, sl.k = some i → o.live → L'[i]? = L[i]?) : OR D (ρ ++ e) lv L' sl o := by
 cases o with
 | cells cs =>
   simp only [OR] at h ⊢
   obtain ⟨i, vs, h1, h2, h3⟩ := h
   exact ⟨i, vs, h1, by rw [hL i h1 trivial]; exact h2, h3.more e⟩
 | acc ty t xs w =>
   simp only [OR] at h ⊢
   obtain ⟨h1, h2, h3⟩ := h
   refine ⟨h1, h2, ?_⟩
   cases hk : sl.k with
   | none => rw [hk] at h3; exact h3
   | some i =>
     rw [hk] at h3
     obtain ⟨ver, cp, k1, k2⟩ := h3
     exact ⟨ver, cp, k1, by rw [hL i hk trivial]; exact k2⟩
 | siter s pos =>
   simp only [OR] at h ⊢
   obtain ⟨i, h1, h2⟩ := h
   exact ⟨i, h1, by rw [hL i h1 trivial]; exact h2⟩
 | bld ty b =>
   simp only [OR] at h ⊢
   obtain ⟨i, a, c, h1, h2, h3, h4⟩ := h
   exact ⟨i, a, c, h1, by rw [hL i h1 trivial]; exact h2, h3, VR.more e h4⟩
 | gone => simp only [OR]
theorem OR.at {L : List (Option AObj)} {sl : Slot} {o : TO D.T} {i : Nat} (h : OR D ρ lv L sl o) (hl : o.live) (hk : sl.k = some i) : ∃ a, L[i]? = some (some a) := by
 cases o with
 | cells cs =>
   simp only [OR] at h
   obtain ⟨i', vs, h1, h2, h3⟩ := h
   rw [hk] at h1; injection h1 with h1; subst h1
   exact ⟨_, h2⟩
 | acc ty t xs w =>
   simp only [OR] at h
   obtain ⟨h1, h2, h3⟩ := h
   rw [hk] at h3
   obtain ⟨ver, cp, k1, k2⟩ := h3
   exact ⟨_, k2⟩
 | siter s pos =>
   simp only [OR] at h
   obtain ⟨i', h1, h2⟩ := h
   rw [hk] at h1; injection h1 with h1; subst h1
   exact ⟨_, h2⟩
 | bld ty b =>
   simp only [OR] at h
   obtain ⟨i', a, c, h1, h2, h3⟩ := h
   rw [hk] at h1; injection h1 with h1; subst h1
   exact ⟨_, h2⟩
 | gone => exact hl.elim
theorem OR.lt {L : List (Option AObj)} {sl : Slot} {o : TO D.T} {i : Nat} (h : OR D ρ lv L sl o) (hl : o.live) (hk : sl.k = some i) : i < L.length := by
 obtain ⟨a, ha⟩ := h.at hl hk
 exact (List.getElem?_eq_some_iff.1 ha).1
theorem TRr.new (hR : TRr D F ρ ts σ) (to : TO D.T) (sl : Slot) (H' : Heap) (hlv : H'.lv = F.lv) (hE : H'.E = F.E) (hlen : σ.H.L.length ≤ H'.L.length) (hL : ∀ i, i < σ.H.L.length → H'.L[i]? = σ.H.L[i]?)
  (hk : ∀ i, sl.k = some i → σ.H.L.length ≤ i) (hor : OR D (ρ ++ [sl]) F.lv H'.L sl to) : TRr D F (ρ ++ [sl]) (ts.new D to) { σ with H := H' } := by
 have hget : (ρ ++ [sl])[ts.nx]? = some sl := by rw [← hR.nx]; simp
 have old : ∀ s o sl', fnd ts.o s = some o → ρ[s]? = some sl' → ∀ i, sl'.k = some i → o.live → i < σ.H.L.length := fun s o sl' ho hs i hi hl => by
  obtain ⟨q, h1, h2⟩ := hR.ob s o ho
  rw [hs] at h1; injection h1 with h1; subst h1
  exact h2.lt hl hi
 have hlk : ∀ s o, ts.nx ≠ s → fnd (ts.new D to).o s = some o → fnd ts.o s = some o := fun s o hne h => by
  simp only [TS.new, fnd_cons, if_neg hne] at h; exact h
 have hslot : ∀ s o sl', fnd ts.o s = some o → (ρ ++ [sl])[s]? = some sl' → ρ[s]? = some sl' := fun s o sl' ho h => by
  obtain ⟨q, h1, h2⟩ := hR.ob s o ho
  rw [lookup_append h1] at h; rw [h1, h]
 refine ⟨by simp [TS.new, hR.nx], hR.nt, fun j x hj => ?_, fun s o ho => ?_, fun s s' o o' sl1 sl2 i h1 h2 l1 l2 r1 r2 k1 k2 => ?_, fun s o sl1 i h1 l1 r1 k1 => ?_, hlv, hE, hR.e0, hR.d.more _, fun i hi => ?_, fun j sl hj => lookup_append (hR.pin j sl hj)⟩
 ·obtain ⟨v, h1, h2⟩ := hR.tm j x hj
  exact ⟨v, h1, h2.more _⟩
 ·by_cases hs : ts.nx = s
  ·subst hs
   simp only [TS.new, fnd_cons, if_true, Option.some.injEq] at ho
   subst ho
   exact ⟨sl, hget, hor⟩
  ·obtain ⟨q, h1, h2⟩ := hR.ob s o (hlk s o hs ho)
   exact ⟨q, lookup_append h1, h2.mono _ fun i hi hl => hL i (h2.lt hl hi)⟩
 ·by_cases hs : ts.nx = s <;> by_cases hs' : ts.nx = s'
  ·rw [← hs, ← hs']
  ·subst hs
   rw [hget] at r1; injection r1 with r1; subst r1
   have hq := hlk s' o' hs' h2
   have := old s' o' sl2 hq (hslot s' o' sl2 hq r2) i k2 l2
   have := hk i k1
   omega
  ·subst hs'
   rw [hget] at r2; injection r2 with r2; subst r2
   have hq := hlk s o hs h1
   have := old s o sl1 hq (hslot s o sl1 hq r1) i k1 l1
   have := hk i k2
   omega
  ·have q1 := hlk s o hs h1
   have q2 := hlk s' o' hs' h2
   exact hR.inj s s' o o' sl1 sl2 i q1 q2 l1 l2 (hslot s o sl1 q1 r1) (hslot s' o' sl2 q2 r2) k1 k2
 ·by_cases hs : ts.nx = s
  ·subst hs
   rw [hget] at r1; injection r1 with r1; subst r1
   intro ho
   have := (hR.out i ho).1
   have := hk i k1
   omega
  ·have q1 := hlk s o hs h1
   exact hR.mine s o sl1 i q1 l1 (hslot s o sl1 q1 r1) k1
 ·obtain ⟨h1, h2⟩ := hR.out i hi
  exact ⟨Nat.lt_of_lt_of_le h1 hlen, (hL i h1).trans h2⟩
theorem TRr.upd (hR : TRr D F ρ ts σ) {s i : Nat} {o0 : TO D.T} {sl : Slot} (hs : fnd ts.o s = some o0) (hl : o0.live) (hr : ρ[s]? = some sl) (hk : sl.k = some i) (to : TO D.T) (ao : AObj)
  (hor : OR D ρ F.lv (σ.H.L.set i (some ao)) sl to) : TRr D F ρ (ts.set D s to) { σ with H := { σ.H with L := σ.H.L.set i (some ao) } } := by
 have hlk : ∀ s' o, s ≠ s' → fnd (ts.set D s to).o s' = some o → fnd ts.o s' = some o := fun s' o hne h => by
  simp only [TS.set, fnd_cons, if_neg hne] at h; exact h
 have live' : ∀ s' o, fnd (ts.set D s to).o s' = some o → o.live → ∃ o', fnd ts.o s' = some o' ∧ o'.live := fun s' o h l => by
  by_cases he : s = s'
  ·subst he; exact ⟨o0, hs, hl⟩
  ·exact ⟨o, hlk s' o he h, l⟩
 refine ⟨hR.nx, hR.nt, hR.tm, fun s' o ho => ?_, fun s1 s2 o1 o2 sl1 sl2 i' h1 h2 l1 l2 r1 r2 k1 k2 => ?_, fun s1 o1 sl1 i1 h1 l1 r1 k1 => ?_, hR.lv, hR.E, hR.e0, hR.d, fun j hj => ?_, hR.pin⟩
 ·by_cases he : s = s'
  ·subst he
   simp only [TS.set, fnd_cons, if_true, Option.some.injEq] at ho
   subst ho
   exact ⟨sl, hr, hor⟩
  ·have hq := hlk s' o he ho
   obtain ⟨q, h1, h2⟩ := hR.ob s' o hq
   refine ⟨q, h1, ?_⟩
   have := h2.mono (L' := σ.H.L.set i (some ao)) [] fun j hj hl' => ?_
   ·simpa using this
   ·have hne : i ≠ j := fun e => by
     subst e
     exact he (hR.inj s s' o0 o sl q i hs hq hl hl' hr h1 hk hj)
    rw [List.getElem?_set_ne hne]
 ·obtain ⟨o1', q1, l1'⟩ := live' s1 o1 h1 l1
  obtain ⟨o2', q2, l2'⟩ := live' s2 o2 h2 l2
  exact hR.inj s1 s2 o1' o2' sl1 sl2 i' q1 q2 l1' l2' r1 r2 k1 k2
 ·obtain ⟨o1', q1, l1'⟩ := live' s1 o1 h1 l1
  exact hR.mine s1 o1' sl1 i1 q1 l1' r1 k1
 ·obtain ⟨h1, h2⟩ := hR.out j hj
  refine ⟨by simpa using h1, ?_⟩
  have hne : i ≠ j := fun e => by subst e; exact hR.mine s o0 sl i hs hl hr hk hj
  show (σ.H.L.set i (some ao))[j]? = _
  rw [List.getElem?_set_ne hne]; exact h2
theorem TRr.move (hR : TRr D F ρ ts σ) {s i : Nat} {o0 : TO D.T} {sl : Slot} (hs : fnd ts.o s = some o0) (hl : o0.live) (hr : ρ[s]? = some sl) (hk : sl.k = some i) (to : TO D.T) (ao : AObj) (sl' : Slot) (hk' : sl'.k = some i)
  (hor : OR D (ρ ++ [sl']) F.lv (σ.H.L.set i (some ao)) sl' to) : TRr D F (ρ ++ [sl']) ((ts.new D to).set D s .gone) { σ with H := { σ.H with L := σ.H.L.set i (some ao) } } := by
 have hget : (ρ ++ [sl'])[ts.nx]? = some sl' := by rw [← hR.nx]; simp
 have hsn : s ≠ ts.nx := fun e => by
  have := (List.getElem?_eq_some_iff.1 hr).1
  rw [hR.nx, e] at this; omega
 have hlk : ∀ s' o, o.live → fnd ((ts.new D to).set D s .gone).o s' = some o → s ≠ s' ∧ ((ts.nx = s' ∧ o = to) ∨ (ts.nx ≠ s' ∧ fnd ts.o s' = some o)) := fun s' o hlo h => by
  by_cases he : s = s'
  ·subst he
   simp only [TS.set, fnd_cons, if_true, Option.some.injEq] at h
   subst h; exact hlo.elim
  ·simp only [TS.set, TS.new, fnd_cons, if_neg he] at h
   by_cases hn : ts.nx = s'
   ·rw [if_pos hn] at h; injection h with h; exact ⟨he, .inl ⟨hn, h.symm⟩⟩
   ·rw [if_neg hn] at h; exact ⟨he, .inr ⟨hn, h⟩⟩
 have hslot : ∀ s o sl1, fnd ts.o s = some o → (ρ ++ [sl'])[s]? = some sl1 → ρ[s]? = some sl1 := fun s o sl1 ho h => by
  obtain ⟨q, h1, h2⟩ := hR.ob s o ho
  rw [lookup_append h1] at h; rw [h1, h]
 refine ⟨by simp [TS.new, TS.set, hR.nx], hR.nt, fun j x hj => ?_, fun s' o ho => ?_, fun s1 s2 o1 o2 sl1 sl2 i' h1 h2 l1 l2 r1 r2 k1 k2 => ?_, fun s1 o1 sl1 i1 h1 l1 r1 k1 => ?_, hR.lv, hR.E, hR.e0, hR.d.more _, fun j hj => ?_, fun j sl hj => lookup_append (hR.pin j sl hj)⟩
 ·obtain ⟨v, h1, h2⟩ := hR.tm j x hj
  exact ⟨v, h1, h2.more _⟩
 ·by_cases hlo : o.live
  ·rcases (hlk s' o hlo ho).2 with ⟨hn, rfl⟩ | ⟨hn, hq⟩
   ·subst hn; exact ⟨sl', hget, hor⟩
   ·obtain ⟨q, h1, h2⟩ := hR.ob s' o hq
    refine ⟨q, lookup_append h1, h2.mono [sl'] fun j hj hl' => ?_⟩
    have hne : i ≠ j := fun e => by
     subst e
     exact (hlk s' o hlo ho).1 (hR.inj s s' o0 o sl q i hs hq hl hl' hr h1 hk hj)
    rw [List.getElem?_set_ne hne]
  ·have hg : o = .gone := by cases o <;> first | rfl | exact (hlo trivial).elim
   subst hg
   by_cases he : s = s'
   ·subst he; exact ⟨sl, lookup_append hr, by simp only [OR]⟩
   ·simp only [TS.set, TS.new, fnd_cons, if_neg he] at ho
    by_cases hn : ts.nx = s'
    ·subst hn; exact ⟨sl', hget, by simp only [OR]⟩
    ·rw [if_neg hn] at ho
     obtain ⟨q, h1, h2⟩ := hR.ob s' _ ho
     exact ⟨q, lookup_append h1, by simp only [OR]⟩
 ·obtain ⟨n1, c1⟩ := hlk s1 o1 l1 h1
  obtain ⟨n2, c2⟩ := hlk s2 o2 l2 h2
  rcases c1 with ⟨e1, rfl⟩ | ⟨e1, q1⟩ <;> rcases c2 with ⟨e2, rfl⟩ | ⟨e2, q2⟩
  ·rw [← e1, ← e2]
  ·subst e1
   rw [hget] at r1; injection r1 with r1; subst r1
   rw [hk'] at k1; injection k1 with k1; subst k1
   exact (n2 (hR.inj s s2 o0 o2 sl sl2 i hs q2 hl l2 hr (hslot _ _ _ q2 r2) hk k2)).elim
  ·subst e2
   rw [hget] at r2; injection r2 with r2; subst r2
   rw [hk'] at k2; injection k2 with k2; subst k2
   exact (n1 (hR.inj s s1 o0 o1 sl sl1 i hs q1 hl l1 hr (hslot _ _ _ q1 r1) hk k1)).elim
  ·exact hR.inj s1 s2 o1 o2 sl1 sl2 i' q1 q2 l1 l2 (hslot _ _ _ q1 r1) (hslot _ _ _ q2 r2) k1 k2
 ·obtain ⟨n1, c1⟩ := hlk s1 o1 l1 h1
  rcases c1 with ⟨e1, rfl⟩ | ⟨e1, q1⟩
  ·subst e1
   rw [hget] at r1; injection r1 with r1; subst r1
   rw [hk'] at k1; injection k1 with k1; subst k1
   exact hR.mine s o0 sl i hs hl hr hk
  ·exact hR.mine s1 o1 sl1 i1 q1 l1 (hslot _ _ _ q1 r1) k1
 ·obtain ⟨h1, h2⟩ := hR.out j hj
  refine ⟨by simpa using h1, ?_⟩
  have hne : i ≠ j := fun e => by subst e; exact hR.mine s o0 sl i hs hl hr hk hj
  show (σ.H.L.set i (some ao))[j]? = _
  rw [List.getElem?_set_ne hne]; exact h2
theorem TRr.drop (hR : TRr D F ρ ts σ) (s : Nat) (hs : s < ts.nx) : TRr D F ρ (ts.set D s .gone) σ := by
 have hlk : ∀ s' o, o.live → fnd (ts.set D s .gone).o s' = some o → fnd ts.o s' = some o := fun s' o hl h => by
  simp only [TS.set, fnd_cons] at h
  split at h
  ·injection h with h; subst h; exact hl.elim
  ·exact h
 refine ⟨hR.nx, hR.nt, hR.tm, fun s' o ho => ?_, fun s1 s2 o1 o2 sl1 sl2 i' h1 h2 l1 l2 => hR.inj s1 s2 o1 o2 sl1 sl2 i' (hlk _ _ l1 h1) (hlk _ _ l2 h2) l1 l2, fun s1 o1 sl1 i1 h1 l1 => hR.mine s1 o1 sl1 i1 (hlk _ _ l1 h1) l1, hR.lv, hR.E, hR.e0, hR.d, hR.out, hR.pin⟩
 simp only [TS.set, fnd_cons] at ho
 split at ho
 ·rename_i he
  injection ho with ho; subst ho; subst he
  have : s < ρ.length := by rw [hR.nx]; exact hs
  exact ⟨ρ[s], List.getElem?_eq_getElem this, by simp only [OR]⟩
 ·exact hR.ob s' o ho
mutual
theorem VR.ren {s s' : Nat} {sl sl' : Slot} (h1 : ρ[s]? = some sl) (h2 : ρ[s']? = some sl') (he : sl'.v = sl.v) : ∀ {x : TV D.T} {v : V}, VR D ρ lv x v → VR D ρ lv (TV.ren D s s' x) v
 | .own j, v, h => by
   simp only [TV.ren]
   split
   · rename_i hj
     subst hj
     simp only [VR] at h ⊢
     obtain ⟨q, k1, k2, k3⟩ := h
     rw [h1] at k1; injection k1 with k1; subst k1
     exact ⟨sl', h2, by rw [he]; exact k2, k3⟩
   · exact h
 | .agg cs, v, h => by simp only [TV.ren, VR] at h ⊢; obtain ⟨vs, k1, k2⟩ := h; exact ⟨vs, k1, VRL.ren h1 h2 he k2⟩
 | .tup cs, v, h => by simp only [TV.ren, VR] at h ⊢; obtain ⟨vs, k1, k2⟩ := h; exact ⟨vs, k1, VRL.ren h1 h2 he k2⟩
 | .any, v, h => by simpa only [TV.ren] using h
 | .bool b, v, h => by simpa only [TV.ren] using h
 | .int k n, v, h => by simpa only [TV.ren] using h
 | .str b, v, h => by simpa only [TV.ren] using h
 | .nilp, v, h => by simpa only [TV.ren] using h
 | .nils, v, h => by simpa only [TV.ren] using h
 | .mapn, v, h => by simpa only [TV.ren] using h
 | .nilf, v, h => by simpa only [TV.ren] using h
 | .nili, v, h => by simpa only [TV.ren] using h
 | .sl t xs fl, v, h => by simpa only [TV.ren] using h
 | .ptr j off, v, h => by simpa only [TV.ren] using h
 | .bp j off, v, h => by simpa only [TV.ren] using h
 | .osl j lo, v, h => by simpa only [TV.ren] using h
 | .map j, v, h => by simpa only [TV.ren] using h
 | .ref cs off, v, h => by simpa only [TV.ren] using h
 | .ap j t i x off, v, h => by simpa only [TV.ren] using h
 | .fn f a b, v, h => by simpa only [TV.ren] using h
 | .iface t x, v, h => by simpa only [TV.ren] using h
theorem VRL.ren {s s' : Nat} {sl sl' : Slot} (h1 : ρ[s]? = some sl) (h2 : ρ[s']? = some sl') (he : sl'.v = sl.v) : ∀ {cs : List (TV D.T)} {vs : List V}, VRL D ρ lv cs vs → VRL D ρ lv (TV.renL D s s' cs) vs
 | [], vs, h => by simpa only [TV.renL] using h
 | c :: cs, vs, h => by simp only [TV.renL, VRL] at h ⊢; obtain ⟨v, r, k1, k2, k3⟩ := h; exact ⟨v, r, k1, VR.ren h1 h2 he k2, VRL.ren h1 h2 he k3⟩
end
theorem TRr.mapV (hR : TRr D F ρ ts σ) (f : TV D.T → TV D.T) (hf : ∀ x v, VR D ρ F.lv x v → VR D ρ F.lv (f x) v) : TRr D F ρ (ts.mapV D f) σ := by
 have hlive : ∀ o : TO D.T, (TO.map D f o).live → o.live := fun o h => by cases o <;> first | exact h | trivial
 have hob : ∀ s o, fnd (ts.mapV D f).o s = some o → ∃ o', fnd ts.o s = some o' ∧ o = TO.map D f o' := fun s o h => by
  simp only [TS.mapV] at h
  rw [fnd_map (TO.map D f), Option.map_eq_some_iff] at h
  obtain ⟨o', h1, h2⟩ := h
  exact ⟨o', h1, h2.symm⟩
 refine ⟨hR.nx, hR.nt, fun j x hj => ?_, fun s o ho => ?_, fun s1 s2 o1 o2 sl1 sl2 i h1 h2 l1 l2 => ?_, fun s1 o1 sl1 i h1 l1 => ?_, hR.lv, hR.E, hR.e0, hR.d.imp _ (fun xs vs k => VRL.of (by simp [k.length]) fun j c v hc hv => by
  rw [List.getElem?_map, Option.map_eq_some_iff] at hc
  obtain ⟨c0, hc0, rfl⟩ := hc
  exact hf _ _ (k.get2 hc0 hv)), hR.out, hR.pin⟩
 ·simp only [TS.mapV] at hj
  rw [fnd_map f, Option.map_eq_some_iff] at hj
  obtain ⟨y, hy, rfl⟩ := hj
  obtain ⟨v, h1, h2⟩ := hR.tm j y hy
  exact ⟨v, h1, hf _ _ h2⟩
 ·obtain ⟨o', h1, rfl⟩ := hob s o ho
  obtain ⟨sl, k1, k2⟩ := hR.ob s o' h1
  refine ⟨sl, k1, ?_⟩
  cases o' with
  | cells cs =>
    simp only [TO.map, OR] at k2 ⊢
    obtain ⟨i, vs, q1, q2, q3⟩ := k2
    refine ⟨i, vs, q1, q2, .of (by simp [q3.length]) fun j c v hc hv => ?_⟩
    rw [List.getElem?_map, Option.map_eq_some_iff] at hc
    obtain ⟨c', hc', rfl⟩ := hc
    exact hf _ _ (q3.get2 hc' hv)
  | acc ty t xs w => exact k2
  | siter s pos => exact k2
  | bld ty b =>
    cases b with
    | none => exact k2
    | some q =>
      simp only [OR] at k2
      obtain ⟨i, a, c, q1, q2, q3, q4⟩ := k2
      have h5 : VR D ρ F.lv (f (.own q)) c := hf _ _ q4
      simp only [TO.map]
      split
      · rename_i s' hs'
        rw [hs'] at h5
        simp only [OR]
        exact ⟨i, a, c, q1, q2, q3, h5⟩
      · simp only [OR]
  | gone => exact k2
 ·obtain ⟨o1', q1, rfl⟩ := hob s1 o1 h1
  obtain ⟨o2', q2, rfl⟩ := hob s2 o2 h2
  exact hR.inj s1 s2 o1' o2' sl1 sl2 i q1 q2 (hlive _ l1) (hlive _ l2)
 ·obtain ⟨o1', q1, rfl⟩ := hob s1 o1 h1
  exact hR.mine s1 o1' sl1 i q1 (hlive _ l1)
theorem TRr.put (hR : TRr D F ρ ts σ) {dst : Option Nat} {x : TV D.T} {v : V} {ts' : TS D.T} (h : ts.put D dst x = some ts') (hx : VR D ρ F.lv x v) : TRr D F ρ ts' (σ.put dst v) := by
 cases dst with
 | none => simp only [TS.put, Option.some.injEq] at h; subst h; exact hR
 | some d =>
   simp only [TS.put] at h
   split at h
   · rename_i hd
     injection h with h; subst h
     refine ⟨hR.nx, by simp [St.put, hR.nt], fun j y hj => ?_, hR.ob, hR.inj, hR.mine, hR.lv, hR.E, hR.e0, hR.d, hR.out, hR.pin⟩
     rw [fnd_cons] at hj
     simp only [St.put]
     split at hj
     · rename_i he
       injection hj with hj; subst hj; subst he
       exact ⟨v, by rw [List.getElem?_set_self (by rw [hR.nt]; exact hd)], hx⟩
     · rename_i he
       obtain ⟨u, h1, h2⟩ := hR.tm j y hj
       exact ⟨u, by rw [List.getElem?_set_ne he]; exact h1, h2⟩
   · cases h
theorem TRr.tell (hR : TRr D F ρ ts σ) {d : Nat} {x : TV D.T} {v : V} (h : σ.t[d]? = some v) (hx : VR D ρ F.lv x v) : TRr D F ρ { ts with t := (d, x) :: ts.t } σ := by
 refine ⟨hR.nx, hR.nt, fun j y hj => ?_, hR.ob, hR.inj, hR.mine, hR.lv, hR.E, hR.e0, hR.d, hR.out, hR.pin⟩
 rw [fnd_cons] at hj
 split at hj
 ·rename_i he; injection hj with hj; subst hj; subst he; exact ⟨v, h, hx⟩
 ·exact hR.tm j y hj
end
end Go.Ab


namespace Go.Ab
open Go
set_option linter.unusedVariables false
set_option linter.unusedSimpArgs false
set_option linter.unusedSectionVars false
section
variable {P : Program} {D : Dat} {F : Fr} {ρ : List Slot} {ts : TS D.T} {σ : St} {lv : Nat}
theorem ox_of_pv {H : Heap} {f : Operand → V} {op : Op} {v : V} (h : pv P H f op = some v) : ox P H f op = some (v, H) := by
 cases op
 case call c =>
  simp only [pv] at h
  unfold ox
  simp only
  split
  ·rename_i hcal; simp [pBuiltin, hcal] at h
  ·rename_i hcal; simp [pBuiltin, hcal] at h
  ·rw [h]; rfl
 all_goals first
  | (unfold ox; simp only [h, Option.map_some]; done)
  | (simp [pv] at h; done)
theorem heap_eta (H : Heap) (hlv : H.lv = F.lv) (hE : H.E = F.E) : H = ⟨F.lv, H.L, F.E⟩ := by cases H; simp only at hlv hE; subst hlv; subst hE; rfl
theorem TRr.setH (hR : TRr D F ρ ts σ) (i : Nat) (o : AObj) : σ.H.set F.lv i o = { σ.H with L := σ.H.L.set i (some o) } := by
 unfold Heap.set; rw [if_pos hR.lv.symm]
variable (hD : D.Ok P)
include hD
theorem TRr.newCells (hR : TRr D F ρ ts σ) {cs : List (TV D.T)} {vs : List V} (h : VRL D ρ F.lv cs vs) :
  TRr D F (ρ ++ [⟨.any, some σ.H.L.length, []⟩]) (ts.new D (.cells cs)) { σ with H := σ.H.push (.cells vs) } ∧ VR D (ρ ++ [⟨.any, some σ.H.L.length, []⟩]) F.lv (.ptr ts.nx 0) (.ptr σ.H.lv σ.H.L.length 0) := by
 refine ⟨hR.new _ _ _ hR.lv hR.E (by simp [Heap.push]) (fun i hi => by simp only [Heap.push]; rw [List.getElem?_append_left hi]) (fun i hi => by injection hi with hi; omega) ?_, ?_⟩
 ·simp only [OR]
  exact ⟨σ.H.L.length, vs, rfl, by simp [Heap.push], h.more _⟩
 ·simp only [VR]
  exact ⟨⟨.any, some σ.H.L.length, []⟩, σ.H.L.length, by rw [← hR.nx]; simp, rfl, by rw [hR.lv]⟩
omit hD in
theorem DR.one {t : DTy} {x : t.S D.T} {v : V} (h : DR D t x v) (ht : ∀ i, t ≠ .st i) (hn : t ≠ .nat) : v.cells = [v] ∧ v.leaf = true ∧ (∀ c, withCells v [c] = c) ∧ ∀ c : V, c.leaf = true → fits v [c] = true := by
 cases h with
 | st => exact (ht _ rfl).elim
 | enc => exact (ht _ rfl).elim
 | nat => exact (hn rfl).elim
 | _ => exact ⟨rfl, rfl, fun _ => rfl, fun c hc => hc⟩
theorem DR.withCells {t : DTy} {y z : t.S D.T} {w vx : V} {x : TV D.T} {off : Nat} (hw : DR D t y w) (hx : VR D ρ lv x vx) (hsol : x.solid = true) (hoff : off + x.cells.length ≤ (D.tv t y).cells.length)
  (hz : asD D t (match D.tv t y with | .agg cs' => .agg (tsplice cs' off x.cells) | _ => x) = .ok z) (ht : t ≠ .nat) :
  DR D t z (Go.Ab.withCells w (splice w.cells off vx.cells)) ∧ fits w (splice w.cells off vx.cells) = true ∧ off + vx.cells.length ≤ w.cells.length := by
 have hc := VR.tvCells (ρ := ρ) (lv := lv) hD hw
 have hxc := hx.cells hsol
 have hlen := hxc.length
 have hlen2 := hc.length
 refine ⟨?_, ?_, by omega⟩
 all_goals
  by_cases hst : ∃ i, t = .st i
  ·obtain ⟨i, rfl⟩ := hst
   obtain ⟨us, rfl, k1, k2⟩ := DR.agg hD hw
   first
    | rfl
    | (simp only [Dat.tv] at hz
       refine asD_sound (ρ := ρ) (lv := lv) hD hz ?_
       simp only [Go.Ab.withCells, VR]
       exact ⟨_, rfl, VRL.splice (by simpa [Dat.tv, TV.cells, V.cells] using hc) hxc off⟩)
  ·have hne : ∀ i, t ≠ .st i := fun i e => hst ⟨i, e⟩
   have hnagg : (match D.tv t y with | .agg cs' => TV.agg (tsplice cs' off x.cells) | _ => x) = x := by
    cases t with
    | st i => exact (hne i rfl).elim
    | _ => rfl
   rw [hnagg] at hz
   have hd := asD_sound hD hz hx
   obtain ⟨a1, a2, a3, a4⟩ := hw.one hne ht
   obtain ⟨b1, b2, b3, b4⟩ := hd.one hne ht
   have l1 : w.cells.length = 1 := by rw [a1]; rfl
   have l2 : vx.cells.length = 1 := by rw [b1]; rfl
   have hoff0 : off = 0 := by omega
   subst hoff0
   rw [a1, b1]
   have : splice [w] 0 [vx] = [vx] := rfl
   rw [this]
   first
    | (rw [a3]; exact hd)
    | exact a4 _ b2
theorem tStore_sound {R : Type} (hR : TRr D F ρ ts σ) {t : Nat} {a x : TV D.T} {va vx : V} {k : TV D.T → TS D.T → Option R} {kf : Nat → Option R} {r : R} (h : tStore P D ts t a x k kf = some r) (ha : VR D ρ F.lv a va) (hx : VR D ρ F.lv x vx) :
  (∃ z ts' v H' ρ', hStore P σ.H t va vx = some (v, H') ∧ VR D ρ' F.lv z v ∧ TRr D F ρ' ts' { σ with H := H' } ∧ k z ts' = some r) ∨ ∃ s, kf s = some r := by
 unfold tStore at h
 split at h
 ·rename_i hc
  simp only [Bool.and_eq_true, beq_iff_eq] at hc
  obtain ⟨⟨c1, c2⟩, c3⟩ := hc
  have hcells := hx.cells c1
  have hcond : (vx.solid && (P.info? t).isSome && vx.cells.length == P.cellsOf t) = true := by
   simp only [Bool.and_eq_true, beq_iff_eq]; exact ⟨⟨hx.solid c1, c2⟩, by rw [← hcells.length]; exact c3⟩
  split at h
  ·rename_i s off
   simp only [VR] at ha
   obtain ⟨sl, i, h1, h2, rfl⟩ := ha
   split at h
   ·rename_i cs ho
    split at h
    ·rename_i hoff
     left
     obtain ⟨sl', k1, k2⟩ := hR.ob s _ ho
     rw [h1] at k1; injection k1 with k1; subst k1
     simp only [OR] at k2
     obtain ⟨i', vs, q1, q2, q3⟩ := k2
     rw [h2] at q1; injection q1 with q1; subst q1
     have hlt := (List.getElem?_eq_some_iff.1 q2).1
     refine ⟨.any, _, .any, σ.H.set F.lv i (.cells (splice vs off vx.cells)), ρ, ?_, by simp only [VR], ?_, h⟩
     ·unfold hStore
      rw [if_pos hcond]
      simp only [hR.get q2]
      rw [if_pos (by rw [← hcells.length, ← q3.length]; exact hoff)]
     ·rw [hR.setH]
      exact hR.upd ho trivial h1 h2 _ _ (by simp only [OR]; exact ⟨i, _, h2, by simp [hlt], q3.splice hcells off⟩)
    ·cases h
   ·cases h
  ·rename_i s τ i y off
   simp only [VR] at ha
   obtain ⟨sl, w, h1, h2, h3, h4, h5⟩ := ha
   split at h
   ·rename_i ty τ' xs ho
    split at h
    ·rename_i hoff
     obtain ⟨sl', k1, k2⟩ := hR.ob s _ ho
     rw [h1] at k1; injection k1 with k1; subst k1
     simp only [OR] at k2
     obtain ⟨q1, q2, q3⟩ := k2
     obtain ⟨rfl, hnat, hoff⟩ := hoff
     split at h
     ·rename_i z hz
      left
      obtain ⟨d1, d2, d3⟩ := DR.withCells hD h4 hx c1 hoff hz hnat
      cases hk : sl.k with
      | none =>
        rw [hk] at q3
        rcases q3 with ⟨e1, e2⟩ | ⟨e1, e2⟩
        · rw [e2] at h3; simp at h3
        · rw [e2 trivial] at h3; simp at h3
      | some j =>
        rw [hk] at q3 h5
        obtain ⟨ver, cp, e1, e2⟩ := q3
        obtain ⟨ver', n, e3, rfl⟩ := h5
        rw [e1] at e3; injection e3 with _ _ e3 _ e4; subst e3; subst e4
        have hlt := (List.getElem?_eq_some_iff.1 e2).1
        have hit := (List.getElem?_eq_some_iff.1 h3).1
        let ws' := sl.ws.set i.toNat (Go.Ab.withCells w (splice w.cells off vx.cells))
        let sl' : Slot := ⟨sl.v, some j, ws'⟩
        have hor : OR D (ρ ++ [sl']) F.lv (σ.H.L.set j (some (.arr ver ty (D.len τ) ws' cp))) sl' (.acc ty τ (xs.set i.toNat z) true) := by
          simp only [OR]
          refine ⟨by simp [sl', ws', q1], fun a x' v' ha hv' => ?_, ver, cp, by simp [sl', ws', e1], by simp [sl', hlt]⟩
          simp only [sl', ws'] at hv'
          by_cases hia : i.toNat = a
          · subst hia
            rw [List.getElem?_set_self (by rw [← q1]; exact hit)] at ha
            rw [List.getElem?_set_self hit] at hv'
            injection ha with ha; injection hv' with hv'; subst ha; subst hv'
            exact d1
          · rw [List.getElem?_set_ne hia] at ha hv'
            exact q2 a x' v' ha hv'
        have hm := hR.move ho trivial h1 hk (.acc ty τ (xs.set i.toNat z) true) (.arr ver ty (D.len τ) ws' cp) sl' rfl hor
        refine ⟨.any, _, .any, σ.H.set F.lv j (.arr ver ty (D.len τ) ws' cp), ρ ++ [sl'], ?_, by simp only [VR], ?_, h⟩
        · unfold hStore
          rw [if_pos hcond]
          simp only [hR.get e2, if_true, h3]
          rw [if_pos ⟨d3, d2⟩]
        · rw [hR.setH]
          have := hm.mapV (TV.ren D s ts.nx) fun x v hxv => VR.ren (lookup_append h1) (sl' := sl') (by rw [← hR.nx]; simp) rfl hxv
          exact this
     ·exact .inr ⟨_, h⟩
     ·cases h
    ·cases h
   ·cases h
  ·rename_i s
   simp only [VR] at ha
   obtain ⟨sl, i, h1, h2, rfl⟩ := ha
   split at h
   ·rename_i ty b q ho
    left
    obtain ⟨sl', k1, k2⟩ := hR.ob s _ ho
    rw [h1] at k1; injection k1 with k1; subst k1
    simp only [OR] at k2
    obtain ⟨i', u, c, q1, q2, q3, q4⟩ := k2
    rw [h2] at q1; injection q1 with q1; subst q1
    have hlt := (List.getElem?_eq_some_iff.1 q2).1
    have hxl : vx.cells = [vx] := by
     have h3 := hx
     simp only [VR] at h3
     obtain ⟨_, _, _, h4⟩ := h3
     cases vx <;> first | rfl | (simp [V.leaf] at h4)
    refine ⟨.any, _, .any, σ.H.set F.lv i (.arr 0 ty 2 [.agg [u, vx]] (some 1)), ρ, ?_, by simp only [VR], ?_, h⟩
    ·unfold hStore
     rw [if_pos hcond]
     simp only [hR.get q2, if_true, List.getElem?_cons_zero]
     rw [if_pos (by rw [hxl]; exact ⟨by simp [V.cells], rfl⟩), hxl]
     rfl
    ·rw [hR.setH]
     exact hR.upd ho trivial h1 h2 _ _ (by simp only [OR]; exact ⟨i, u, vx, h2, by simp [hlt], q3, hx⟩)
   ·cases h
  ·cases h
 ·cases h
def DRL (D : Dat) (t : DTy) (xs : List (t.S D.T)) (ws : List V) : Prop := ws.length = xs.length ∧ ∀ (j : Nat) (x : t.S D.T) (w : V), xs[j]? = some x → ws[j]? = some w → DR D t x w
omit hD in
theorem DRL.append {t : DTy} {xs ys : List (t.S D.T)} {ws us : List V} (h : DRL D t xs ws) (k : DRL D t ys us) : DRL D t (xs ++ ys) (ws ++ us) := by
 refine ⟨by simp [h.1, k.1], fun j x w hx hw => ?_⟩
 rw [List.getElem?_append] at hx hw
 rw [h.1] at hw
 split at hx
 ·rw [if_pos ‹_›] at hw; exact h.2 j x w hx hw
 ·rw [if_neg ‹_›] at hw; exact k.2 _ x w hx hw
omit hD in
theorem DRL.nil (t : DTy) : DRL D t ([] : List (t.S D.T)) [] := ⟨rfl, fun j x w hx => by simp at hx⟩
omit hD in
theorem tSrc_sound (hR : TRr D F ρ ts σ) {τ : DTy} {x : TV D.T} {vx : V} {ys : List (τ.S D.T)} (h : tSrc D ts τ x = some ys) (hx : VR D ρ F.lv x vx) : ∃ us, srcOf σ.H (D.len τ) vx = some us ∧ DRL D τ ys us := by
 unfold tSrc at h
 split at h
 ·injection h with h; subst h
  simp only [VR] at hx; subst hx
  exact ⟨[], rfl, DRL.nil _⟩
 ·rename_i t xs fl
  obtain ⟨rfl, rfl⟩ := lcast_some h
  simp only [VR] at hx
  obtain ⟨hx, _⟩ := hx
  cases hx with
  | nil => exact ⟨[], rfl, DRL.nil _⟩
  | sl _ _ ws full hl hh => exact ⟨ws, by simp [srcOf, elemsOf], hl, hh⟩
 ·rename_i s
  split at h
  ·rename_i ty t xs w ho
   obtain ⟨rfl, rfl⟩ := lcast_some h
   simp only [VR] at hx
   obtain ⟨sl, h1, rfl, hleaf⟩ := hx
   obtain ⟨sl', k1, k2⟩ := hR.ob s _ ho
   rw [h1] at k1; injection k1 with k1; subst k1
   simp only [OR] at k2
   obtain ⟨q1, q2, q3⟩ := k2
   refine ⟨sl.ws, ?_, q1, q2⟩
   cases hk : sl.k with
   | none =>
     rw [hk] at q3
     rcases q3 with ⟨e1, e2⟩ | ⟨e1, e2⟩
     · rw [e1, e2]; rfl
     · rw [e1.1]; simp [srcOf, elemsOf]
   | some j =>
     rw [hk] at q3
     obtain ⟨ver, cp, e1, e2⟩ := q3
     rw [e1]
     simp [srcOf, elemsOf, hR.get e2]
  ·cases h
 ·rename_i s
  split at h
  ·injection h with h; subst h
   simp only [VR] at hx; subst hx
   refine ⟨s.map fun b => .int .u8 b.toNat, by simp [srcOf, Dat.len], ?_, fun j x w hx hw => ?_⟩
   ·rw [List.length_map]
    show s.length = (bytesI s).length
    rw [bytesI, List.length_map]
   ·replace hx : (s.map fun b => ((b.toNat : Nat) : Int))[j]? = some x := hx
    rw [List.getElem?_map] at hx hw
    cases hb : s[j]? with
    | none => rw [hb] at hx; cases hx
    | some b =>
      rw [hb] at hx hw
      injection hx with hx; injection hw with hw
      subst hx; subst hw
      exact .int .u8 _
  ·cases h
 ·cases h
omit hD in
theorem append_fresh (hR : TRr D F ρ ts σ) {τ : DTy} {e : Nat} {v : V} {xs ys : List (τ.S D.T)} {ws us : List V} {w : Bool} (hx : DRL D τ xs ws) (hy : DRL D τ ys us) (hroom : xs.length + ys.length ≤ roomB)
  (hv : (v = .nils ∧ ws = []) ∨ ((v = .sl (D.len τ) ws true ∧ τ ≠ .int .u8) ∧ (w = true → ws = []))) :
  ∃ v' H' sl', appendTo σ.H e (D.len τ) v us = some (v', H') ∧ v'.leaf = true ∧ sl'.v = v' ∧ TRr D F (ρ ++ [sl']) (ts.new D (.acc e τ (xs ++ ys) w)) { σ with H := H' } := by
 have hxy := hx.append hy
 cases us with
 | nil =>
   have hy0 : ys = [] := List.eq_nil_of_length_eq_zero (by rw [← hy.1]; rfl)
   subst hy0
   refine ⟨v, σ.H, ⟨v, none, ws⟩, ?_, ?_, rfl, ?_⟩
   · rcases hv with ⟨rfl, _⟩ | ⟨⟨rfl, _⟩, _⟩ <;> simp [appendTo]
   · rcases hv with ⟨rfl, _⟩ | ⟨⟨rfl, _⟩, _⟩ <;> rfl
   · have := hR.new (.acc e τ (xs ++ []) w) ⟨v, none, ws⟩ σ.H hR.lv hR.E (Nat.le_refl _) (fun _ _ => rfl) (by simp) (by simp only [OR, List.append_nil]; exact ⟨hx.1, hx.2, hv⟩)
     exact this
 | cons y r =>
   have hlen : ws.length + (y :: r).length ≤ roomB := by rw [hx.1, hy.1]; exact hroom
   refine ⟨.hs F.lv σ.H.L.length 0 0 (ws ++ y :: r).length false, σ.H.push (.arr 0 e (D.len τ) (ws ++ y :: r) none), ⟨.hs F.lv σ.H.L.length 0 0 (ws ++ y :: r).length false, some σ.H.L.length, ws ++ y :: r⟩, ?_, rfl, rfl, ?_⟩
   · rcases hv with ⟨rfl, rfl⟩ | ⟨⟨rfl, _⟩, _⟩
     · simp only [appendTo]; rw [if_pos (by simpa using hlen)]; simp [hR.lv]
     · simp only [appendTo, if_true]; rw [if_pos (by simpa using hlen)]; simp [hR.lv]
   · exact hR.new _ _ _ hR.lv hR.E (by simp [Heap.push]) (fun i hi => by simp only [Heap.push]; rw [List.getElem?_append_left hi]) (fun i hi => by injection hi with hi; omega)
       (by simp only [OR]; exact ⟨hxy.1, hxy.2, 0, none, rfl, by simp [Heap.push]⟩)
omit hD in
theorem tAppend_sound {R : Type} (hR : TRr D F ρ ts σ) {t u : Nat} {s x : TV D.T} {vs vx : V} {k : TV D.T → TS D.T → Option R} {r : R} (h : tAppend P D ts t u s x k = some r) (hs : VR D ρ F.lv s vs) (hx : VR D ρ F.lv x vx) :
  ∃ z ts' v H' ρ', hAppend P σ.H t u vs vx = some (v, H') ∧ VR D ρ' F.lv z v ∧ TRr D F ρ' ts' { σ with H := H' } ∧ k z ts' = some r := by
 unfold tAppend at h
 split at h
 ·rename_i e du hu hdu
  split at h
  ·rename_i i τ hi hτ
   split at h
   ·rename_i z hz
    split at h
    ·rename_i hc
     simp only [Bool.and_eq_true, beq_iff_eq, decide_eq_true_eq] at hc
     obtain ⟨⟨⟨⟨c1, c2⟩, c3⟩, c4⟩, c5⟩ := hc
     split at h
     ·rename_i ys xs w old hys hdst
      obtain ⟨zs, hzs, h⟩ := bnd_of h
      obtain ⟨hroom, rfl⟩ := ext_some hzs
      obtain ⟨us, hus, hyu⟩ := tSrc_sound hR hys hx
      have happ : ∀ v' H', appendTo σ.H e (D.len τ) vs us = some (v', H') → hAppend P σ.H t u vs vx = some (v', H') := fun v' H' ha => by
       unfold hAppend
       rw [hu, hdu]
       simp only [hi, hz]
       rw [← c5, hus]
       simp only
       rw [if_pos (by simp only [Bool.and_eq_true, beq_iff_eq, decide_eq_true_eq]; exact ⟨⟨⟨c1, by omega⟩, c3⟩, by omega⟩)]
       exact ha
      have own : ∀ (sl' : Slot) (v' : V), sl'.v = v' → v'.leaf = true → VR D (ρ ++ [sl']) F.lv (.own ts.nx) v' := fun sl' v' h1 h2 => by
       simp only [VR]
       exact ⟨sl', by rw [← hR.nx]; simp, h1.symm, h2⟩
      unfold tDst at hdst
      split at hdst
      ·simp only [Option.some.injEq, Prod.mk.injEq] at hdst
       obtain ⟨rfl, rfl, rfl⟩ := hdst
       simp only [VR] at hs
       subst hs
       obtain ⟨v', H', sl', a1, a2, a3, a4⟩ := append_fresh (e := e) hR (w := true) (DRL.nil τ) hyu hroom (.inl ⟨rfl, rfl⟩)
       exact ⟨_, _, v', H', _, happ _ _ a1, own sl' v' a3 a2, a4, h⟩
      ·by_cases hu8 : τ = .int .u8
       ·rw [if_pos hu8] at hdst; cases hdst
       rw [if_neg hu8, Option.map_eq_some_iff] at hdst
       obtain ⟨xs', hl, hdst⟩ := hdst
       simp only [Prod.mk.injEq] at hdst
       obtain ⟨rfl, rfl, rfl⟩ := hdst
       obtain ⟨rfl, rfl⟩ := lcast_some hl
       simp only [VR] at hs
       obtain ⟨hs, hf, _⟩ := hs
       obtain ⟨ws, rfl⟩ := hf (by omega)
       cases hs with
       | sl _ _ _ _ hl hh =>
         obtain ⟨v', H', sl', a1, a2, a3, a4⟩ := append_fresh (e := e) hR (w := false) ⟨hl, hh⟩ hyu hroom (.inr ⟨⟨rfl, hu8⟩, by simp⟩)
         exact ⟨_, _, v', H', _, happ _ _ a1, own sl' v' a3 a2, a4, h⟩
      ·by_cases hu8 : τ = .int .u8
       ·rw [if_pos hu8] at hdst; cases hdst
       rw [if_neg hu8, Option.map_eq_some_iff] at hdst
       obtain ⟨xs', hl, hdst⟩ := hdst
       simp only [Prod.mk.injEq] at hdst
       obtain ⟨rfl, rfl, rfl⟩ := hdst
       obtain ⟨rfl, rfl⟩ := lcast_some hl
       simp only [VR] at hs
       obtain ⟨hs, hf, hf2⟩ := hs
       obtain ⟨ws, rfl⟩ := hf (by omega)
       have hx0 := hf2 trivial
       cases hs with
       | sl _ _ _ _ hl hh =>
         obtain ⟨v', H', sl', a1, a2, a3, a4⟩ := append_fresh (e := e) hR (w := true) ⟨hl, hh⟩ hyu hroom (.inr ⟨⟨rfl, hu8⟩, fun _ => List.eq_nil_of_length_eq_zero (by rw [hl, hx0]; rfl)⟩)
         exact ⟨_, _, v', H', _, happ _ _ a1, own sl' v' a3 a2, a4, h⟩
      ·rename_i s
       split at hdst
       ·rename_i e' t' xs' w' ho
        split at hdst
        ·rename_i he
         subst he
         rw [Option.map_eq_some_iff] at hdst
         obtain ⟨xs'', hl, hdst⟩ := hdst
         simp only [Prod.mk.injEq] at hdst
         obtain ⟨rfl, rfl, rfl⟩ := hdst
         obtain ⟨rfl, rfl⟩ := lcast_some hl
         simp only [VR] at hs
         obtain ⟨sl, h1, rfl, hleaf⟩ := hs
         obtain ⟨sl', k1, k2⟩ := hR.ob s _ ho
         rw [h1] at k1; injection k1 with k1; subst k1
         simp only [OR] at k2
         obtain ⟨q1, q2, q3⟩ := k2
         have hsn : ∀ o, s < (ts.new D o).nx := fun o => by
          have := (List.getElem?_eq_some_iff.1 h1).1
          simp only [TS.new]; rw [← hR.nx]; omega
         cases hk : sl.k with
         | none =>
           rw [hk] at q3
           obtain ⟨v', H', sl', a1, a2, a3, a4⟩ := append_fresh (e := e') hR (w := w') ⟨q1, q2⟩ hyu hroom q3
           exact ⟨_, _, v', H', _, happ _ _ a1, own sl' v' a3 a2, a4.drop s (hsn _), h⟩
         | some j =>
           rw [hk] at q3
           obtain ⟨ver, cp, e1, e2⟩ := q3
           have hlt := (List.getElem?_eq_some_iff.1 e2).1
           have hxy := DRL.append ⟨q1, q2⟩ hyu
           have hlen : sl.ws.length + us.length ≤ roomB := by rw [q1, hyu.1]; exact hroom
           let sl' : Slot := ⟨.hs F.lv j (ver + 1) 0 (sl.ws ++ us).length false, some j, sl.ws ++ us⟩
           have hm := hR.move ho trivial h1 hk (.acc e' _ (_ ++ ys) w') (.arr (ver + 1) e' (D.len t') (sl.ws ++ us) none) sl' rfl
             (by simp only [OR]; exact ⟨hxy.1, hxy.2, ver + 1, none, rfl, by simp [sl', hlt]⟩)
           refine ⟨_, _, sl'.v, σ.H.set F.lv j (.arr (ver + 1) e' (D.len t') (sl.ws ++ us) none), _, happ _ _ ?_, own sl' sl'.v rfl rfl, by rw [hR.setH]; exact hm, h⟩
           rw [e1]
           simp only [appendTo, hR.get e2, true_and]
           rw [if_pos hlen]
           simp [sl']
        ·cases hdst
       ·cases hdst
      ·cases hdst
     ·cases h
    ·cases h
   ·cases h
  ·cases h
 ·cases h
omit hD in
theorem tNext_sound {R : Type} (hR : TRr D F ρ ts σ) {b : Bool} {x : TV D.T} {vx : V} {k : TV D.T → TS D.T → Option R} {r : R} (h : tNext D ts x b k = some r) (hx : VR D ρ F.lv x vx) :
  ∃ z ts' v H' ρ', hNext σ.H vx b = some (v, H') ∧ VR D ρ' F.lv z v ∧ TRr D F ρ' ts' { σ with H := H' } ∧ k z ts' = some r := by
 unfold tNext at h
 split at h
 ·rename_i s
  simp only [VR] at hx
  obtain ⟨sl, i, h1, h2, rfl⟩ := hx
  split at h
  ·rename_i l pos ho
   obtain ⟨sl', k1, k2⟩ := hR.ob s _ ho
   rw [h1] at k1; injection k1 with k1; subst k1
   simp only [OR] at k2
   obtain ⟨i', q1, q2⟩ := k2
   rw [h2] at q1; injection q1 with q1; subst q1
   have hlt := (List.getElem?_eq_some_iff.1 q2).1
   rw [pIf_ite] at h
   split at h
   ·rename_i hc
    have hc' : pos < l.length := of_decide_eq_true hc
    refine ⟨_, _, .tup [.bool true, .int .i64 pos, .int .i32 (decL l pos).1], σ.H.set F.lv i (.siter l (pos + (decL l pos).2)), ρ, ?_, ?_, ?_, h⟩
    ·simp only [hNext, hR.get q2]; rw [if_pos hc']
    ·simp only [VR, VRL]; exact ⟨_, rfl, _, _, rfl, rfl, _, _, rfl, rfl, _, _, rfl, rfl, rfl⟩
    ·rw [hR.setH]
     exact hR.upd ho trivial h1 h2 _ _ (by simp only [OR]; exact ⟨i, h2, by simp [hlt]⟩)
   ·rename_i hc
    have hc' : ¬ pos < l.length := fun h => hc (decide_eq_true h)
    refine ⟨_, _, .tup [.bool false], σ.H, ρ, ?_, ?_, hR, h⟩
    ·simp only [hNext, hR.get q2]; rw [if_neg hc']
    ·simp only [VR, VRL]; exact ⟨_, rfl, _, _, rfl, rfl, rfl⟩
  ·cases h
 ·cases h
omit hD in
theorem DRL.take {t : DTy} {xs : List (t.S D.T)} {ws : List V} (h : DRL D t xs ws) (n : Nat) : DRL D t (xs.take n) (ws.take n) := by
 refine ⟨by simp [h.1], fun j x w hx hw => ?_⟩
 rw [List.getElem?_take] at hx hw
 split at hx
 ·rename_i hj; rw [if_pos hj] at hw; exact h.2 j x w hx hw
 ·cases hx
omit hD in
theorem DRL.drop {t : DTy} {xs : List (t.S D.T)} {ws : List V} (h : DRL D t xs ws) (n : Nat) : DRL D t (xs.drop n) (ws.drop n) := by
 refine ⟨by simp [h.1], fun j x w hx hw => ?_⟩
 rw [List.getElem?_drop] at hx hw
 exact h.2 _ x w hx hw
omit hD in
theorem tCut_sound {R : Type} (hR : TRr D F ρ ts σ) {t : Nat} {x lo : TV D.T} {vx vlo : V} {k : TV D.T → Option R} {kf : Option R} {r : R} (h : tCut P D ts t x lo k kf = some r) (hx : VR D ρ F.lv x vx) (hlo : VR D ρ F.lv lo vlo) :
  (∃ z v, pSlice P σ.H t vx (some vlo) none none = some v ∧ VR D ρ F.lv z v ∧ k z = some r) ∨ kf = some r := by
 unfold tCut at h
 split at h
 ·rename_i s a
  split at h
  ·rename_i e ty τ xs hu ho
   split at h
   ·rename_i hc
    left
    obtain ⟨_, hcut, h⟩ := bnd_of h
    unfold cutO at hcut
    split at hcut
    ·rename_i hcut'
     obtain ⟨c1, c2, c3⟩ := hcut'
     simp only [VR] at hx hlo
     subst hlo
     obtain ⟨sl, h1, rfl, hleaf⟩ := hx
     obtain ⟨sl', k1, k2⟩ := hR.ob s _ ho
     rw [h1] at k1; injection k1 with k1; subst k1
     simp only [OR] at k2
     obtain ⟨q1, q2, q3⟩ := k2
     cases hk : sl.k with
     | none =>
       rw [hk] at q3
       rcases q3 with ⟨_, e2⟩ | ⟨_, e2⟩
       · rw [e2] at q1; simp at q1; omega
       · rw [e2 trivial] at q1; simp at q1; omega
     | some j =>
       rw [hk] at q3
       obtain ⟨ver, cp, e1, e2⟩ := q3
       have hp := slice_part (P := P) (n := sl.ws.length) hu hc.1 hc.2 (hR.get e2) (a := a) c1 (by omega)
       refine ⟨_, _, by rw [e1]; exact hp, ?_, h⟩
       simp only [VR]
       refine ⟨sl, j, ver, h1, hk, e1, c1, by omega, ?_⟩
       split
       · exact .inl rfl
       · exact .inr ⟨by omega, _, rfl⟩
    ·cases hcut
   ·cases h
  ·cases h
 ·exact .inr h
omit hD in
theorem tCopy_sound {R : Type} (hR : TRr D F ρ ts σ) {t : Nat} {d s : TV D.T} {vd vs : V} {k : TV D.T → TS D.T → Option R} {r : R} (h : tCopy P D ts t d s k = some r) (hd : VR D ρ F.lv d vd) (hs : VR D ρ F.lv s vs) :
  ∃ z ts' v H' ρ', hCopy P σ.H t vd vs = some (v, H') ∧ VR D ρ' F.lv z v ∧ TRr D F ρ' ts' { σ with H := H' } ∧ k z ts' = some r := by
 unfold tCopy at h
 split at h
 ·rename_i s a s' b
  split at h
  ·rename_i hss
   subst hss
   split at h
   ·rename_i e ty τ xs hu ho
    split at h
    ·rename_i hc
     obtain ⟨ys, hys, h⟩ := bnd_of h
     unfold shiftO at hys
     split at hys
     ·rename_i hb
      injection hys with hys
      obtain ⟨b1, b2, b3, b4⟩ := hb
      simp only [VR] at hd hs
      obtain ⟨sl, j, ver, d1, d2, d3, d4, d5, d6⟩ := hd
      obtain ⟨sl1, j1, ver1, f1, f2, f3, f4, f5, f6⟩ := hs
      rw [d1] at f1; injection f1 with f1; subst f1
      rw [d2] at f2; injection f2 with f2; subst f2
      rw [d3] at f3; injection f3 with _ _ f3; subst f3
      obtain ⟨sl', k1, k2⟩ := hR.ob s _ ho
      rw [d1] at k1; injection k1 with k1; subst k1
      simp only [OR] at k2
      obtain ⟨q1, q2, q3⟩ := k2
      rw [d2] at q3
      obtain ⟨ver', cp, e1, e2⟩ := q3
      rw [d3] at e1; injection e1 with _ _ e1; subst e1
      have hlt := (List.getElem?_eq_some_iff.1 e2).1
      have f6' : vs = .hs F.lv j ver b.toNat (sl.ws.length - b.toNat) false := by
       rcases f6 with f6 | ⟨f6, _⟩
       ·exact f6
       ·omega
      subst f6'
      let n := min (sl.ws.length - b.toNat) (sl.ws.length - a.toNat)
      let ws' := sl.ws.take a.toNat ++ ((sl.ws.drop b.toNat).take n ++ sl.ws.drop (a.toNat + n))
      let sl' : Slot := ⟨sl.v, some j, ws'⟩
      have hwl : ws'.length = sl.ws.length := by simp only [ws', n, List.length_append, List.length_take, List.length_drop]; omega
      have hdrl : DRL D τ ys ws' := by
       rw [← hys]
       simp only [ws', n, q1]
       exact (DRL.take ⟨q1, q2⟩ _).append (((DRL.drop ⟨q1, q2⟩ _).take _).append (DRL.drop ⟨q1, q2⟩ _))
      have hor : OR D (ρ ++ [sl']) F.lv (σ.H.L.set j (some (.arr ver ty (D.len τ) ws' cp))) sl' (.acc ty τ ys true) := by
       simp only [OR]
       refine ⟨hdrl.1, hdrl.2, ver, cp, ?_, by simp [sl', hlt]⟩
       show sl.v = .hs F.lv j ver 0 ws'.length false
       rw [hwl]; exact d3
      have hm := hR.move ho trivial d1 d2 (.acc ty τ ys true) (.arr ver ty (D.len τ) ws' cp) sl' rfl hor
      have hm2 := hm.mapV (TV.ren D s ts.nx) fun x v hxv => VR.ren (lookup_append d1) (sl' := sl') (by rw [← hR.nx]; simp) rfl hxv
      have hget := hR.get e2
      rcases d6 with d6 | ⟨d6, sz, rfl⟩
      ·subst d6
       refine ⟨.any, _, .int .i64 (min (sl.ws.length - b.toNat) (sl.ws.length - a.toNat) : Nat), σ.H.set F.lv j (.arr ver ty (D.len τ) ws' cp), ρ ++ [sl'], ?_, by simp only [VR], ?_, h⟩
       ·simp only [hCopy, hu, hget]
        rw [if_pos hc.2, if_pos ⟨trivial, trivial, trivial⟩, if_pos ⟨trivial, hc.1⟩]
       ·rw [hR.setH]; exact hm2
      ·have hn : n = 0 := by simp only [n]; omega
       have hws : ws' = sl.ws := by
        simp only [ws', hn, List.take_zero, List.nil_append, Nat.add_zero, List.take_append_drop]
       have hset : σ.H.L.set j (some (.arr ver ty (D.len τ) ws' cp)) = σ.H.L := by
        rw [hws]
        refine List.ext_getElem? fun q => ?_
        rw [List.getElem?_set]
        split
        ·rename_i hq; rw [← hq, e2]
        ·rfl
       rw [hset] at hm2
       refine ⟨.any, _, .int .i64 0, σ.H, ρ ++ [sl'], ?_, by simp only [VR], hm2, h⟩
       simp only [hCopy, hu, hget]
       rw [if_pos hc.2, if_pos trivial]
     ·cases hys
    ·cases h
   ·cases h
  ·cases h
 ·cases h
theorem tOp_sound {R : Type} (hR : TRr D F ρ ts σ) {op : Op} {k : TV D.T → TS D.T → Option R} {kf : Nat → Option R} {r : R} (h : tOp P D ts op k kf = some r) :
  (∃ z ts' v H' ρ', ox P σ.H σ.ev op = some (v, H') ∧ VR D ρ' F.lv z v ∧ TRr D F ρ' ts' { σ with H := H' } ∧ k z ts' = some r) ∨ ∃ s, kf s = some r := by
 have pure : ∀ {op : Op}, tP P D ts op (fun v => k v ts) kf = some r → (∃ z ts' v H' ρ', ox P σ.H σ.ev op = some (v, H') ∧ VR D ρ' F.lv z v ∧ TRr D F ρ' ts' { σ with H := H' } ∧ k z ts' = some r) ∨ ∃ s, kf s = some r := fun {op} h => by
  rcases tP_sound hD hR h with ⟨x, v, h1, h2, h3⟩ | h
  ·exact .inl ⟨x, ts, v, σ.H, ρ, ox_of_pv h1, h2, hR, h3⟩
  ·exact .inr h
 unfold tOp at h
 split at h
 ·split at h
  ·rename_i z hz
   split at h
   ·rename_i hs
    left
    obtain ⟨v, h1, h2⟩ := tZero_sound (ρ := ρ) (lv := F.lv) hz
    obtain ⟨h3, h4⟩ := hR.newCells hD (h2.cells hs)
    exact ⟨_, _, _, _, _, by simp only [ox, hAlloc, h1]; rw [if_pos (h2.solid hs)], h4, h3, h⟩
   ·cases h
  ·cases h
 ·split at h
  ·rename_i x hx
   split at h
   ·rename_i hs
    left
    have h2 := hR.ev hx
    obtain ⟨h3, h4⟩ := hR.newCells hD (h2.cells hs)
    exact ⟨_, _, _, _, _, by simp only [ox, hBox]; rw [if_pos (h2.solid hs)], h4, h3, h⟩
   ·cases h
  ·cases h
 ·split at h
  ·rename_i ha hx
   rcases tStore_sound hD hR h (hR.ev ha) (hR.ev hx) with ⟨z, ts', v, H', ρ', h1, h2⟩ | h
   ·exact .inl ⟨z, ts', v, H', ρ', by simp only [ox]; exact h1, h2⟩
   ·exact .inr h
  ·cases h
 ·split at h
  ·rename_i str hx
   split at h
   ·rename_i hu
    left
    have h1 := hR.ev hx
    simp only [VR] at h1
    refine ⟨_, _, .ptr σ.H.lv σ.H.L.length 0, σ.H.push (.siter str 0), ρ ++ [⟨.any, some σ.H.L.length, []⟩], by simp only [ox, hRange, h1, hu], ?_, ?_, h⟩
    ·simp only [VR]
     exact ⟨⟨.any, some σ.H.L.length, []⟩, σ.H.L.length, by rw [← hR.nx]; simp, rfl, by rw [hR.lv]⟩
    ·exact hR.new _ _ _ hR.lv hR.E (by simp [Heap.push]) (fun i hi => by simp only [Heap.push]; rw [List.getElem?_append_left hi]) (fun i hi => by injection hi with hi; omega)
      (by simp only [OR]; exact ⟨σ.H.L.length, rfl, by simp [Heap.push]⟩)
   ·cases h
  ·cases h
 ·split at h
  ·rename_i hi
   left
   obtain ⟨z, ts', v, H', ρ', h1, h2⟩ := tNext_sound hR h (hR.ev hi)
   exact ⟨z, ts', v, H', ρ', by simp only [ox]; exact h1, h2⟩
  ·cases h
 ·split at h
  ·rename_i c
   split at h
   ·rename_i s x t u hcal hargs htys
    split at h
    ·rename_i hs hx
     left
     obtain ⟨z, ts', v, H', ρ', h1, h2⟩ := tAppend_sound hR h (hR.ev hs) (hR.ev hx)
     exact ⟨z, ts', v, H', ρ', by simp only [ox, hcal, hargs, htys]; exact h1, h2⟩
    ·cases h
   ·rename_i d s t u hcal hargs htys
    split at h
    ·rename_i hd hs
     left
     obtain ⟨z, ts', v, H', ρ', h1, h2⟩ := tCopy_sound hR h (hR.ev hd) (hR.ev hs)
     exact ⟨z, ts', v, H', ρ', by simp only [ox, hcal, hargs, htys]; exact h1, h2⟩
    ·cases h
   ·exact pure h
  ·exact pure h
end
end Go.Ab


namespace Go.Ab
open Go
set_option linter.unusedVariables false
set_option linter.unusedSimpArgs false
set_option linter.unusedSectionVars false
section
variable {P : Program} {D : Dat} {F : Fr} {ρ : List Slot} {ts : TS D.T} {σ : St} {lv : Nat}
mutual
theorem frz_rel {s : Nat} {t : DTy} {xs : List (t.S D.T)} {sl : Slot} {r : V} (h1 : ρ[s]? = some sl) (hr : VR D ρ lv (.sl t xs 0) r) : ∀ {x : TV D.T} {v : V}, VR D ρ lv x v → ∃ v', FV sl.v r v v' ∧ VR D ρ lv (TV.frz D s t xs x) v'
 | .own j, v, h => by
   simp only [TV.frz]
   split
   · rename_i hj
     subst hj
     simp only [VR] at h
     obtain ⟨q, k1, k2, k3⟩ := h
     rw [h1] at k1; injection k1 with k1; subst k1
     subst k2
     exact ⟨r, .it, hr⟩
   · exact ⟨v, .keep _, h⟩
 | .agg cs, v, h => by
   simp only [TV.frz, VR] at h ⊢
   obtain ⟨vs, rfl, k2⟩ := h
   obtain ⟨us, q1, q2⟩ := frzL_rel h1 hr k2
   exact ⟨.agg us, .agg' q1, us, rfl, q2⟩
 | .tup cs, v, h => by
   simp only [TV.frz, VR] at h ⊢
   obtain ⟨vs, rfl, k2⟩ := h
   obtain ⟨us, q1, q2⟩ := frzL_rel h1 hr k2
   exact ⟨.tup us, .tup' q1, us, rfl, q2⟩
 | .any, v, h => ⟨v, .keep _, by simpa only [TV.frz] using h⟩
 | .bool b, v, h => ⟨v, .keep _, by simpa only [TV.frz] using h⟩
 | .int k n, v, h => ⟨v, .keep _, by simpa only [TV.frz] using h⟩
 | .str b, v, h => ⟨v, .keep _, by simpa only [TV.frz] using h⟩
 | .nilp, v, h => ⟨v, .keep _, by simpa only [TV.frz] using h⟩
 | .nils, v, h => ⟨v, .keep _, by simpa only [TV.frz] using h⟩
 | .mapn, v, h => ⟨v, .keep _, by simpa only [TV.frz] using h⟩
 | .nilf, v, h => ⟨v, .keep _, by simpa only [TV.frz] using h⟩
 | .nili, v, h => ⟨v, .keep _, by simpa only [TV.frz] using h⟩
 | .sl t' ys fl, v, h => ⟨v, .keep _, by simpa only [TV.frz] using h⟩
 | .ptr j off, v, h => ⟨v, .keep _, by simpa only [TV.frz] using h⟩
 | .bp j off, v, h => ⟨v, .keep _, by simpa only [TV.frz] using h⟩
 | .osl j lo, v, h => ⟨v, .keep _, by simpa only [TV.frz] using h⟩
 | .map j, v, h => ⟨v, .keep _, by simpa only [TV.frz] using h⟩
 | .ref cs off, v, h => ⟨v, .keep _, by simpa only [TV.frz] using h⟩
 | .ap j t' i x off, v, h => ⟨v, .keep _, by simpa only [TV.frz] using h⟩
 | .fn f a b, v, h => ⟨v, .keep _, by simpa only [TV.frz] using h⟩
 | .iface t' x, v, h => ⟨v, .keep _, by simpa only [TV.frz] using h⟩
theorem frzL_rel {s : Nat} {t : DTy} {xs : List (t.S D.T)} {sl : Slot} {r : V} (h1 : ρ[s]? = some sl) (hr : VR D ρ lv (.sl t xs 0) r) : ∀ {cs : List (TV D.T)} {vs : List V}, VRL D ρ lv cs vs → ∃ us, FVL sl.v r vs us ∧ VRL D ρ lv (TV.frzL D s t xs cs) us
 | [], vs, h => by simp only [TV.frzL, VRL] at h ⊢; subst h; exact ⟨[], .nil, rfl⟩
 | c :: cs, vs, h => by
   simp only [TV.frzL, VRL] at h ⊢
   obtain ⟨v, q, rfl, k2, k3⟩ := h
   obtain ⟨v', a1, a2⟩ := frz_rel h1 hr k2
   obtain ⟨us, b1, b2⟩ := frzL_rel h1 hr k3
   exact ⟨v' :: us, .cons a1 b1, v', us, rfl, a2, b2⟩
end
theorem frzL_map (s : Nat) (t : DTy) (xs : List (t.S D.T)) : ∀ cs : List (TV D.T), TV.frzL D s t xs cs = cs.map (TV.frz D s t xs)
 | [] => rfl
 | c :: cs => by simp only [TV.frzL, List.map_cons, frzL_map s t xs cs]
theorem frz_tmps {s : Nat} {t : DTy} {xs : List (t.S D.T)} {sl : Slot} {r : V} (h1 : ρ[s]? = some sl) (hr : VR D ρ lv (.sl t xs 0) r) (f : Nat → Option (TV D.T)) : ∀ (l : List V) (k : Nat), (∀ j x v, f (k + j) = some x → l[j]? = some v → VR D ρ lv x v) →
  ∃ l', FVL sl.v r l l' ∧ ∀ j x v, f (k + j) = some x → l'[j]? = some v → VR D ρ lv (TV.frz D s t xs x) v
 | [], k, h => ⟨[], .nil, fun j x v _ hv => by simp at hv⟩
 | u :: l, k, h => by
   obtain ⟨l', a1, a2⟩ := frz_tmps h1 hr f l (k + 1) fun j x v hx hv => h (j + 1) x v (by rw [← hx]; congr 1; omega) (by simpa using hv)
   cases hf : f k with
   | none =>
     refine ⟨u :: l', .cons (.keep _) a1, fun j x v hx hv => ?_⟩
     cases j with
     | zero => rw [Nat.add_zero, hf] at hx; cases hx
     | succ j => exact a2 j x v (by rw [← hx]; congr 1; omega) (by simpa using hv)
   | some y =>
     obtain ⟨u', b1, b2⟩ := frz_rel h1 hr (h 0 y u (by simpa using hf) rfl)
     refine ⟨u' :: l', .cons b1 a1, fun j x v hx hv => ?_⟩
     cases j with
     | zero => rw [Nat.add_zero, hf] at hx; injection hx with hx; subst hx; simp at hv; subst hv; exact b2
     | succ j => exact a2 j x v (by rw [← hx]; congr 1; omega) (by simpa using hv)
theorem frz_objs (hR : TRr D F ρ ts σ) {s : Nat} {t : DTy} {xs : List (t.S D.T)} {sl : Slot} {r : V} (h1 : ρ[s]? = some sl) (hr : VR D ρ F.lv (.sl t xs 0) r) : ∀ n : Nat, ∃ os os' : List (Nat × AObj), FOL sl.v r os os' ∧ (os.map (·.1)).Nodup ∧
  (∀ p ∈ os, σ.H.L[p.1]? = some (some p.2) ∧ ∃ s' o sl', s' < n ∧ s' ≠ s ∧ fnd ts.o s' = some o ∧ o.live ∧ ρ[s']? = some sl' ∧ sl'.k = some p.1) ∧
  ∀ s' o sl' i, s' < n → s' ≠ s → fnd ts.o s' = some o → o.live → ρ[s']? = some sl' → sl'.k = some i → ∃ ao, (i, ao) ∈ os' ∧ ∀ L', L'[i]? = some (some ao) → OR D ρ F.lv L' sl' (TO.map D (TV.frz D s t xs) o)
 | 0 => ⟨[], [], .refl _, by simp, by simp, fun s' o sl' i h => by omega⟩
 | n + 1 => by
   obtain ⟨os, os', a1, a2, a3, a4⟩ := frz_objs hR h1 hr n
   have skip : (∀ o sl' i, n ≠ s → fnd ts.o n = some o → o.live → ρ[n]? = some sl' → sl'.k = some i → False) → ∃ os os' : List (Nat × AObj), FOL sl.v r os os' ∧ (os.map (·.1)).Nodup ∧
       (∀ p ∈ os, σ.H.L[p.1]? = some (some p.2) ∧ ∃ s' o sl', s' < n + 1 ∧ s' ≠ s ∧ fnd ts.o s' = some o ∧ o.live ∧ ρ[s']? = some sl' ∧ sl'.k = some p.1) ∧
       ∀ s' o sl' i, s' < n + 1 → s' ≠ s → fnd ts.o s' = some o → o.live → ρ[s']? = some sl' → sl'.k = some i → ∃ ao, (i, ao) ∈ os' ∧ ∀ L', L'[i]? = some (some ao) → OR D ρ F.lv L' sl' (TO.map D (TV.frz D s t xs) o) := fun hno =>
     ⟨os, os', a1, a2, fun p hp => by obtain ⟨b1, s', o, sl', b2, b3⟩ := a3 p hp; exact ⟨b1, s', o, sl', by omega, b3⟩, fun s' o sl' i c1 c2 c3 c4 c5 c6 => by
       by_cases e : s' = n
       · subst e; exact (hno o sl' i c2 c3 c4 c5 c6).elim
       · exact a4 s' o sl' i (by omega) c2 c3 c4 c5 c6⟩
   by_cases hns : n = s
   · exact skip fun o sl' i hne => (hne hns).elim
   · cases ho : fnd ts.o n with
     | none => exact skip fun o sl' i _ h => by rw [ho] at h; cases h
     | some o =>
       obtain ⟨sl', k1, k2⟩ := hR.ob n o ho
       by_cases hl : o.live
       · cases hk : sl'.k with
         | none => exact skip fun o' sl2 i _ h hl' h2 h3 => by rw [k1] at h2; injection h2 with h2; subst h2; rw [hk] at h3; cases h3
         | some i =>
           obtain ⟨a, ha⟩ := k2.at hl hk
           have hfresh : i ∉ os.map (·.1) := fun hm => by
             obtain ⟨p, hp, hpi⟩ := List.mem_map.1 hm
             obtain ⟨b1, s', o', sl2, b2, b3, b4, b5, b6, b7⟩ := a3 p hp
             have := hR.inj n s' o o' sl' sl2 i ho b4 hl b5 k1 b6 hk (by rw [b7, hpi])
             omega
           have step : ∀ a' : AObj, FO sl.v r a a' → (∀ L' : List (Option AObj), L'[i]? = some (some a') → OR D ρ F.lv L' sl' (TO.map D (TV.frz D s t xs) o)) → ∃ os os' : List (Nat × AObj), FOL sl.v r os os' ∧ (os.map (·.1)).Nodup ∧
               (∀ p ∈ os, σ.H.L[p.1]? = some (some p.2) ∧ ∃ s' o sl', s' < n + 1 ∧ s' ≠ s ∧ fnd ts.o s' = some o ∧ o.live ∧ ρ[s']? = some sl' ∧ sl'.k = some p.1) ∧
               ∀ s' o sl' i, s' < n + 1 → s' ≠ s → fnd ts.o s' = some o → o.live → ρ[s']? = some sl' → sl'.k = some i → ∃ ao, (i, ao) ∈ os' ∧ ∀ L', L'[i]? = some (some ao) → OR D ρ F.lv L' sl' (TO.map D (TV.frz D s t xs) o) := fun a' hfo hor =>
             ⟨(i, a) :: os, (i, a') :: os', .cons hfo a1, by simp only [List.map_cons, List.nodup_cons]; exact ⟨hfresh, a2⟩, fun p hp => by
               rcases List.mem_cons.1 hp with rfl | hp
               · exact ⟨ha, n, o, sl', by omega, hns, ho, hl, k1, hk⟩
               · obtain ⟨b1, s', o, sl', b2, b3⟩ := a3 p hp; exact ⟨b1, s', o, sl', by omega, b3⟩, fun s' o2 sl2 i2 c1 c2 c3 c4 c5 c6 => by
               by_cases e : s' = n
               · subst e
                 rw [ho] at c3; injection c3 with c3; subst c3
                 rw [k1] at c5; injection c5 with c5; subst c5
                 rw [hk] at c6; injection c6 with c6; subst c6
                 exact ⟨a', List.mem_cons_self, hor⟩
               · obtain ⟨ao, d1, d2⟩ := a4 s' o2 sl2 i2 (by omega) c2 c3 c4 c5 c6
                 exact ⟨ao, List.mem_cons_of_mem _ d1, d2⟩⟩
           cases o with
           | cells cs =>
             simp only [OR] at k2
             obtain ⟨i', vs, e1, e2, e3⟩ := k2
             rw [hk] at e1; injection e1 with e1; subst e1
             rw [ha] at e2; injection e2 with e2; injection e2 with e2; subst e2
             obtain ⟨us, f1, f2⟩ := frzL_rel h1 hr e3
             rw [frzL_map] at f2
             exact step (.cells us) (.inr ⟨vs, us, rfl, rfl, f1⟩) fun L' hL' => by simp only [TO.map, OR]; exact ⟨i, us, hk, hL', f2⟩
           | acc ty' t' xs' w' =>
             have := k2
             refine step a (.inl rfl) fun L' hL' => ?_
             simp only [OR, hk] at k2
             simp only [TO.map, OR, hk]
             obtain ⟨e1, e2, ver, cp, e3, e4⟩ := k2
             rw [ha] at e4
             exact ⟨e1, e2, ver, cp, e3, hL'.trans e4⟩
           | siter l pos =>
             refine step a (.inl rfl) fun L' hL' => ?_
             simp only [OR] at k2
             simp only [TO.map, OR]
             obtain ⟨i', e1, e2⟩ := k2
             rw [hk] at e1; injection e1 with e1; subst e1
             rw [ha] at e2
             exact ⟨i, hk, hL'.trans e2⟩
           | bld ty' b' =>
             refine step a (.inl rfl) fun L' hL' => ?_
             simp only [OR] at k2
             obtain ⟨i', u, c, e1, e2, e3, e4⟩ := k2
             rw [hk] at e1; injection e1 with e1; subst e1
             rw [ha] at e2
             cases b' with
             | none => simp only [TO.map, OR]; exact ⟨i, u, c, hk, hL'.trans e2, e3, e4⟩
             | some q =>
               simp only [TO.map, TV.frz]
               by_cases hq : q = s
               · rw [if_pos hq]; simp only [OR]
               · rw [if_neg hq]; simp only [OR]; exact ⟨i, u, c, hk, hL'.trans e2, e3, e4⟩
           | gone => exact hl.elim
       · exact skip fun o' sl2 i _ h hl' => by rw [ho] at h; injection h with h; subst h; exact (hl hl').elim
theorem freeze_sound {s : Nat} {ts' : TS D.T} (hR : TRr D F ρ ts σ) (h : ts.freeze D s = some ts') : ∃ τ, Weak σ τ ∧ TRr D F ρ ts' τ := by
 unfold TS.freeze at h
 split at h
 ·rename_i ty t xs w hd0 ho
  injection h with h; subst h
  have hd1 : σ.d = [] := by have := hR.d; rw [hd0] at this; exact this
  obtain ⟨sl, k1, k2⟩ := hR.ob s _ ho
  have hor := k2
  simp only [OR] at k2
  obtain ⟨q1, q2, q3⟩ := k2
  have hsn : s < ρ.length := (List.getElem?_eq_some_iff.1 k1).1
  have hr : VR D ρ F.lv (.sl t xs 0) (.sl (D.len t) sl.ws false) := by
   simp only [VR]
   exact ⟨.sl t xs sl.ws false q1 q2, by omega, by omega⟩
  obtain ⟨os, os', a1, a2, a3, a4⟩ := frz_objs hR k1 hr ts.nx
  have hacc : AccG F.lv σ.H.L [⟨ty, D.len t, sl.v, sl.ws, w⟩] os := by
   refine ⟨⟨[sl.k], rfl, fun j k a hj ha => ?_, fun i j n hi hj => ?_, fun p hp => ⟨(a3 p hp).1, fun j hj => ?_⟩⟩, a2⟩
   ·cases j with
    | zero =>
      simp at hj ha; subst hj; subst ha
      cases hk : sl.k with
      | none => rw [hk] at q3; exact q3.imp id fun q => ⟨q.1.1, q.2⟩
      | some i => rw [hk] at q3; obtain ⟨ver, cp, e1, e2⟩ := q3; exact ⟨ver, cp, e1, e2⟩
    | succ j => simp at hj
   ·cases i <;> cases j <;> simp at hi hj <;> rfl
   ·obtain ⟨_, s', o, sl', b2, b3, b4, b5, b6, b7⟩ := a3 p hp
    cases j with
    | zero =>
      simp at hj
      exact b3 (hR.inj s' s o _ sl' sl p.1 b4 ho b5 trivial b6 k1 b7 hj)
    | succ j => simp at hj
  obtain ⟨t', c1, c2⟩ := frz_tmps k1 hr (fnd ts.t) σ.t 0 fun j x v hx hv => by
   obtain ⟨u, e1, e2⟩ := hR.tm j x (by simpa using hx)
   rw [hv] at e1; injection e1 with e1; subst e1; exact e2
  obtain ⟨L', ⟨d1, d2⟩, d3, d4⟩ := hacc.freezeX (j := 0) rfl c1 a1 σ.H.E σ.e0
  have hσ : σ = ⟨σ.t, ⟨F.lv, σ.H.L, σ.H.E⟩, [], σ.e0⟩ := by
   have e1 := hR.lv; have e2 := hd1
   obtain ⟨t, ⟨l, L, E⟩, d, e0⟩ := σ
   simp only at e1 e2; subst e1; subst e2; rfl
  rw [← hσ] at d2
  refine ⟨_, d2, ?_⟩
  have hob : ∀ s' o, fnd ((s, TO.gone) :: (ts.mapV D (TV.frz D s t xs)).o) s' = some o → (s' = s ∧ o = .gone) ∨ (s' ≠ s ∧ ∃ o', fnd ts.o s' = some o' ∧ o = TO.map D (TV.frz D s t xs) o') := fun s' o h => by
   rw [fnd_cons] at h
   split at h
   ·rename_i e; injection h with h; exact .inl ⟨e.symm, h.symm⟩
   ·rename_i e
    simp only [TS.mapV] at h
    rw [fnd_map (TO.map D (TV.frz D s t xs)), Option.map_eq_some_iff] at h
    obtain ⟨o', h1, h2⟩ := h
    exact .inr ⟨fun e' => e e'.symm, o', h1, h2.symm⟩
  have hlive : ∀ o : TO D.T, (TO.map D (TV.frz D s t xs) o).live → o.live := fun o h => by cases o <;> first | exact h | trivial
  have old : ∀ s' o, fnd ((s, TO.gone) :: (ts.mapV D (TV.frz D s t xs)).o) s' = some o → o.live → s' ≠ s ∧ ∃ o', fnd ts.o s' = some o' ∧ o'.live ∧ o = TO.map D (TV.frz D s t xs) o' := fun s' o h hl => by
   rcases hob s' o h with ⟨_, rfl⟩ | ⟨h1, o', h2, rfl⟩
   ·exact hl.elim
   ·exact ⟨h1, o', h2, hlive o' hl, rfl⟩
  refine ⟨hR.nx, c1.length.symm.trans hR.nt, fun j x hj => ?_, fun s' o h => ?_, fun s1 s2 o1 o2 sl1 sl2 i h1 h2 l1 l2 r1 r2 => ?_, fun s1 o1 sl1 i h1 l1 r1 => ?_, rfl, hR.E, hR.e0, (by simp only [TS.mapV, hd0, List.map_nil]; rfl), fun i hi => ?_, hR.pin⟩
  ·simp only [TS.mapV] at hj
   rw [fnd_map (TV.frz D s t xs), Option.map_eq_some_iff] at hj
   obtain ⟨y, hy, rfl⟩ := hj
   obtain ⟨u, e1, e2⟩ := hR.tm j y hy
   have hlt : j < t'.length := by rw [← c1.length]; exact (List.getElem?_eq_some_iff.1 e1).1
   exact ⟨t'[j], List.getElem?_eq_getElem hlt, c2 j y _ (by simpa using hy) (List.getElem?_eq_getElem hlt)⟩
  ·rcases hob s' o h with ⟨rfl, rfl⟩ | ⟨h1, o', h2, rfl⟩
   ·exact ⟨sl, k1, by simp only [OR]⟩
   ·obtain ⟨sl', m1, m2⟩ := hR.ob s' o' h2
    refine ⟨sl', m1, ?_⟩
    by_cases hl : o'.live
    ·cases hk : sl'.k with
     | some i =>
       obtain ⟨ao, n1, n2⟩ := a4 s' o' sl' i (by rw [← hR.nx]; exact (List.getElem?_eq_some_iff.1 m1).1) h1 h2 hl m1 hk
       exact n2 L' (d1.accs.get n1)
     | none =>
       cases o' with
       | cells cs => simp only [OR] at m2; obtain ⟨i, _, e, _⟩ := m2; rw [hk] at e; cases e
       | acc ty' t'' xs' w' => simp only [OR, hk] at m2; simp only [TO.map, OR, hk]; exact m2
       | siter l pos => simp only [OR] at m2; obtain ⟨i, e, _⟩ := m2; rw [hk] at e; cases e
       | bld ty' b' => simp only [OR] at m2; obtain ⟨i, _, _, e, _⟩ := m2; rw [hk] at e; cases e
       | gone => simp only [TO.map, OR]
    ·cases o' with
     | gone => simp only [TO.map, OR]
     | _ => exact (hl trivial).elim
  ·obtain ⟨_, o1', e1, f1, _⟩ := old s1 o1 h1 l1
   obtain ⟨_, o2', e2, f2, _⟩ := old s2 o2 h2 l2
   exact hR.inj s1 s2 o1' o2' sl1 sl2 i e1 e2 f1 f2 r1 r2
  ·obtain ⟨_, o1', e1, f1, _⟩ := old s1 o1 h1 l1
   exact hR.mine s1 o1' sl1 i e1 f1 r1
  ·obtain ⟨h1, h2⟩ := hR.out i hi
   refine ⟨by show i < L'.length; rw [d3]; exact h1, ?_⟩
   show L'[i]? = _
   rw [d4 i h1 (fun p hp e => ?_) fun ver n e => ?_]
   ·exact h2
   ·obtain ⟨_, s', o, sl', b2, b3, b4, b5, b6, b7⟩ := a3 p hp
    exact hR.mine s' o sl' i b4 b5 b6 (by rw [b7, e]) hi
   ·cases hk : sl.k with
    | none => rw [hk] at q3; rcases q3 with ⟨q, _⟩ | ⟨⟨q, _⟩, _⟩ <;> (rw [e] at q; cases q)
    | some j =>
      rw [hk] at q3
      obtain ⟨ver', cp, q, _⟩ := q3
      rw [e] at q; injection q with _ q; subst q
      exact hR.mine s _ sl i ho trivial k1 hk hi
 ·cases h
end
end Go.Ab


namespace Go.Ab
open Go
set_option linter.unusedVariables false
set_option linter.unusedSimpArgs false
set_option linter.unusedSectionVars false
theorem HL.fst_app {T : Nat → Type} : ∀ {a b : List DTy} (x : HL T a) (y : HL T b), HL.fst a (HL.app x y) = x
 | [], _, _, _ => rfl
 | _ :: _, _, x, y => by simp only [HL.app, HL.fst]; rw [HL.fst_app]; rfl
theorem HL.snd_app {T : Nat → Type} : ∀ {a b : List DTy} (x : HL T a) (y : HL T b), HL.snd a (HL.app x y) = y
 | [], _, _, _ => rfl
 | _ :: _, _, x, y => by simp only [HL.app, HL.snd]; rw [HL.snd_app]
section
variable (D : Dat) (n : Nat) (M : Bnds D.T) (c : TV D.T)
theorem fitV_any : fitV D n .any c M = .ok (M, ()) := rfl
theorem fitV_d (t : DTy) : fitV D n (.d t) c M = (match asD D t c with
  | .ok x => .ok (M, (x, ()))
  | .frz s => .frz s
  | .bad => .bad) := rfl
theorem fitV_fn (f : Nat) (a b : List Sh) (f' : Nat) (a' b' : List (TV D.T)) : fitV D n (.fn f a b) (.fn f' a' b') M = if f = f' then (match fitL D n a a' M with
  | .ok (M, x) => match fitL D n b b' M with
    | .ok (M, y) => .ok (M, HL.app x y)
    | .frz s => .frz s
    | .bad => .bad
  | .frz s => .frz s
  | .bad => .bad) else .bad := rfl
theorem fitL_cons (cs : List (TV D.T)) (sh : Sh) (l : List Sh) : fitL D n (sh :: l) (c :: cs) M = (match fitV D n sh c M with
  | .ok (M, x) => match fitL D n l cs M with
    | .ok (M, y) => .ok (M, HL.app x y)
    | .frz s => .frz s
    | .bad => .bad
  | .frz s => .frz s
  | .bad => .bad) := rfl
variable (m : Nat → Nat)
theorem bldV_fn (f : Nat) (a b : List Sh) (x : HL D.T (Sh.tysL a)) (y : HL D.T (Sh.tysL b)) : bldV D m (.fn f a b) (HL.app x y) = .fn f (bldL D m a x) (bldL D m b y) := by
 show TV.fn f (bldL D m a (HL.fst _ (HL.app x y))) (bldL D m b (HL.snd _ (HL.app x y))) = _
 rw [HL.fst_app, HL.snd_app]
theorem bldL_cons (sh : Sh) (l : List Sh) (x : HL D.T sh.tys) (y : HL D.T (Sh.tysL l)) : bldL D m (sh :: l) (HL.app x y) = bldV D m sh x :: bldL D m l y := by
 show bldV D m sh (HL.fst _ (HL.app x y)) :: bldL D m l (HL.snd _ (HL.app x y)) = _
 rw [HL.fst_app, HL.snd_app]
end
theorem fnd_mem {α : Type} : ∀ {l : List (Nat × α)} {j : Nat} {a : α}, fnd l j = some a → (j, a) ∈ l
 | [], j, a, h => by simp [fnd] at h
 | (i, b) :: r, j, a, h => by
   rw [fnd_cons] at h
   split at h
   · rename_i e; injection h with h; subst h; subst e; exact List.mem_cons_self
   · exact List.mem_cons_of_mem _ (fnd_mem h)
section
variable {P : Program} {D : Dat} {F : Fr} {ρ : List Slot} {ts : TS D.T} {σ : St} {lv : Nat} {T : Nat → Type}
def nilSlot : Slot := ⟨.nils, none, []⟩
def Src.is (ρ : List Slot) (sl : Slot) : Src T → Prop
 | .slot s => ρ[s]? = some sl
 | .nil => sl = nilSlot
def Agr (ρ : List Slot) (M : Bnds T) (ρ' : List Slot) : Prop := ∀ (k : Nat) (src : Src T), fnd M k = some src → ∃ sl, ρ'[k]? = some sl ∧ src.is ρ sl
structure MOk (n : Nat) (M : Bnds T) : Prop where
 lt : ∀ k src, fnd M k = some src → k < n
 inj : ∀ k k' s, fnd M k = some (.slot s) → fnd M k' = some (.slot s) → k = k'
 one : ∀ k src, (k, src) ∈ M → fnd M k = some src
def MExt (M M' : Bnds T) : Prop := ∀ k src, fnd M k = some src → fnd M' k = some src
theorem MExt.agr {M M' : Bnds T} (h : MExt M M') {ρ' : List Slot} (k : Agr ρ M' ρ') : Agr ρ M ρ' := fun j src hj => k j src (h j src hj)
theorem bindS_sound {n k s : Nat} {M M' : Bnds T} (h : bindS n k s M = some M') : MExt M M' ∧ fnd M' k = some (.slot s) ∧ (MOk n M → MOk n M') := by
 unfold bindS at h
 split at h
 ·rename_i s' hk
  split at h
  ·rename_i e; injection h with h; subst h; subst e; exact ⟨fun _ _ h => h, hk, fun h => h⟩
  ·cases h
 ·cases h
 ·rename_i hk
  split at h
  ·rename_i hc
   injection h with h; subst h
   refine ⟨fun j src hj => ?_, by rw [fnd_cons, if_pos rfl], fun hM => ⟨fun j src hj => ?_, fun j j' q hj hj' => ?_, fun j src hm => by
    rw [fnd_cons]
    rcases List.mem_cons.1 hm with hm | hm
    ·injection hm with h1 h2; subst h1; subst h2; rw [if_pos rfl]
    ·have := hM.one j src hm
     split
     ·rename_i e; subst e; rw [hk] at this; cases this
     ·exact this⟩⟩
   ·rw [fnd_cons]; split
    ·rename_i e; subst e; rw [hk] at hj; cases hj
    ·exact hj
   ·rw [fnd_cons] at hj
    split at hj
    ·rename_i e; subst e; exact hc.1
    ·exact hM.lt j src hj
   ·have hno : ∀ j', fnd M j' ≠ some (.slot s) := fun j' hj' => by
     have := List.all_eq_true.1 hc.2 _ (fnd_mem hj')
     simp [Src.isSlot] at this
    rw [fnd_cons] at hj hj'
    split at hj <;> split at hj'
    ·rename_i e1 e2; rw [← e1, ← e2]
    ·injection hj with hj; injection hj with hj; subst hj; exact (hno _ hj').elim
    ·injection hj' with hj'; injection hj' with hj'; subst hj'; exact (hno _ hj).elim
    ·exact hM.inj j j' q hj hj'
  ·cases h
theorem bindN_sound {n k : Nat} {M M' : Bnds T} (h : bindN n k M = some M') : MExt M M' ∧ fnd M' k = some .nil ∧ (MOk n M → MOk n M') := by
 unfold bindN at h
 split at h
 ·rename_i hk; injection h with h; subst h; exact ⟨fun _ _ h => h, hk, fun h => h⟩
 ·cases h
 ·rename_i hk
  split at h
  ·rename_i hc
   injection h with h; subst h
   refine ⟨fun j src hj => ?_, by rw [fnd_cons, if_pos rfl], fun hM => ⟨fun j src hj => ?_, fun j j' q hj hj' => ?_, fun j src hm => by
    rw [fnd_cons]
    rcases List.mem_cons.1 hm with hm | hm
    ·injection hm with h1 h2; subst h1; subst h2; rw [if_pos rfl]
    ·have := hM.one j src hm
     split
     ·rename_i e; subst e; rw [hk] at this; cases this
     ·exact this⟩⟩
   ·rw [fnd_cons]; split
    ·rename_i e; subst e; rw [hk] at hj; cases hj
    ·exact hj
   ·rw [fnd_cons] at hj
    split at hj
    ·rename_i e; subst e; exact hc
    ·exact hM.lt j src hj
   ·rw [fnd_cons] at hj hj'
    split at hj
    ·injection hj with hj; cases hj
    ·split at hj'
     ·injection hj' with hj'; cases hj'
     ·exact hM.inj j j' q hj hj'
  ·cases h
theorem FR.inj {α : Type} {a b : α} (h : FR.ok a = FR.ok b) : a = b := by cases h; rfl
theorem FR.pair {α β : Type} {a c : α} {b d : β} (h : FR.ok (a, b) = FR.ok (c, d)) : a = c ∧ b = d := ⟨congrArg Prod.fst (FR.inj h), congrArg Prod.snd (FR.inj h)⟩
theorem frU_ok {o : Option (Bnds T)} {M : Bnds T} {u : Unit} (h : frU o = .ok (M, u)) : o = some M := by
 unfold frU at h
 split at h
 ·injection h with h; injection h with h; rw [h]
 ·cases h
def FitV (D : Dat) (ρ : List Slot) (lv n : Nat) (M M' : Bnds D.T) (x : TV D.T) (v : V) : Prop := MExt M M' ∧ (MOk n M → MOk n M') ∧ ∀ ρ', Agr ρ M' ρ' → VR D ρ' lv x v
def FitL (D : Dat) (ρ : List Slot) (lv n : Nat) (M M' : Bnds D.T) (xs : List (TV D.T)) (vs : List V) : Prop := MExt M M' ∧ (MOk n M → MOk n M') ∧ ∀ ρ', Agr ρ M' ρ' → VRL D ρ' lv xs vs
variable (hD : D.Ok P)
include hD
mutual
theorem fitV_sound {n : Nat} : ∀ (sh : Sh) {c : TV D.T} {v : V} {M M' : Bnds D.T} {x : HL D.T sh.tys}, fitV D n sh c M = .ok (M', x) → VR D ρ lv c v → FitV D ρ lv n M M' (bldV D (fun k => k) sh x) v
 | .any, c, v, M, M', x, h, hv => by
   rw [fitV_any] at h
   cases h
   exact ⟨fun _ _ h => h, fun h => h, fun ρ' _ => (by simp only [VR] : VR D ρ' lv .any v)⟩
 | .d t, c, v, M, M', x, h, hv => by
   rw [fitV_d] at h
   split at h
   · rename_i y hy
     cases h
     exact ⟨fun _ _ h => h, fun h => h, fun ρ' _ => (VR.tv hD (asD_sound hD hy hv) : VR D ρ' lv (D.tv t y) v)⟩
   · cases h
   · cases h
 | .own k, c, v, M, M', x, h, hv => by
   show FitV D ρ lv n M M' (.own k) v
   cases c <;> first | (cases h; done) | skip
   case own s =>
     obtain ⟨h1, h2, h3⟩ := bindS_sound (frU_ok h)
     refine ⟨h1, h3, fun ρ' ha => ?_⟩
     obtain ⟨sl, e1, e2⟩ := ha k _ h2
     simp only [Src.is] at e2
     simp only [VR] at hv
     obtain ⟨sl', e3, e4, e5⟩ := hv
     rw [e2] at e3; injection e3 with e3; subst e3
     simp only [VR]
     exact ⟨sl, e1, e4, e5⟩
   case nils =>
     obtain ⟨h1, h2, h3⟩ := bindN_sound (frU_ok h)
     refine ⟨h1, h3, fun ρ' ha => ?_⟩
     obtain ⟨sl, e1, e2⟩ := ha k _ h2
     simp only [Src.is] at e2
     subst e2
     simp only [VR] at hv; subst hv
     simp only [VR]
     exact ⟨nilSlot, e1, rfl, rfl⟩
 | .ptr k off, c, v, M, M', x, h, hv => by
   show FitV D ρ lv n M M' (.ptr k off) v
   cases c <;> first | (cases h; done) | skip
   case ptr s off' =>
     replace h : (if off = off' then frU (bindS n k s M) else .bad) = .ok (M', ()) := h
     by_cases e : off = off'
     · rw [if_pos e] at h
       subst e
       obtain ⟨h1, h2, h3⟩ := bindS_sound (frU_ok h)
       refine ⟨h1, h3, fun ρ' ha => ?_⟩
       obtain ⟨sl, e1, e2⟩ := ha k _ h2
       simp only [Src.is] at e2
       simp only [VR] at hv
       obtain ⟨sl', i, e3, e4, e5⟩ := hv
       rw [e2] at e3; injection e3 with e3; subst e3
       simp only [VR]
       exact ⟨sl, i, e1, e4, e5⟩
     · rw [if_neg e] at h; cases h
 | .bp k, c, v, M, M', x, h, hv => by
   show FitV D ρ lv n M M' (.bp k 0) v
   cases c <;> first | (cases h; done) | skip
   case bp s off =>
     cases off with
     | succ off => cases h
     | zero =>
     obtain ⟨h1, h2, h3⟩ := bindS_sound (frU_ok h)
     refine ⟨h1, h3, fun ρ' ha => ?_⟩
     obtain ⟨sl, e1, e2⟩ := ha k _ h2
     simp only [Src.is] at e2
     simp only [VR] at hv
     obtain ⟨sl', i, e3, e4, e5⟩ := hv
     rw [e2] at e3; injection e3 with e3; subst e3
     simp only [VR]
     exact ⟨sl, i, e1, e4, e5⟩
 | .nilp, c, v, M, M', x, h, hv => by
   show FitV D ρ lv n M M' .nilp v
   cases c <;> first | (cases h; done) | skip
   cases h; exact ⟨fun _ _ h => h, fun h => h, fun ρ' _ => by simpa only [VR] using hv⟩
 | .nilf, c, v, M, M', x, h, hv => by
   show FitV D ρ lv n M M' .nilf v
   cases c <;> first | (cases h; done) | skip
   cases h; exact ⟨fun _ _ h => h, fun h => h, fun ρ' _ => by simpa only [VR] using hv⟩
 | .nili, c, v, M, M', x, h, hv => by
   show FitV D ρ lv n M M' .nili v
   cases c <;> first | (cases h; done) | skip
   cases h; exact ⟨fun _ _ h => h, fun h => h, fun ρ' _ => by simpa only [VR] using hv⟩
 | .nils, c, v, M, M', x, h, hv => by
   show FitV D ρ lv n M M' .nils v
   cases c <;> first | (cases h; done) | skip
   cases h; exact ⟨fun _ _ h => h, fun h => h, fun ρ' _ => by simpa only [VR] using hv⟩
 | .fn f a b, c, v, M, M', x, h, hv => by
   cases c <;> first | (cases h; done) | skip
   case fn f' a' b' =>
     rw [fitV_fn] at h
     by_cases e : f = f'
     · rw [if_pos e] at h
       subst e
       split at h
       · rename_i M1 y hy
         split at h
         · rename_i M2 z hz
           cases h
           simp only [VR] at hv
           obtain ⟨as, bs, rfl, k1, k2⟩ := hv
           obtain ⟨a1, a2, a3⟩ := fitL_sound a hy k1
           obtain ⟨b1, b2, b3⟩ := fitL_sound b hz k2
           refine ⟨fun j src hj => b1 j src (a1 j src hj), fun h => b2 (a2 h), fun ρ' ha => ?_⟩
           rw [bldV_fn]
           simp only [VR]
           exact ⟨as, bs, rfl, a3 ρ' (b1.agr ha), b3 ρ' ha⟩
         · cases h
         · cases h
       · cases h
       · cases h
     · rw [if_neg e] at h; cases h
 | .iface t s, c, v, M, M', x, h, hv => by
   show FitV D ρ lv n M M' (.iface t (bldV D (fun k => k) s x)) v
   cases c <;> first | (cases h; done) | skip
   case iface t' y' =>
     replace h : (if t = t' then fitV D n s y' M else .bad) = .ok (M', x) := h
     by_cases e : t = t'
     · rw [if_pos e] at h
       subst e
       simp only [VR] at hv
       obtain ⟨y, rfl, k1⟩ := hv
       obtain ⟨a1, a2, a3⟩ := fitV_sound s h k1
       exact ⟨a1, a2, fun ρ' ha => by simp only [VR]; exact ⟨y, rfl, a3 ρ' ha⟩⟩
     · rw [if_neg e] at h; cases h
 | .agg cs, c, v, M, M', x, h, hv => by
   show FitV D ρ lv n M M' (.agg (bldL D (fun k => k) cs x)) v
   cases c <;> first | (cases h; done) | skip
   case agg vs =>
     replace h : fitL D n cs vs M = .ok (M', x) := h
     simp only [VR] at hv
     obtain ⟨y, rfl, k1⟩ := hv
     obtain ⟨a1, a2, a3⟩ := fitL_sound cs h k1
     exact ⟨a1, a2, fun ρ' ha => by simp only [VR]; exact ⟨y, rfl, a3 ρ' ha⟩⟩
 | .tup cs, c, v, M, M', x, h, hv => by
   show FitV D ρ lv n M M' (.tup (bldL D (fun k => k) cs x)) v
   cases c <;> first | (cases h; done) | skip
   case tup vs =>
     replace h : fitL D n cs vs M = .ok (M', x) := h
     simp only [VR] at hv
     obtain ⟨y, rfl, k1⟩ := hv
     obtain ⟨a1, a2, a3⟩ := fitL_sound cs h k1
     exact ⟨a1, a2, fun ρ' ha => by simp only [VR]; exact ⟨y, rfl, a3 ρ' ha⟩⟩
 | .ref cs off, c, v, M, M', x, h, hv => by
   show FitV D ρ lv n M M' (.ref (bldL D (fun k => k) cs x) off) v
   cases c <;> first | (cases h; done) | skip
   case ref vs off' =>
     replace h : (if off = off' then fitL D n cs vs M else .bad) = .ok (M', x) := h
     by_cases e : off = off'
     · rw [if_pos e] at h
       subst e
       simp only [VR] at hv
       obtain ⟨y, rfl, k1⟩ := hv
       obtain ⟨a1, a2, a3⟩ := fitL_sound cs h k1
       exact ⟨a1, a2, fun ρ' ha => by simp only [VR]; exact ⟨y, rfl, a3 ρ' ha⟩⟩
     · rw [if_neg e] at h; cases h
theorem fitL_sound {n : Nat} : ∀ (l : List Sh) {cs : List (TV D.T)} {vs : List V} {M M' : Bnds D.T} {x : HL D.T (Sh.tysL l)}, fitL D n l cs M = .ok (M', x) → VRL D ρ lv cs vs → FitL D ρ lv n M M' (bldL D (fun k => k) l x) vs
 | [], cs, vs, M, M', x, h, hv => by
   cases cs with
   | nil => cases h; exact ⟨fun _ _ h => h, fun h => h, fun ρ' _ => (by simpa only [VRL] using hv : VRL D ρ' lv [] vs)⟩
   | cons c cs => cases h
 | sh :: l, cs, vs, M, M', x, h, hv => by
   cases cs with
   | nil => cases h
   | cons c cs =>
     simp only [VRL] at hv
     obtain ⟨v, r, rfl, k1, k2⟩ := hv
     rw [fitL_cons] at h
     split at h
     · rename_i M1 y hy
       split at h
       · rename_i M2 z hz
         cases h
         obtain ⟨a1, a2, a3⟩ := fitV_sound sh hy k1
         obtain ⟨b1, b2, b3⟩ := fitL_sound l hz k2
         refine ⟨fun j src hj => b1 j src (a1 j src hj), fun h => b2 (a2 h), fun ρ' ha => ?_⟩
         rw [bldL_cons]
         simp only [VRL]
         exact ⟨v, r, rfl, a3 ρ' (b1.agr ha), b3 ρ' ha⟩
       · cases h
       · cases h
     · cases h
     · cases h
end
theorem fitO_sound {n : Nat} (hR : TRr D F ρ ts σ) {o : OSh} {src : Src D.T} {M M' : Bnds D.T} {x : HL D.T o.tys} (h : fitO D n ts o src M = .ok (M', x)) :
  MExt M M' ∧ (MOk n M → MOk n M') ∧ (∀ s, src = .slot s → ∃ o', fnd ts.o s = some o' ∧ o'.live) ∧ ∀ ρ' sl, Agr ρ M' ρ' → src.is ρ sl → OR D ρ' F.lv σ.H.L sl (bldO D (fun k => k) o x) := by
 cases o with
 | cells cs =>
   cases src with
   | nil => cases h
   | slot s =>
     simp only [fitO] at h
     cases ho : fnd ts.o s with
     | none => rw [ho] at h; cases h
     | some o' =>
       rw [ho] at h
       cases o' <;> first | (cases h; done) | skip
       rename_i vs
       obtain ⟨sl', k1, k2⟩ := hR.ob s _ ho
       simp only [OR] at k2
       obtain ⟨i, us, q1, q2, q3⟩ := k2
       obtain ⟨a1, a2, a3⟩ := fitL_sound hD cs h q3
       refine ⟨a1, a2, fun s' e => by injection e with e; subst e; exact ⟨_, ho, trivial⟩, fun ρ' sl ha hs => ?_⟩
       simp only [Src.is] at hs
       rw [k1] at hs; injection hs with hs; subst hs
       simp only [bldO, OR]
       exact ⟨i, us, q1, q2, a3 ρ' ha⟩
 | st i =>
   cases src with
   | nil => cases h
   | slot s =>
     simp only [fitO] at h
     cases ho : fnd ts.o s with
     | none => rw [ho] at h; cases h
     | some o' =>
       rw [ho] at h
       cases o' <;> first | (cases h; done) | skip
       rename_i vs
       replace h : (match asLeaves D (D.fl i) vs with | .ok x => FR.ok (M, (D.make i x, ())) | .frz s => .frz s | .bad => .bad) = .ok (M', x) := h
       obtain ⟨sl', k1, k2⟩ := hR.ob s _ ho
       simp only [OR] at k2
       obtain ⟨i', us, q1, q2, q3⟩ := k2
       cases hl : asLeaves D (D.fl i) vs with
       | frz s => rw [hl] at h; cases h
       | bad => rw [hl] at h; cases h
       | ok y =>
         rw [hl] at h
         cases h
         refine ⟨fun _ _ h => h, fun h => h, fun s' e => by injection e with e; subst e; exact ⟨_, ho, trivial⟩, fun ρ' sl ha hs => ?_⟩
         simp only [Src.is] at hs
         rw [k1] at hs; injection hs with hs; subst hs
         obtain ⟨m1, m2⟩ := asLeaves_sound hl q3
         show OR D ρ' F.lv σ.H.L sl' (.cells (D.leaves (D.fl i) (D.get i (D.make i y))))
         rw [hD.getMake]
         simp only [OR]
         refine ⟨i', us, q1, q2, .of (by rw [leaves_len, m1]) fun j c v hc hv => ?_⟩
         rw [leaves_nth, Option.map_eq_some_iff] at hc
         obtain ⟨p, hp, rfl⟩ := hc
         exact VR.leaf (m2 j p v hp hv)
 | acc ty t w =>
   cases src with
   | nil =>
     cases h
     refine ⟨fun _ _ h => h, fun h => h, fun s e => (by cases e), fun ρ' sl ha hs => ?_⟩
     simp only [Src.is] at hs
     subst hs
     show OR D ρ' F.lv σ.H.L nilSlot (.acc ty t [] w)
     simp only [OR, nilSlot]
     exact ⟨rfl, fun j x v hx => by simp at hx, .inl ⟨trivial, trivial⟩⟩
   | slot s =>
     simp only [fitO] at h
     cases ho : fnd ts.o s with
     | none => rw [ho] at h; cases h
     | some o' =>
       rw [ho] at h
       cases o' <;> first | (cases h; done) | skip
       rename_i ty' t' xs w'
       replace h : (if ty = ty' ∧ (w = true → w' = true) then (match lcast t' t xs with | some xs => FR.ok (M, (xs, ())) | none => .bad) else .bad) = .ok (M', x) := h
       by_cases hc : ty = ty' ∧ (w = true → w' = true)
       · rw [if_pos hc] at h
         cases hys : lcast t' t xs with
         | none => rw [hys] at h; cases h
         | some ys =>
           rw [hys] at h
           obtain ⟨e1, e2⟩ := lcast_some hys
           subst e1
           replace e2 : ys = xs := e2
           subst e2
           cases h
           obtain ⟨sl', k1, k2⟩ := hR.ob s _ ho
           refine ⟨fun _ _ h => h, fun h => h, fun s' e => by injection e with e; subst e; exact ⟨_, ho, trivial⟩, fun ρ' sl ha hs => ?_⟩
           simp only [Src.is] at hs
           rw [k1] at hs; injection hs with hs; subst hs
           obtain ⟨hty, hw⟩ := hc
           subst hty
           simp only [OR] at k2
           obtain ⟨q1, q2, q3⟩ := k2
           show OR D ρ' F.lv σ.H.L sl' (.acc ty t' ys w)
           simp only [OR]
           refine ⟨q1, q2, ?_⟩
           cases hk : sl'.k with
           | none =>
             rw [hk] at q3
             rcases q3 with q | ⟨q, q'⟩
             · exact .inl q
             · exact .inr ⟨q, fun e => q' (hw e)⟩
           | some i => rw [hk] at q3; exact q3
       · rw [if_neg hc] at h; cases h
 | siter =>
   cases src with
   | nil => cases h
   | slot s =>
     simp only [fitO] at h
     cases ho : fnd ts.o s with
     | none => rw [ho] at h; cases h
     | some o' =>
       rw [ho] at h
       cases o' <;> first | (cases h; done) | skip
       rename_i l pos
       cases h
       obtain ⟨sl', k1, k2⟩ := hR.ob s _ ho
       refine ⟨fun _ _ h => h, fun h => h, fun s' e => by injection e with e; subst e; exact ⟨_, ho, trivial⟩, fun ρ' sl ha hs => ?_⟩
       simp only [Src.is] at hs
       rw [k1] at hs; injection hs with hs; subst hs
       exact k2
 | bld ty k =>
   cases src with
   | nil => cases h
   | slot s =>
     simp only [fitO] at h
     cases ho : fnd ts.o s with
     | none => rw [ho] at h; cases h
     | some o' =>
       rw [ho] at h
       cases o' <;> first | (cases h; done) | skip
       rename_i ty' b
       replace h : (if ty = ty' then (match b with | some q => frU (bindS n k q M) | none => frU (bindN n k M)) else .bad) = .ok (M', x) := h
       by_cases hty : ty = ty'
       · rw [if_pos hty] at h
         subst hty
         obtain ⟨sl', k1, k2⟩ := hR.ob s _ ho
         simp only [OR] at k2
         obtain ⟨i, u, c, q1, q2, q3, q4⟩ := k2
         cases b with
         | some q =>
           obtain ⟨h1, h2, h3⟩ := bindS_sound (frU_ok h)
           refine ⟨h1, h3, fun s' e => by injection e with e; subst e; exact ⟨_, ho, trivial⟩, fun ρ' sl ha hs => ?_⟩
           simp only [Src.is] at hs
           rw [k1] at hs; injection hs with hs; subst hs
           obtain ⟨sq, e1, e2⟩ := ha k _ h2
           simp only [Src.is] at e2
           simp only [bufT, VR] at q4
           obtain ⟨sq', e3, e4, e5⟩ := q4
           rw [e2] at e3; injection e3 with e3; subst e3
           simp only [bldO, OR]
           exact ⟨i, u, c, q1, q2, q3, by simp only [bufT, VR]; exact ⟨sq, e1, e4, e5⟩⟩
         | none =>
           obtain ⟨h1, h2, h3⟩ := bindN_sound (frU_ok h)
           refine ⟨h1, h3, fun s' e => by injection e with e; subst e; exact ⟨_, ho, trivial⟩, fun ρ' sl ha hs => ?_⟩
           simp only [Src.is] at hs
           rw [k1] at hs; injection hs with hs; subst hs
           obtain ⟨sq, e1, e2⟩ := ha k _ h2
           simp only [Src.is] at e2
           subst e2
           simp only [bufT, VR] at q4
           subst q4
           simp only [bldO, OR]
           exact ⟨i, u, _, q1, q2, q3, by simp only [bufT, VR]; exact ⟨nilSlot, e1, rfl, rfl⟩⟩
       · rw [if_neg hty] at h; cases h
omit hD in
theorem bldO_live {m : Nat → Nat} {o : OSh} {x : HL D.T o.tys} : (bldO D m o x).live := by cases o <;> trivial
omit hD in
theorem fitOs_cons (n : Nat) (o : OSh) (os : List OSh) (k : Nat) (M : Bnds D.T) : fitOs D n ts (o :: os) k M = (match fnd M k with
  | some src => match fitO D n ts o src M with
    | .ok (M, x) => match fitOs D n ts os (k + 1) M with
      | .ok (M, y) => .ok (M, HL.app x y)
      | .frz s => .frz s
      | .bad => .bad
    | .frz s => .frz s
    | .bad => .bad
  | none => .bad) := rfl
omit hD in
theorem bldOs_cons (m : Nat → Nat) (o : OSh) (os : List OSh) (k : Nat) (x : HL D.T o.tys) (y : HL D.T (tysO os)) : bldOs D m (o :: os) k (HL.app x y) = (m k, bldO D m o x) :: bldOs D m os (k + 1) y := by
 show (m k, bldO D m o (HL.fst _ (HL.app x y))) :: bldOs D m os (k + 1) (HL.snd _ (HL.app x y)) = _
 rw [HL.fst_app, HL.snd_app]
theorem fitOs_sound {n : Nat} (hR : TRr D F ρ ts σ) : ∀ (os : List OSh) {k : Nat} {M M' : Bnds D.T} {x : HL D.T (tysO os)}, fitOs D n ts os k M = .ok (M', x) →
  MExt M M' ∧ (MOk n M → MOk n M') ∧ (∀ j, j < os.length → ∃ src, fnd M' (k + j) = some src ∧ ∀ s, src = .slot s → ∃ o', fnd ts.o s = some o' ∧ o'.live) ∧
  (∀ ρ', Agr ρ M' ρ' → ∀ j o, (j, o) ∈ bldOs D (fun k => k) os k x → k ≤ j ∧ j < k + os.length ∧ o.live ∧ ∃ sl, ρ'[j]? = some sl ∧ OR D ρ' F.lv σ.H.L sl o)
 | [], k, M, M', x, h => by
   cases h
   exact ⟨fun _ _ h => h, fun h => h, fun j hj => by simp at hj, fun ρ' _ j o hm => by cases hm⟩
 | o :: os, k, M, M', x, h => by
   rw [fitOs_cons] at h
   split at h
   · rename_i src hsrc
     split at h
     · rename_i M1 y hy
       split at h
       · rename_i M2 z hz
         cases h
         obtain ⟨a1, a2, a3, a4⟩ := fitO_sound hD hR hy
         obtain ⟨b1, b2, b3, b4⟩ := fitOs_sound hR os hz
         refine ⟨fun j s hj => b1 j s (a1 j s hj), fun h => b2 (a2 h), fun j hj => ?_, fun ρ' ha j o' hm => ?_⟩
         · cases j with
           | zero => exact ⟨src, b1 _ _ (a1 _ _ hsrc), a3⟩
           | succ j =>
             obtain ⟨src', e1, e2⟩ := b3 j (by simpa using hj)
             exact ⟨src', by rw [← e1]; congr 1; omega, e2⟩
         · rw [bldOs_cons] at hm
           rcases List.mem_cons.1 hm with hm | hm
           · injection hm with h1 h2
             subst h1; subst h2
             obtain ⟨sl, e1, e2⟩ := ha j src (b1 _ _ (a1 _ _ hsrc))
             exact ⟨Nat.le_refl _, by simp, bldO_live, sl, e1, a4 ρ' sl (b1.agr ha) e2⟩
           · obtain ⟨e1, e2, e3⟩ := b4 ρ' ha j o' hm
             exact ⟨by omega, by simp only [List.length_cons]; omega, e3⟩
       · cases h
       · cases h
     · cases h
     · cases h
   · cases h
omit hD in
theorem fitTs_cons (n : Nat) (p : Nat × Sh) (l : List (Nat × Sh)) (M : Bnds D.T) : fitTs D n ts (p :: l) M = (match fnd ts.t p.1 with
  | some v => match fitV D n p.2 v M with
    | .ok (M, x) => match fitTs D n ts l M with
      | .ok (M, y) => .ok (M, HL.app x y)
      | .frz s => .frz s
      | .bad => .bad
    | .frz s => .frz s
    | .bad => .bad
  | none => .bad) := rfl
omit hD in
theorem bldT_cons (m : Nat → Nat) (p : Nat × Sh) (l : List (Nat × Sh)) (x : HL D.T p.2.tys) (y : HL D.T (tysT l)) : bldT D m (p :: l) (HL.app x y) = (p.1, bldV D m p.2 x) :: bldT D m l y := by
 show (p.1, bldV D m p.2 (HL.fst _ (HL.app x y))) :: bldT D m l (HL.snd _ (HL.app x y)) = _
 rw [HL.fst_app, HL.snd_app]
theorem fitTs_sound {n : Nat} (hR : TRr D F ρ ts σ) : ∀ (l : List (Nat × Sh)) {M M' : Bnds D.T} {x : HL D.T (tysT l)}, fitTs D n ts l M = .ok (M', x) →
  MExt M M' ∧ (MOk n M → MOk n M') ∧ ∀ ρ', Agr ρ M' ρ' → ∀ j c, (j, c) ∈ bldT D (fun k => k) l x → ∃ v, σ.t[j]? = some v ∧ VR D ρ' F.lv c v
 | [], M, M', x, h => by
   cases h
   exact ⟨fun _ _ h => h, fun h => h, fun ρ' _ j o hm => by cases hm⟩
 | p :: l, M, M', x, h => by
   rw [fitTs_cons] at h
   split at h
   · rename_i c hc
     split at h
     · rename_i M1 y hy
       split at h
       · rename_i M2 z hz
         cases h
         obtain ⟨v, k1, k2⟩ := hR.tm _ _ hc
         obtain ⟨a1, a2, a3⟩ := fitV_sound hD p.2 hy k2
         obtain ⟨b1, b2, b3⟩ := fitTs_sound hR l hz
         refine ⟨fun j s hj => b1 j s (a1 j s hj), fun h => b2 (a2 h), fun ρ' ha j c' hm => ?_⟩
         rw [bldT_cons] at hm
         rcases List.mem_cons.1 hm with hm | hm
         · injection hm with h1 h2
           subst h1; subst h2
           exact ⟨v, k1, a3 ρ' (b1.agr ha)⟩
         · exact b3 ρ' ha j c' hm
       · cases h
       · cases h
     · cases h
     · cases h
   · cases h
omit hD in
theorem agr_of (hR : TRr D F ρ ts σ) {M : Bnds D.T} {n : Nat} (hM : MOk n M) (hall : ∀ j, j < n → ∃ src, fnd M j = some src ∧ ∀ s, src = .slot s → ∃ o', fnd ts.o s = some o' ∧ o'.live) :
  ∃ ρ' : List Slot, ρ'.length = n ∧ Agr ρ M ρ' ∧ ∀ j sl, ρ'[j]? = some sl → ∃ src, fnd M j = some src ∧ src.is ρ sl := by
 have step : ∀ m, m ≤ n → ∃ ρ' : List Slot, ρ'.length = m ∧ ∀ j, j < m → ∃ sl src, ρ'[j]? = some sl ∧ fnd M j = some src ∧ src.is ρ sl := fun m => by
  induction m with
  | zero => exact fun _ => ⟨[], rfl, fun j hj => by omega⟩
  | succ m ih =>
    intro hm
    obtain ⟨ρ', h1, h2⟩ := ih (by omega)
    obtain ⟨src, k1, k2⟩ := hall m (by omega)
    have hsl : ∃ sl, src.is ρ sl := by
      cases src with
      | nil => exact ⟨nilSlot, rfl⟩
      | slot s =>
        obtain ⟨o', e1, _⟩ := k2 s rfl
        obtain ⟨sl, e2, _⟩ := hR.ob s o' e1
        exact ⟨sl, e2⟩
    obtain ⟨sl, hsl⟩ := hsl
    refine ⟨ρ' ++ [sl], by simp [h1], fun j hj => ?_⟩
    by_cases e : j = m
    · subst e; exact ⟨sl, src, by rw [← h1]; simp, k1, hsl⟩
    · obtain ⟨sl', src', e1, e2, e3⟩ := h2 j (by omega)
      exact ⟨sl', src', lookup_append e1, e2, e3⟩
 obtain ⟨ρ', h1, h2⟩ := step n (Nat.le_refl _)
 refine ⟨ρ', h1, fun k src hk => ?_, fun j sl hj => ?_⟩
 ·obtain ⟨sl, src', e1, e2, e3⟩ := h2 k (hM.lt k src hk)
  rw [hk] at e2; injection e2 with e2; subst e2
  exact ⟨sl, e1, e3⟩
 ·obtain ⟨sl', src', e1, e2, e3⟩ := h2 j (by rw [← h1]; exact (List.getElem?_eq_some_iff.1 hj).1)
  rw [hj] at e1; injection e1 with e1; subst e1
  exact ⟨src', e2, e3⟩
omit hD in
theorem pins_get : ∀ {n k : Nat} {src : Src T}, fnd (pins n) k = some src → k < n ∧ src = .slot k
 | 0, k, src, h => by simp [pins, fnd] at h
 | n + 1, k, src, h => by
   simp only [pins, fnd_cons] at h
   split at h
   · rename_i e; injection h with h; subst e; exact ⟨by omega, h.symm⟩
   · obtain ⟨h1, h2⟩ := pins_get h; exact ⟨by omega, h2⟩
omit hD in
theorem pins_some : ∀ {n k : Nat}, k < n → fnd (pins (T := T) n) k = some (.slot k)
 | 0, k, h => by omega
 | n + 1, k, h => by
   simp only [pins, fnd_cons]
   split
   · rename_i e; rw [e]
   · exact pins_some (by omega)
omit hD in
theorem pins_one : ∀ {n k : Nat} {src : Src T}, (k, src) ∈ pins (T := T) n → fnd (pins n) k = some src
 | 0, k, src, h => by cases h
 | n + 1, k, src, h => by
   simp only [pins, fnd_cons]
   rcases List.mem_cons.1 h with h | h
   · injection h with h1 h2; subst h1; subst h2; rw [if_pos rfl]
   · have := pins_one h
     split
     · rename_i e; subst e; have := (pins_get this).1; omega
     · exact this
theorem LSh.fit_sound (hR : TRr D F ρ ts σ) {l : LSh} {x : HL D.T l.tys} (hp : F.pin.length ≤ l.pin) (hp2 : l.pin ≤ l.os.length) (h : l.fit D ts = .ok x) : ∃ ρ', TRr D F ρ' (l.bld D x) σ := by
 unfold LSh.fit at h
 by_cases hnt0 : ts.nt = l.nt ∧ ts.d.isEmpty = true
 rotate_left
 ·rw [if_neg hnt0] at h; cases h
 rw [if_pos hnt0] at h
 obtain ⟨hnt, hde⟩ := hnt0
 have hde : ts.d = [] := by simpa using hde
 split at h
 ·rename_i M y hy
  split at h
  ·rename_i M' z hz
   cases h
   obtain ⟨a1, a2, a3⟩ := fitTs_sound hD hR l.ts hy
   obtain ⟨b1, b2, b3, b4⟩ := fitOs_sound hD hR l.os hz
   have hM : MOk l.os.length M' := b2 (a2 ⟨fun k src h => by have := (pins_get h).1; omega, fun k k' s h h' => by have e := (pins_get h).2; have e' := (pins_get h').2; injection e with e; injection e' with e'; omega, fun k src hm => pins_one hm⟩)
   obtain ⟨ρ', c1, c2, c3⟩ := agr_of hR hM fun j hj => by simpa using b3 j hj
   have hb : l.bld D (HL.app y z) = ⟨bldT D (fun k => k) l.ts y, bldOs D (fun k => k) l.os 0 z, l.os.length, l.nt, []⟩ := by
    show (⟨bldT D (fun k => k) l.ts (HL.fst _ (HL.app y z)), bldOs D (fun k => k) l.os 0 (HL.snd _ (HL.app y z)), l.os.length, l.nt, []⟩ : TS D.T) = _
    rw [HL.fst_app, HL.snd_app]
   rw [hb]
   have place : ∀ s sl i, ρ'[s]? = some sl → sl.k = some i → ∃ s0 o0, fnd M' s = some (.slot s0) ∧ fnd ts.o s0 = some o0 ∧ o0.live ∧ ρ[s0]? = some sl := fun s sl i hs hk => by
    obtain ⟨src, e1, e2⟩ := c3 s sl hs
    cases src with
    | nil => simp only [Src.is] at e2; subst e2; cases hk
    | slot s0 =>
      obtain ⟨src', e3, e4⟩ := b3 s (by rw [← c1]; exact (List.getElem?_eq_some_iff.1 hs).1)
      rw [Nat.zero_add, e1] at e3; injection e3 with e3; subst e3
      obtain ⟨o0, f1, f2⟩ := e4 s0 rfl
      exact ⟨s0, o0, e1, f1, f2, e2⟩
   refine ⟨ρ', c1, hR.nt.trans hnt, fun j c hj => a3 ρ' (b1.agr c2) j c (fnd_mem hj), fun s o ho => ?_, fun s s' o o' sl sl' i h1 h2 l1 l2 r1 r2 k1 k2 => ?_, fun s o sl i h1 l1 r1 k1 => ?_, hR.lv, hR.E, hR.e0, (by have := hR.d; rw [hde] at this; exact this), hR.out, fun j sl hj => ?_⟩
   rotate_right
   ·have hlt := (List.getElem?_eq_some_iff.1 hj).1
    obtain ⟨sl', e1, e2⟩ := c2 j _ (b1 _ _ (a1 _ _ (pins_some (n := l.pin) (k := j) (by omega))))
    simp only [Src.is] at e2
    rw [hR.pin j sl hj] at e2; injection e2 with e2; subst e2; exact e1
   ·obtain ⟨_, _, _, sl, e1, e2⟩ := b4 ρ' c2 s o (fnd_mem ho)
    exact ⟨sl, e1, e2⟩
   ·obtain ⟨s0, o0, d1, d2, d3, d4⟩ := place s sl i r1 k1
    obtain ⟨s1, o1, e1, e2, e3, e4⟩ := place s' sl' i r2 k2
    have := hR.inj s0 s1 o0 o1 sl sl' i d2 e2 d3 e3 d4 e4 k1 k2
    subst this
    exact hM.inj s s' s0 d1 e1
   ·obtain ⟨s0, o0, d1, d2, d3, d4⟩ := place s sl i r1 k1
    exact hR.mine s0 o0 sl i d2 d3 d4 k1
  ·cases h
  ·cases h
 ·cases h
 ·cases h
omit hD in
def TR (D : Dat) (F : Fr) (ts : TS D.T) (σ : St) : Prop := ∃ τ ρ, Weak σ τ ∧ TRr D F ρ ts τ
omit hD in
theorem TRr.tr (hR : TRr D F ρ ts σ) : TR D F ts σ := ⟨σ, ρ, .refl σ, hR⟩
omit hD in
theorem TR.freeze (h : TR D F ts σ) {s : Nat} {ts' : TS D.T} (hf : ts.freeze D s = some ts') : TR D F ts' σ := by
 obtain ⟨τ, ρ, h1, h2⟩ := h
 obtain ⟨υ, h3, h4⟩ := freeze_sound h2 hf
 exact ⟨υ, ρ, h1.trans h3, h4⟩
theorem LSh.enter_sound {R : Type} {l : LSh} (hp : F.pin.length ≤ l.pin) (hp2 : l.pin ≤ l.os.length) {k : HL D.T l.tys → Option R} {r : R} : ∀ {f : Nat} {ts : TS D.T}, TR D F ts σ → LSh.enter D l k f ts = some r → ∃ x, k x = some r ∧ TR D F (l.bld D x) σ
 | 0, ts, hT, h => by simp [LSh.enter] at h
 | f + 1, ts, hT, h => by
   simp only [LSh.enter] at h
   split at h
   · rename_i x hx
     obtain ⟨τ, ρ, h1, h2⟩ := hT
     obtain ⟨ρ', h3⟩ := LSh.fit_sound hD h2 hp hp2 hx
     exact ⟨x, h, τ, ρ', h1, h3⟩
   · split at h
     · rename_i s _ ts' hf
       obtain ⟨x, h1, h2⟩ := LSh.enter_sound hp hp2 (hT.freeze hf) h
       exact ⟨x, h1, h2⟩
     · cases h
   · cases h
end
end Go.Ab


namespace Go.Ab
open Go
set_option linter.unusedVariables false
set_option linter.unusedSimpArgs false
set_option linter.unusedSectionVars false
section
variable {P : Program} {D : Dat} {F : Fr} {ρ : List Slot} {ts : TS D.T} {σ : St} {lv : Nat} {T : Nat → Type}
theorem fnd_append {α : Type} : ∀ (a b : List (Nat × α)) (j : Nat), fnd (a ++ b) j = match fnd a j with | some x => some x | none => fnd b j
 | [], b, j => rfl
 | (i, x) :: a, b, j => by
   rw [List.cons_append, fnd_cons, fnd_cons]
   split
   · rfl
   · exact fnd_append a b j
theorem VR.leafData {ρ' : List Slot} {lv' : Nat} {t : DTy} {x : t.S D.T} {v : V} (h : VR D ρ lv (D.leaf t x) v) : VR D ρ' lv' (D.leaf t x) v := by
 cases t <;> first | (simp only [Dat.leaf, VR]; done) | simpa only [Dat.leaf, VR] using h
theorem VR.data {ρ' : List Slot} {lv' : Nat} {t : DTy} {x : t.S D.T} {v : V} (hD : D.Ok P) (h : VR D ρ lv (D.tv t x) v) : VR D ρ' lv' (D.tv t x) v := by
 cases t with
 | st i =>
   simp only [Dat.tv, VR] at h ⊢
   obtain ⟨vs, rfl, h⟩ := h
   refine ⟨vs, rfl, .of h.length fun j c v hc hv => ?_⟩
   have := h.get2 hc hv
   rw [leaves_nth, Option.map_eq_some_iff] at hc
   obtain ⟨p, hp, rfl⟩ := hc
   exact VR.leafData this
 | bool => exact VR.leafData (t := .bool) h
 | int k => exact VR.leafData (t := .int k) h
 | str => exact VR.leafData (t := .str) h
 | nat => exact VR.leafData (t := .nat) (x := x) h
 | sl t => exact VR.leafData (t := .sl t) h
def Maps (m : Nat → Nat) (ρ ρ' : List Slot) : Prop := ∀ (j : Nat) (sl : Slot), ρ[j]? = some sl → ρ'[m j]? = some sl
variable {m : Nat → Nat} {ρ' : List Slot}
mutual
theorem VR.maps (hm : Maps m ρ ρ') (hD : D.Ok P) : ∀ (sh : Sh) {x : HL D.T sh.tys} {v : V}, VR D ρ lv (bldV D (fun k => k) sh x) v → VR D ρ' lv (bldV D m sh x) v
 | .any, x, v, h => (by simp only [VR] : VR D ρ' lv .any v)
 | .d t, x, v, h => by
   replace h : VR D ρ lv (D.tv t x.1) v := h
   show VR D ρ' lv (D.tv t x.1) v
   exact VR.data hD h
 | .own k, x, v, h => by
   replace h : VR D ρ lv (.own k) v := h
   show VR D ρ' lv (.own (m k)) v
   simp only [VR] at h ⊢
   obtain ⟨sl, h1, h2⟩ := h
   exact ⟨sl, hm k sl h1, h2⟩
 | .ptr k off, x, v, h => by
   replace h : VR D ρ lv (.ptr k off) v := h
   show VR D ρ' lv (.ptr (m k) off) v
   simp only [VR] at h ⊢
   obtain ⟨sl, i, h1, h2⟩ := h
   exact ⟨sl, i, hm k sl h1, h2⟩
 | .bp k, x, v, h => by
   replace h : VR D ρ lv (.bp k 0) v := h
   show VR D ρ' lv (.bp (m k) 0) v
   simp only [VR] at h ⊢
   obtain ⟨sl, i, h1, h2⟩ := h
   exact ⟨sl, i, hm k sl h1, h2⟩
 | .nilp, x, v, h => by
   replace h : VR D ρ lv .nilp v := h
   show VR D ρ' lv .nilp v
   simpa only [VR] using h
 | .nilf, x, v, h => by
   replace h : VR D ρ lv .nilf v := h
   show VR D ρ' lv .nilf v
   simpa only [VR] using h
 | .nili, x, v, h => by
   replace h : VR D ρ lv .nili v := h
   show VR D ρ' lv .nili v
   simpa only [VR] using h
 | .nils, x, v, h => by
   replace h : VR D ρ lv .nils v := h
   show VR D ρ' lv .nils v
   simpa only [VR] using h
 | .fn f a b, x, v, h => by
   replace h : VR D ρ lv (.fn f (bldL D (fun k => k) a (HL.fst _ x)) (bldL D (fun k => k) b (HL.snd _ x))) v := h
   show VR D ρ' lv (.fn f (bldL D m a (HL.fst _ x)) (bldL D m b (HL.snd _ x))) v
   simp only [VR] at h ⊢
   obtain ⟨as, bs, h1, h2, h3⟩ := h
   exact ⟨as, bs, h1, VRL.maps hm hD a h2, VRL.maps hm hD b h3⟩
 | .iface t s, x, v, h => by
   replace h : VR D ρ lv (.iface t (bldV D (fun k => k) s x)) v := h
   show VR D ρ' lv (.iface t (bldV D m s x)) v
   simp only [VR] at h ⊢
   obtain ⟨y, h1, h2⟩ := h
   exact ⟨y, h1, VR.maps hm hD s h2⟩
 | .agg cs, x, v, h => by
   replace h : VR D ρ lv (.agg (bldL D (fun k => k) cs x)) v := h
   show VR D ρ' lv (.agg (bldL D m cs x)) v
   simp only [VR] at h ⊢
   obtain ⟨y, h1, h2⟩ := h
   exact ⟨y, h1, VRL.maps hm hD cs h2⟩
 | .tup cs, x, v, h => by
   replace h : VR D ρ lv (.tup (bldL D (fun k => k) cs x)) v := h
   show VR D ρ' lv (.tup (bldL D m cs x)) v
   simp only [VR] at h ⊢
   obtain ⟨y, h1, h2⟩ := h
   exact ⟨y, h1, VRL.maps hm hD cs h2⟩
 | .ref cs off, x, v, h => by
   replace h : VR D ρ lv (.ref (bldL D (fun k => k) cs x) off) v := h
   show VR D ρ' lv (.ref (bldL D m cs x) off) v
   simp only [VR] at h ⊢
   obtain ⟨y, h1, h2⟩ := h
   exact ⟨y, h1, VRL.maps hm hD cs h2⟩
theorem VRL.maps (hm : Maps m ρ ρ') (hD : D.Ok P) : ∀ (l : List Sh) {x : HL D.T (Sh.tysL l)} {vs : List V}, VRL D ρ lv (bldL D (fun k => k) l x) vs → VRL D ρ' lv (bldL D m l x) vs
 | [], x, vs, h => by
   replace h : VRL D ρ lv [] vs := h
   show VRL D ρ' lv [] vs
   simpa only [VRL] using h
 | sh :: l, x, vs, h => by
   replace h : VRL D ρ lv (bldV D (fun k => k) sh (HL.fst _ x) :: bldL D (fun k => k) l (HL.snd _ x)) vs := h
   show VRL D ρ' lv (bldV D m sh (HL.fst _ x) :: bldL D m l (HL.snd _ x)) vs
   simp only [VRL] at h ⊢
   obtain ⟨v, r, h1, h2, h3⟩ := h
   exact ⟨v, r, h1, VR.maps hm hD sh h2, VRL.maps hm hD l h3⟩
end
theorem OR.maps (hm : Maps m ρ ρ') (hD : D.Ok P) {L : List (Option AObj)} {sl : Slot} {o : OSh} {x : HL D.T o.tys} (h : OR D ρ lv L sl (bldO D (fun k => k) o x)) : OR D ρ' lv L sl (bldO D m o x) := by
 cases o with
 | cells cs =>
   simp only [bldO, OR] at h ⊢
   obtain ⟨i, vs, h1, h2, h3⟩ := h
   exact ⟨i, vs, h1, h2, VRL.maps hm hD cs h3⟩
 | st i =>
   simp only [bldO, OR] at h ⊢
   obtain ⟨j, vs, h1, h2, h3⟩ := h
   refine ⟨j, vs, h1, h2, .of h3.length fun k c v hc hv => ?_⟩
   have := h3.get2 hc hv
   rw [leaves_nth, Option.map_eq_some_iff] at hc
   obtain ⟨p, hp, rfl⟩ := hc
   exact VR.leafData this
 | acc ty t w => exact h
 | siter => exact h
 | bld ty k =>
   simp only [bldO, OR] at h ⊢
   obtain ⟨i, u, c, h1, h2, h3, h4⟩ := h
   refine ⟨i, u, c, h1, h2, h3, ?_⟩
   simp only [bufT, VR] at h4 ⊢
   obtain ⟨sl, k1, k2⟩ := h4
   exact ⟨sl, hm k sl k1, k2⟩
theorem bldOs_at : ∀ (os : List OSh) {k : Nat} {x : HL D.T (tysO os)} {s : Nat} {o : TO D.T}, (s, o) ∈ bldOs D m os k x → ∃ j, k ≤ j ∧ j < k + os.length ∧ s = m j ∧ ∃ (osh : OSh) (y : HL D.T osh.tys), o = bldO D m osh y ∧ (j, bldO D (fun k => k) osh y) ∈ bldOs D (fun k => k) os k x
 | [], k, x, s, o, h => by cases h
 | osh :: os, k, x, s, o, h => by
   replace h : (s, o) ∈ (m k, bldO D m osh (HL.fst _ x)) :: bldOs D m os (k + 1) (HL.snd _ x) := h
   rcases List.mem_cons.1 h with h | h
   · injection h with h1 h2
     exact ⟨k, Nat.le_refl _, by simp, h1, osh, HL.fst _ x, h2, List.mem_cons_self⟩
   · obtain ⟨j, h1, h2, h3, osh', y, h4, h5⟩ := bldOs_at os h
     exact ⟨j, by omega, by simp only [List.length_cons]; omega, h3, osh', y, h4, List.mem_cons_of_mem _ h5⟩
theorem goneAll_get : ∀ {M : Bnds D.T} {s : Nat} {o : TO D.T}, fnd (goneAll D M) s = some o → o = .gone ∧ ∃ k, (k, Src.slot s) ∈ M
 | [], s, o, h => by simp [goneAll, fnd] at h
 | (k, .slot s') :: M, s, o, h => by
   simp only [goneAll, fnd_cons] at h
   split at h
   · rename_i e; injection h with h; subst e; exact ⟨h.symm, k, List.mem_cons_self⟩
   · obtain ⟨h1, k', h2⟩ := goneAll_get h; exact ⟨h1, k', List.mem_cons_of_mem _ h2⟩
 | (k, .nil) :: M, s, o, h => by
   simp only [goneAll] at h
   obtain ⟨h1, k', h2⟩ := goneAll_get h
   exact ⟨h1, k', List.mem_cons_of_mem _ h2⟩
theorem goneAll_none : ∀ {M : Bnds D.T} {s : Nat}, fnd (goneAll D M) s = none → ∀ k, (k, Src.slot s) ∉ M
 | [], s, h, k, hm => by cases hm
 | (k', .slot s') :: M, s, h, k, hm => by
   simp only [goneAll, fnd_cons] at h
   split at h
   · cases h
   · rename_i e
     rcases List.mem_cons.1 hm with hm | hm
     · injection hm with _ hm; injection hm with hm; exact e hm.symm
     · exact goneAll_none h k hm
 | (k', .nil) :: M, s, h, k, hm => by
   simp only [goneAll] at h
   rcases List.mem_cons.1 hm with hm | hm
   · injection hm with _ hm; cases hm
   · exact goneAll_none h k hm
structure Left (D : Dat) (lv : Nat) (L : List (Option AObj)) (ρ : List Slot) (p : Nat) (L' : List (Option AObj)) (ρ' : List Slot) (os : List OSh) (y : HL D.T (tysO os)) : Prop where
 len : ρ'.length = os.length
 ob : ∀ j o, (j, o) ∈ bldOs D (fun k => k) os 0 y → ∃ sl, ρ'[j]? = some sl ∧ OR D ρ' lv L' sl o
 inj : ∀ (s s' : Nat) (sl sl' : Slot) (i : Nat), ρ'[s]? = some sl → ρ'[s']? = some sl' → sl.k = some i → sl'.k = some i → s = s'
 mine : ∀ (s : Nat) (sl : Slot) (i : Nat), ρ'[s]? = some sl → sl.k = some i → L.length ≤ i ∨ ∃ (k : Nat) (sl0 : Slot), ρ[k]? = some sl0 ∧ sl0.k = some i
 out : ∀ i, i < L.length → (∀ (k : Nat) (sl0 : Slot), ρ[k]? = some sl0 → sl0.k ≠ some i) → i < L'.length ∧ L'[i]? = L[i]?
 pin : ∀ (j : Nat) (sl : Slot), j < p → ρ[j]? = some sl → ρ'[j]? = some sl
theorem TRr.after (hR : TRr D F ρ ts σ) (hD : D.Ok P) {M : Bnds D.T} {n p : Nat} (hM : MOk n M) {ρ0 : List Slot} (hA : Agr ρ M ρ0) (h0 : ∀ j sl, ρ0[j]? = some sl → ∃ src, fnd M j = some src ∧ src.is ρ sl ∧ ∀ s, src = .slot s → ∃ o', fnd ts.o s = some o' ∧ o'.live)
  (hMk : ∀ k s, (k, Src.slot s) ∈ M → fnd M k = some (.slot s)) (hp : ∀ k, k < p → ∃ s, fnd M k = some (.slot s)) {L' : List (Option AObj)} {ρ' : List Slot} {os : List OSh} {y : HL D.T (tysO os)} (hpo : p ≤ os.length) (hL : Left D F.lv σ.H.L ρ0 p L' ρ' os y) :
  TRr D F (ρ ++ ρ'.drop p) (afterCall D M p ts os y) { σ with H := ⟨F.lv, L', F.E⟩ } ∧ Maps (outSlot D M p ts.nx) ρ' (ρ ++ ρ'.drop p) := by
 have hmaps : Maps (outSlot D M p ts.nx) ρ' (ρ ++ ρ'.drop p) := fun j sl hj => by
  unfold outSlot
  by_cases hjp : j < p
  ·rw [if_pos hjp]
   obtain ⟨s, hs⟩ := hp j hjp
   obtain ⟨sl0, e1, e2⟩ := hA j _ hs
   have := hL.pin j sl0 hjp e1
   rw [hj] at this; injection this with this; subst this
   rw [hs]
   exact lookup_append e2
  ·rw [if_neg hjp, ← hR.nx, List.getElem?_append_right (by omega), List.getElem?_drop]
   rw [← hj]; congr 1; omega
 have minj : ∀ j j', j < os.length → j' < os.length → outSlot D M p ts.nx j = outSlot D M p ts.nx j' → j = j' := fun j j' hj hj' h => by
  unfold outSlot at h
  have low : ∀ j s, fnd M j = some (.slot s) → s < ts.nx := fun j s hs => by
   obtain ⟨sl0, e1, e2⟩ := hA j _ hs
   rw [← hR.nx]
   exact (List.getElem?_eq_some_iff.1 e2).1
  by_cases h1 : j < p <;> by_cases h2 : j' < p
  ·rw [if_pos h1, if_pos h2] at h
   obtain ⟨s, hs⟩ := hp j h1
   obtain ⟨s', hs'⟩ := hp j' h2
   rw [hs, hs'] at h
   simp only at h
   subst h
   exact hM.inj j j' s hs hs'
  ·obtain ⟨s, hs⟩ := hp j h1; rw [if_pos h1, if_neg h2, hs] at h; simp only at h; have := low j s hs; omega
  ·obtain ⟨s, hs⟩ := hp j' h2; rw [if_neg h1, if_pos h2, hs] at h; simp only at h; have := low j' s hs; omega
  ·rw [if_neg h1, if_neg h2] at h; omega
 have kinds : ∀ s o, fnd (afterCall D M p ts os y).o s = some o → (∃ j, j < os.length ∧ s = outSlot D M p ts.nx j ∧ ∃ (osh : OSh) (z : HL D.T osh.tys), o = bldO D (outSlot D M p ts.nx) osh z ∧ (j, bldO D (fun k => k) osh z) ∈ bldOs D (fun k => k) os 0 y) ∨ (o = .gone ∧ ∃ k, (k, Src.slot s) ∈ M) ∨ (fnd ts.o s = some o ∧ ∀ k, (k, Src.slot s) ∉ M) := fun s o h => by
  simp only [afterCall] at h
  rw [fnd_append] at h
  split at h
  ·rename_i o' ho'
   injection h with h; subst h
   obtain ⟨j, h1, h2, h3, h4⟩ := bldOs_at os (fnd_mem ho')
   exact .inl ⟨j, by omega, h3, h4⟩
  ·rw [fnd_append] at h
   split at h
   ·rename_i o' ho'
    injection h with h; subst h
    obtain ⟨h1, h2⟩ := goneAll_get ho'
    exact .inr (.inl ⟨h1, h2⟩)
   ·rename_i hn
    exact .inr (.inr ⟨h, goneAll_none hn⟩)
 have apart : ∀ s o sl i, fnd ts.o s = some o → o.live → (∀ k, (k, Src.slot s) ∉ M) → ρ[s]? = some sl → sl.k = some i → ∀ (k : Nat) (sl0 : Slot), ρ0[k]? = some sl0 → sl0.k ≠ some i := fun s o sl i ho hl hno hs hk k sl0 h1 h2 => by
  obtain ⟨src, e1, e2, e3⟩ := h0 k sl0 h1
  cases src with
  | nil => simp only [Src.is] at e2; subst e2; cases h2
  | slot s0 =>
    obtain ⟨o', f1, f2⟩ := e3 s0 rfl
    have := hR.inj s s0 o o' sl sl0 i ho f1 hl f2 hs e2 hk h2
    subst this
    exact hno k (fnd_mem e1)
 have passed : ∀ (k : Nat) (sl0 : Slot) (i : Nat), ρ0[k]? = some sl0 → sl0.k = some i → ¬ F.out i := fun k sl0 i h1 h2 => by
  obtain ⟨src, e1, e2, e3⟩ := h0 k sl0 h1
  cases src with
  | nil => simp only [Src.is] at e2; subst e2; cases h2
  | slot s0 =>
    obtain ⟨o', f1, f2⟩ := e3 s0 rfl
    exact hR.mine s0 o' sl0 i f1 f2 e2 h2
 have oldlt : ∀ s o sl i, fnd ts.o s = some o → o.live → ρ[s]? = some sl → sl.k = some i → i < σ.H.L.length := fun s o sl i ho hl hs hk => by
  obtain ⟨q, h1, h2⟩ := hR.ob s o ho
  rw [hs] at h1; injection h1 with h1; subst h1
  exact h2.lt hl hk
 have slotOld : ∀ s o sl, fnd ts.o s = some o → (ρ ++ ρ'.drop p)[s]? = some sl → ρ[s]? = some sl := fun s o sl ho h => by
  obtain ⟨q, h1, h2⟩ := hR.ob s o ho
  rw [lookup_append h1] at h; rw [h1, h]
 have slotNew : ∀ j sl, j < os.length → (ρ ++ ρ'.drop p)[outSlot D M p ts.nx j]? = some sl → ρ'[j]? = some sl := fun j sl hj h => by
  have hlt : j < ρ'.length := by rw [hL.len]; exact hj
  have := hmaps j ρ'[j] (List.getElem?_eq_getElem hlt)
  rw [this] at h; injection h with h; rw [← h]; exact List.getElem?_eq_getElem hlt
 refine ⟨⟨?_, hR.nt, fun j x hj => ?_, fun s o ho => ?_, fun s s' o o' sl sl' i h1 h2 l1 l2 r1 r2 k1 k2 => ?_, fun s o sl i h1 l1 r1 k1 => ?_, rfl, rfl, hR.e0, hR.d.more _, fun i hi => ?_, fun j sl hj => lookup_append (hR.pin j sl hj)⟩, hmaps⟩
 ·simp only [afterCall, List.length_append, List.length_drop, hL.len, hR.nx]
 ·obtain ⟨v, h1, h2⟩ := hR.tm j x hj
  exact ⟨v, h1, h2.more _⟩
 ·rcases kinds s o ho with ⟨j, h1, h2, osh, z, h3, h4⟩ | ⟨rfl, k, h1⟩ | ⟨h1, h2⟩
  ·obtain ⟨sl, e1, e2⟩ := hL.ob j _ h4
   refine ⟨sl, by rw [h2]; exact hmaps j sl e1, ?_⟩
   rw [h3]; exact OR.maps hmaps hD e2
  ·obtain ⟨sl0, e1, e2⟩ := hA k _ (hMk k s h1)
   exact ⟨sl0, lookup_append e2, by simp only [OR]⟩
  ·obtain ⟨q, e1, e2⟩ := hR.ob s o h1
   exact ⟨q, lookup_append e1, e2.mono _ fun i hi hl => (hL.out i (e2.lt hl hi) (apart s o q i h1 hl h2 e1 hi)).2⟩
 ·rcases kinds s o h1 with ⟨j, a1, a2, osh, z, a3, a4⟩ | ⟨rfl, k, a1⟩ | ⟨a1, a2⟩
  ·rcases kinds s' o' h2 with ⟨j', b1, b2, osh', z', b3, b4⟩ | ⟨rfl, k', b1⟩ | ⟨b1, b2⟩
   ·rw [a2, b2]
    congr 1
    rw [a2] at r1; rw [b2] at r2
    exact hL.inj j j' sl sl' i (slotNew j sl a1 r1) (slotNew j' sl' b1 r2) k1 k2
   ·exact l2.elim
   ·exfalso
    rw [a2] at r1
    have q2 := slotOld s' o' sl' b1 r2
    rcases hL.mine j sl i (slotNew j sl a1 r1) k1 with h | ⟨k, sl0, e1, e2⟩
    ·have := oldlt s' o' sl' i b1 l2 q2 k2; omega
    ·exact apart s' o' sl' i b1 l2 b2 q2 k2 k sl0 e1 e2
  ·exact l1.elim
  ·rcases kinds s' o' h2 with ⟨j', b1, b2, osh', z', b3, b4⟩ | ⟨rfl, k', b1⟩ | ⟨b1, b2⟩
   ·exfalso
    rw [b2] at r2
    have q1 := slotOld s o sl a1 r1
    rcases hL.mine j' sl' i (slotNew j' sl' b1 r2) k2 with h | ⟨k, sl0, e1, e2⟩
    ·have := oldlt s o sl i a1 l1 q1 k1; omega
    ·exact apart s o sl i a1 l1 a2 q1 k1 k sl0 e1 e2
   ·exact l2.elim
   ·exact hR.inj s s' o o' sl sl' i a1 b1 l1 l2 (slotOld _ _ _ a1 r1) (slotOld _ _ _ b1 r2) k1 k2
 ·rcases kinds s o h1 with ⟨j, a1, a2, osh, z, a3, a4⟩ | ⟨rfl, k, a1⟩ | ⟨a1, a2⟩
  ·rw [a2] at r1
   rcases hL.mine j sl i (slotNew j sl a1 r1) k1 with h | ⟨k, sl0, e1, e2⟩
   ·intro ho; have := (hR.out i ho).1; omega
   ·exact passed k sl0 i e1 e2
  ·exact l1.elim
  ·exact hR.mine s o sl i a1 l1 (slotOld _ _ _ a1 r1) k1
 ·obtain ⟨h1, h2⟩ := hR.out i hi
  obtain ⟨h3, h4⟩ := hL.out i h1 fun k sl0 e1 e2 => passed k sl0 i e1 e2 hi
  exact ⟨h3, h4.trans h2⟩
end
end Go.Ab

