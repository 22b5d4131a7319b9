import Derived.Test.YtfhpamcehnfhoaaGreatDoorAbPure2
import Derived.MapKept
namespace Go.Ab
open Go
set_option linter.unusedSimpArgs false
set_option linter.unusedVariables false
section
variable {W : World} {g : Gh} {H : Heap} {P : Program}

/-! ### equality -/

mutual
def eqv (P : Program) : Nat → Nat → V → V → Option Bool
  | 0, _, _, _ => none
  | d + 1, t, x, y =>
    match x, y with
    | .bool a, .bool b => match P.underlying t with | some .bool => some (a == b) | _ => none
    | .int k a, .int k' b => match P.underlying t with | some (.int _) => if k = k' then some (a == b) else none | _ => none
    | .str a, .str b => match P.underlying t with | some .string => some (a == b) | _ => none
    | .agg xs, .agg ys => match P.underlying t with | some (.struct fs) => if P.stoodInHeld t then none else eqFs P d fs.toList xs ys | _ => none
    | .nilp, .nilp => match P.underlying t with | some (.pointer _) => some true | _ => none
    | .nilp, .ptr _ _ _ | .nilp, .ref _ _ | .nilp, .ap _ _ _ _ _ => match P.underlying t with | some (.pointer _) => some false | _ => none
    | .ptr _ _ _, .nilp | .ref _ _, .nilp | .ap _ _ _ _ _, .nilp => match P.underlying t with | some (.pointer _) => some false | _ => none
    | .nils, .nils => match P.underlying t with | some (.slice _) => some true | _ => none
    | .nils, .sl _ (_ :: _) _ | .sl _ (_ :: _) _, .nils => match P.underlying t with | some (.slice _) => some false | _ => none
    | .mapn, .mapn => match P.underlying t with | some (.map _ _) => some true | _ => none
    | .mapn, .map _ _ | .map _ _, .mapn => match P.underlying t with | some (.map _ _) => some false | _ => none
    | .nilf, .nilf => match P.underlying t with | some (.func ..) => some true | _ => none
    | .nilf, .fn _ _ _ | .fn _ _ _, .nilf => match P.underlying t with | some (.func ..) => some false | _ => none
    | .nili, .iface _ _ | .iface _ _, .nili => match P.underlying t with | some (.interface _) => some false | _ => none
    | _, _ => none
def eqFs (P : Program) : Nat → List Field → List V → List V → Option Bool
  | 0, _, _, _ => none
  | _, [], _, _ => some true
  | d + 1, f :: fs, xs, ys =>
    if f.name = "_" then eqFs P d fs xs ys else
    match rd P f.type xs f.offset, rd P f.type ys f.offset with
    | some a, some b => match eqv P d f.type a b, eqFs P d fs xs ys with
      | some r, some s => some (r && s)
      | _, _ => none
    | _, _ => none
end

theorem eqv_sound : ∀ (d : Nat), (∀ (D t : Nat) (x y : V) (r : Bool) (c e : Value), d ≤ D → eqv P d t x y = some r → Rel W g H x c → Rel W g H y e → (Op.equalIn D t c e).run P W = .ok r W) ∧
    (∀ (D : Nat) (fs : List Field) (xs ys : List V) (r : Bool) (cs es : Array Value), d ≤ D → eqFs P d fs xs ys = some r → cs.size = xs.length → es.size = ys.length → (∀ j v, xs[j]? = some v → (cs.getD j undef).oneCell' = true) → (∀ j v, ys[j]? = some v → (es.getD j undef).oneCell' = true) → (∀ j v, xs[j]? = some v → Rel W g H v (cs.getD j undef)) →
      (∀ j v, ys[j]? = some v → Rel W g H v (es.getD j undef)) → (Op.eqFields D cs es fs).run P W = .ok r W)
  | 0 => by constructor <;> (intros; rename_i h; simp [eqv, eqFs] at *)
  | d + 1 => by
    obtain ⟨ih1, ih2⟩ := eqv_sound d
    constructor
    · intro D t x y r c e hD h hx hy
      obtain ⟨D, rfl⟩ : ∃ D', D = D' + 1 := ⟨D - 1, by omega⟩
      unfold eqv at h
      split at h
      · split at h
        · rename_i hu; injection h with h; subst h; cases hx; cases hy; exact run_equalIn_bool' W D t _ _ hu
        · cases h
      · split at h
        · rename_i hu
          split at h
          · rename_i hk; subst hk; injection h with h; subst h; cases hx; cases hy; exact run_equalIn_int W D t _ _ _ _ hu
          · cases h
        · cases h
      · split at h
        · rename_i hu; injection h with h; subst h; cases hx; cases hy
          rw [run_equalIn_string W D t _ _ hu]; simp
        · cases h
      · rename_i xs ys
        split at h
        · rename_i fs hu
          split at h
          · cases h
          · rename_i hp
            cases hx with
            | agg _ a hn ho1 hr =>
              cases hy with
              | agg _ b hn' ho1' hr' =>
                have hf : P.fieldsOf t = fs := by simp [Program.fieldsOf, hu]
                rw [run_equalIn_struct W D t a b (by rw [hf]; exact hu) (by simpa using hp), hf]
                exact ih2 D fs.toList xs ys r a b (by omega) h hn hn' ho1 ho1' hr hr'
        · cases h
      all_goals first
        | (split at h
           · rename_i hu; injection h with h; subst h; cases hx <;> cases hy <;> simp [Op.equalIn, run_underlying' hu]
           · cases h)
        | cases h
    · intro D fs xs ys r cs es hD h hn hn' ho1 ho1' hr hr'
      cases fs with
      | nil => simp only [eqFs, Option.some.injEq] at h; subst h; simp [Op.eqFields]
      | cons f fs =>
        simp only [eqFs] at h
        split at h
        · rename_i hname
          simp only [Op.eqFields, hname]
          simp only [ne_eq, not_true_eq_false, if_false]
          exact ih2 D fs _ _ r cs es (by omega) h hn hn' ho1 ho1' hr hr'
        · rename_i hname
          split at h
          · rename_i a b ha hb
            split at h
            · rename_i r1 r2 h1 h2
              injection h with h; subst h
              obtain ⟨u, hu, hru⟩ := run_part_rel (W := W) ha hn ho1 hr
              obtain ⟨v, hv, hrv⟩ := run_part_rel (W := W) hb hn' ho1' hr'
              have k1 := ih1 D _ _ _ _ u v (by omega) h1 hru hrv
              have k2 := ih2 D fs _ _ r2 cs es (by omega) h2 hn hn' ho1 ho1' hr hr'
              simp only [Op.eqFields, ne_eq, hname, not_false_eq_true, if_true, Sem.run_bind, hu, hv, k1, Result.andThen_ok]
              cases r1 <;> simp [k2]
            · cases h
          · cases h

def Value.odd : Value → Bool
  | .int _ _ | .float _ _ | .complex _ _ _ | .string _ => false
  | _ => true

theorem binOp_eql {t : TypeId} {a b : Value} (h : Value.odd a = true) : binOp .eql t a b = (do pure (.bool (← Op.equal t a b))) := by
  cases a <;> first | (simp [Value.odd] at h; done) | rfl | (cases b <;> rfl)
theorem binOp_neq {t : TypeId} {a b : Value} (h : Value.odd a = true) : binOp .neq t a b = (do pure (.bool (!(← Op.equal t a b)))) := by
  cases a <;> first | (simp [Value.odd] at h; done) | rfl | (cases b <;> rfl)

def V.odd : V → Bool
  | .int _ _ | .str _ | .any => false
  | _ => true
theorem odd_of {x : V} {a : Value} (h : x.odd = true) (hx : Rel W g H x a) : Value.odd a = true := by
  cases hx <;> first | rfl | (simp [V.odd] at h; done)

/-- no odd nil inside -/
def plainEq (P : Program) (t : Nat) (x y : V) : Bool :=
  match x, y with
  | .agg _, .agg _ => !P.eqGuardType P.depth t
  | .nili, .nili => false
  | .any, _ | _, .any => false
  | _, _ => true

def pBin (P : Program) (op : BinOp) (t : Nat) (x y : V) : Option V :=
  match x, y with
  | .int k a, .int k' b => match op with
    | .shl => if b < 0 then none else some (.int k (k.wrap (a * 2 ^ (min b.toNat k.bits))))
    | .shr => if b < 0 then none else some (.int k (a.fdiv (2 ^ (min b.toNat k.bits))))
    | _ => if k = k' then intBin op k a b else none
  | .str a, .str b => strBin op a b
  | x, y => match op with
    | .eql => if x.odd && plainEq P t x y then (eqv P 24 t x y).map .bool else none
    | .neq => if x.odd && plainEq P t x y then (eqv P 24 t x y).map fun r => .bool (!r) else none
    | _ => none

theorem run_eqGuard {op : BinOp} {t : Nat} {x y : V} {a b : Value} (xo yo : Operand) (h : plainEq P t x y = true) (hx : Rel W g H x a) (hy : Rel W g H y b) : (eqGuard op t xo yo a b).run P W = .ok () W := by
  unfold eqGuard
  cases op <;> (try simp; done)
  all_goals
    simp only [Bool.not_true, Bool.false_eq_true, if_false]
    cases hx <;> cases hy <;> first | (simp [plainEq] at h; done) | (simp; done) | (simp [plainEq] at h; simp [h]; done)

theorem sound_bin {op : BinOp} {t : Nat} {x y v : V} {a b : Value} (xo yo : Operand) (h : pBin P op t x y = some v) (hx : Rel W g H x a) (hy : Rel W g H y b) :
    Yields P W g H (do eqGuard op t xo yo a b; binOp op t a b) v := by
  unfold pBin at h
  split at h
  · rename_i k a' k' b'
    cases hx; cases hy
    have he : (eqGuard op t xo yo (.int k a') (.int k' b')).run P W = .ok () W := by unfold eqGuard; cases op <;> simp
    split at h
    · split at h
      · cases h
      · rename_i hb; injection h with h; subst h
        exact .same (by simp [he, binOp, Op.shift, hb]) (.int _ _)
    · split at h
      · cases h
      · rename_i hb; injection h with h; subst h
        exact .same (by simp [he, binOp, Op.shift, hb]) (.int _ _)
    · split at h
      · rename_i hk; subst hk
        unfold intBin at h
        split at h
        all_goals first
          | (split at h
             · cases h
             · rename_i hz; injection h with h; subst h
               exact .same (by simp only [Sem.run_bind, he, Result.andThen_ok]; simp [binOp, Op.intDiv, hz]) (.int _ _))
          | (injection h with h; subst h
             first
             | exact .same (by simp only [Sem.run_bind, he, Result.andThen_ok]; simp [binOp, Op.intArith, Op.intCmp, Op.intBits, bits]) (.int _ _)
             | exact .same (by simp only [Sem.run_bind, he, Result.andThen_ok]; simp [binOp, Op.intArith, Op.intCmp, Op.intBits, bits]) (.bool _))
          | cases h
      · cases h
  · rename_i a' b'
    cases hx; cases hy
    have he : (eqGuard op t xo yo (.string ⟨a'.toArray⟩) (.string ⟨b'.toArray⟩)).run P W = .ok () W := by unfold eqGuard; cases op <;> simp
    unfold strBin at h
    split at h
    · split at h
      · rename_i hm
        injection h with h; subst h
        refine .same (c := .string ⟨(a' ++ b').toArray⟩) ?_ (.str _)
        simp only [Sem.run_bind, he, Result.andThen_ok]
        have hm' : ¬ ((a'.length + b'.length : Nat) : Int) > IntKind.i64.max := by
          have : IntKind.i64.max = 9223372036854775807 := by decide
          rw [this]; unfold maxLen at hm; omega
        have hadd : (⟨a'.toArray⟩ : ByteArray) ++ ⟨b'.toArray⟩ = ⟨(a' ++ b').toArray⟩ := by
          apply ByteArray.ext; simp
        simp only [binOp, Op.stringOp, ByteArray.size, List.size_toArray, Sem.run_ite, hm', if_false, hadd, Sem.run_pure]
      · cases h
    all_goals first
      | (injection h with h; subst h
         exact .same (by simp only [Sem.run_bind, he, Result.andThen_ok]; simp [binOp, Op.stringOp]) (.bool _))
      | cases h
  · split at h
    · split at h
      · rename_i hp
        simp only [Bool.and_eq_true] at hp
        simp only [Option.map_eq_some_iff] at h
        obtain ⟨r, hr, rfl⟩ := h
        refine .same (c := .bool r) ?_ (.bool r)
        have := (eqv_sound (P := P) 24).1 Op.maxDepth _ _ _ r a b (by decide) hr hx hy
        simp only [Sem.run_bind, run_eqGuard xo yo hp.2 hx hy, Result.andThen_ok, binOp_eql (odd_of hp.1 hx), Op.equal, this, Sem.run_pure]
      · cases h
    · split at h
      · rename_i hp
        simp only [Bool.and_eq_true] at hp
        simp only [Option.map_eq_some_iff] at h
        obtain ⟨r, hr, rfl⟩ := h
        refine .same (c := .bool (!r)) ?_ (.bool (!r))
        have := (eqv_sound (P := P) 24).1 Op.maxDepth _ _ _ r a b (by decide) hr hx hy
        simp only [Sem.run_bind, run_eqGuard xo yo hp.2 hx hy, Result.andThen_ok, binOp_neq (odd_of hp.1 hx), Op.equal, this, Sem.run_pure]
      · cases h
    · cases h

end
end Go.Ab
