import Derived.Test.YtfhpamcehnfhoaaGreatDoorAbPure6
namespace Go.Ab
open Go
set_option linter.unusedSimpArgs false
set_option linter.unusedVariables false
section
variable {W : World} {g : Gh} {H : Heap} {P : Program}

def pBuiltin (P : Program) (H : Heap) (ρ : Operand → V) (c : Call) : Option V :=
  match c.callee with
  | .builtin .len => match c.args.toList, c.argTypes.toList with
    | [x], [t] => pLen P H t (ρ x)
    | _, _ => none
  | .builtin .min => pMinMax false (c.args.toList.map ρ)
  | .builtin .max => pMinMax true (c.args.toList.map ρ)
  | _ => none

/-- the value of an operation that turns no object -/
def pv (P : Program) (H : Heap) (ρ : Operand → V) : Op → Option V
  | .move x => some (ρ x)
  | .assign x => some (ρ x)
  | .pick c a b => match ρ c with
    | .bool t => some (if t then ρ a else ρ b)
    | _ => none
  | .load t a => pLoad P H t (ρ a)
  | .nilCheck x => pNilCheck (ρ x)
  | .binOp op t x y _ => pBin P op t (ρ x) (ρ y)
  | .unOp op _ x => pUn op (ρ x)
  | .convert s d x => pConvert P s d (ρ x)
  | .makeInterface t x => pMakeInterface P t (ρ x)
  | .makeFunc (.func f) first caps => some (.fn f (first.toList.map ρ) (caps.toList.map ρ))
  | .slice t x lo hi mx => pSlice P H t (ρ x) (lo.map ρ) (hi.map ρ) (mx.map ρ)
  | .fieldAddr s x f => pFieldAddr P s f (ρ x)
  | .field s x f => pField P s f (ρ x)
  | .indexAddr t x i => pIndexAddr P H t (ρ x) (ρ i)
  | .index t x i => pIndex P t (ρ x) (ρ i)
  | .lookup t x k ok => pLookup P H t (ρ x) (ρ k) ok
  | .typeAssert x _ u ok => pTypeAssert P (ρ x) u ok
  | .extract x i => pExtract i (ρ x)
  | .build t ps => pBuild P t (partsOf ρ ps)
  | .buildSlice t len ps => pBuildSlice P t len (partsOf ρ ps)
  | .call c => pBuiltin P H ρ c
  | _ => none

/-- what is said of an operation -/
def YieldsOp (P : Program) (W : World) (g : Gh) (H : Heap) (s : Sem Next) (v : V) : Prop := ∃ c W', s.run P W = .ok (.value c) W' ∧ Grow W W' ∧ Rel W' g H v c

theorem Yields.op {s : Sem Value} {v : V} (h : Yields P W g H s v) : YieldsOp P W g H (do pure (.value (← s))) v := by
  obtain ⟨c, W', h1, h2, h3⟩ := h
  exact ⟨c, W', by simp [h1], h2, h3⟩

theorem parts_rel {ρ : Operand → V} {r : Operand → Value} (hρ : ∀ x, Rel W g H (ρ x) (r x)) (ps : Array (Nat × Operand)) :
    (ps.map fun p => (p.1, r p.2)).size = (partsOf ρ ps).length ∧ ∀ (j i : Nat) (x : V), (partsOf ρ ps)[j]? = some (i, x) → ∃ c, (ps.map fun p => (p.1, r p.2))[j]? = some (i, c) ∧ Rel W g H x c := by
  refine ⟨by simp [partsOf], fun j i x hj => ?_⟩
  simp only [partsOf, List.getElem?_map, Option.map_eq_some_iff, Array.getElem?_toList] at hj
  obtain ⟨p, hp, heq⟩ := hj
  injection heq with h1 h2
  exact ⟨r p.2, by simp [hp, h1], by rw [← h2]; exact hρ _⟩

theorem args_rel {ρ : Operand → V} {r : Operand → Value} (hρ : ∀ x, Rel W g H (ρ x) (r x)) (xs : Array Operand) : RelA W g H (xs.toList.map ρ) (xs.map r) := by
  refine ⟨by simp, fun j v hj => ?_⟩
  simp only [List.getElem?_map, Option.map_eq_some_iff, Array.getElem?_toList] at hj
  obtain ⟨x, hx, rfl⟩ := hj
  have : (xs.map r).getD j undef = r x := by simp [Array.getD_eq_getD_getElem?, hx]
  rw [this]; exact hρ x

theorem array_of_toList {α : Type} {a : Array α} {l : List α} (h : a.toList = l) : a = l.toArray := by rw [← h]

theorem pv_sound {ρ : Operand → V} {r : Operand → Value} {o : Oper} {v : V} (hG : Good W g H) (hρ : ∀ x, Rel W g H (ρ x) (r x)) (h : pv P H ρ o.op = some v) : YieldsOp P W g H (execOp r o) v := by
  unfold pv at h
  unfold execOp
  split at h
  · rename_i x heq; rw [heq]; injection h with h; subst h; exact ⟨r x, W, rfl, .refl W, hρ x⟩
  · rename_i x heq; rw [heq]; injection h with h; subst h; exact ⟨r x, W, rfl, .refl W, hρ x⟩
  · rename_i c a b heq; rw [heq]
    split at h
    · rename_i t hc
      injection h with h; subst h
      have h1 := hρ c
      rw [hc] at h1
      generalize hrc : r c = rc at h1
      cases h1
      cases t
      · exact ⟨r b, W, by simp [asBool, hrc], .refl W, hρ b⟩
      · exact ⟨r a, W, by simp [asBool, hrc], .refl W, hρ a⟩
    · cases h
  · rename_i t a heq; rw [heq]; exact (sound_load hG h (hρ a)).op
  · rename_i x heq; rw [heq]
    have h1 := hρ x
    generalize hv : ρ x = u at h h1
    generalize hc : r x = c at h1
    cases u <;> simp only [pNilCheck, Option.some.injEq, reduceCtorEq] at h
    all_goals
      subst h
      refine ⟨c, W, ?_, .refl W, h1⟩
      cases h1
      simp only [hc]
      rfl
  · rename_i op t x y ty heq; rw [heq]; exact (sound_bin x y h (hρ x) (hρ y)).op
  · rename_i op t x heq; rw [heq]; exact (sound_un h (hρ x)).op
  · rename_i s d x heq; rw [heq]; exact (sound_convert h (hρ x)).op
  · rename_i t x heq; rw [heq]; exact (sound_makeInterface h (hρ x)).op
  · rename_i f first caps heq; rw [heq]; injection h with h; subst h
    have h1 := args_rel hρ first
    have h2 := args_rel hρ caps
    exact ⟨.func (.func f) (first.map r) (caps.map r), W, by simp [Instr.makeFunc], .refl W, .fn _ _ _ _ _ h1.1 h2.1 h1.2 h2.2⟩
  · rename_i t x lo hi mx heq; rw [heq]; exact (sound_slice hG h (hρ x) (orel_of hρ lo) (orel_of hρ hi) (orel_of hρ mx)).op
  · rename_i s x f heq; rw [heq]; exact (sound_fieldAddr h (hρ x)).op
  · rename_i s x f heq; rw [heq]; exact (sound_field h (hρ x)).op
  · rename_i t x i heq; rw [heq]; exact (sound_indexAddr h (hρ x) (hρ i)).op
  · rename_i t x i heq; rw [heq]; exact (sound_index h (hρ x) (hρ i)).op
  · rename_i t x k ok heq; rw [heq]; exact (sound_lookup hG h (hρ x) (hρ k)).op
  · rename_i x t u ok heq; rw [heq]; exact (sound_typeAssert h (hρ x)).op
  · rename_i x i heq; rw [heq]; exact (sound_extract h (hρ x)).op
  · rename_i t ps heq; rw [heq]; exact (sound_build h (parts_rel hρ ps).1 (parts_rel hρ ps).2).op
  · rename_i t len ps heq; rw [heq]; exact (sound_buildSlice hG h (parts_rel hρ ps).1 (parts_rel hρ ps).2).op
  · rename_i c heq; rw [heq]
    unfold pBuiltin at h
    have hargs := args_rel hρ c.args
    obtain ⟨callee, args, argTypes⟩ := c
    simp only at h hargs ⊢
    split at h
    · split at h
      · rename_i x t ha ht
        obtain rfl := array_of_toList ha
        obtain rfl := array_of_toList ht
        obtain ⟨c, W', h1, h2, h3⟩ := sound_len (ty := o.type) hG h (hρ x)
        refine ⟨c, W', ?_, h2, h3⟩
        simp [resolve, invoke, builtin, h1]
      · cases h
    · obtain ⟨c, W', h1, h2, h3⟩ := sound_min (P := P) (t := argTypes) (ty := o.type) h hargs.1 hargs.2
      exact ⟨c, W', by simp [resolve, invoke, builtin, h1], h2, h3⟩
    · obtain ⟨c, W', h1, h2, h3⟩ := sound_max (P := P) (t := argTypes) (ty := o.type) h hargs.1 hargs.2
      exact ⟨c, W', by simp [resolve, invoke, builtin, h1], h2, h3⟩
    · cases h
  · cases h

end
end Go.Ab
