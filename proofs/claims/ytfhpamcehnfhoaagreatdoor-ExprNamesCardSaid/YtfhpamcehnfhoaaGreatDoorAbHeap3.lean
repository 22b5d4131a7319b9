import Derived.Test.YtfhpamcehnfhoaaGreatDoorAbHeap2
namespace Go.Ab
open Go
set_option linter.unusedSimpArgs false
set_option linter.unusedVariables false
section
variable {W : World} {g : Gh} {H : Heap} {P : Program}

/-! ### append -/

/-- elements, cell by cell -/
def RelF (W : World) (g : Gh) (H : Heap) (sz : Nat) (ys : List V) (cs : Array Value) : Prop :=
  (∀ (j : Nat) (y : V), ys[j]? = some y → y.cells.length = sz) ∧ (∀ (j : Nat) (y : V) (t : Nat) (v : V), ys[j]? = some y → y.cells[t]? = some v → (cs.getD (j * sz + t) undef).oneCell' = true) ∧
    ∀ (j : Nat) (y : V) (t : Nat) (v : V), ys[j]? = some y → y.cells[t]? = some v → Rel W g H v (cs.getD (j * sz + t) undef)

theorem RelF.mono {sz : Nat} {ys : List V} {cs : Array Value} (h : RelF W g H sz ys cs) {W' : World} {g' : Gh} {H' : Heap} (s : Step W g H W' g' H') : RelF W' g' H' sz ys cs :=
  ⟨h.1, h.2.1, fun j y t v hj ht => (h.2.2 j y t v hj ht).mono s⟩

theorem idx_lt {sz n j t : Nat} (hj : j < n) (ht : t < sz) : j * sz + t < n * sz := by
  calc j * sz + t < j * sz + sz := by omega
    _ = (j + 1) * sz := by rw [Nat.succ_mul]
    _ ≤ _ := Nat.mul_le_mul_right _ hj

theorem RelF.append {sz : Nat} {xs ys : List V} {a b r : Array Value} (ha : RelF W g H sz xs a) (hb : RelF W g H sz ys b)
    (h1 : ∀ i, i < xs.length * sz → r.getD i undef = a.getD i undef) (h2 : ∀ i, i < ys.length * sz → r.getD (xs.length * sz + i) undef = b.getD i undef) : RelF W g H sz (xs ++ ys) r := by
  have key : ∀ (j : Nat) (y : V) (t : Nat) (v : V), (xs ++ ys)[j]? = some y → y.cells[t]? = some v →
      (xs[j]? = some y ∧ r.getD (j * sz + t) undef = a.getD (j * sz + t) undef) ∨ (ys[j - xs.length]? = some y ∧ r.getD (j * sz + t) undef = b.getD ((j - xs.length) * sz + t) undef) := fun j y t v hj ht => by
    have htl := (List.getElem?_eq_some_iff.1 ht).1
    rw [List.getElem?_append] at hj
    split at hj
    · rename_i hlt
      have := ha.1 _ _ hj
      exact .inl ⟨hj, h1 _ (idx_lt hlt (by omega))⟩
    · rename_i hge
      have hl := (List.getElem?_eq_some_iff.1 hj).1
      have := hb.1 _ _ hj
      refine .inr ⟨hj, ?_⟩
      have e : j * sz + t = xs.length * sz + ((j - xs.length) * sz + t) := by
        rw [← Nat.add_assoc, ← Nat.add_mul]; congr 2; omega
      rw [e]; exact h2 _ (idx_lt hl (by omega))
  refine ⟨fun j y hj => ?_, fun j y t v hj ht => ?_, fun j y t v hj ht => ?_⟩
  · rw [List.getElem?_append] at hj
    split at hj
    · exact ha.1 _ _ hj
    · exact hb.1 _ _ hj
  · rcases key j y t v hj ht with ⟨k1, k2⟩ | ⟨k1, k2⟩ <;> rw [k2]
    · exact ha.2.1 _ _ _ _ k1 ht
    · exact hb.2.1 _ _ _ _ k1 ht
  · rcases key j y t v hj ht with ⟨k1, k2⟩ | ⟨k1, k2⟩ <;> rw [k2]
    · exact ha.2.2 _ _ _ _ k1 ht
    · exact hb.2.2 _ _ _ _ k1 ht

/-- the elements of a slice -/
def elemsOf (H : Heap) (sz : Nat) : V → Option (List V)
  | .nils => some []
  | .sl s xs _ => if s = sz then some xs else none
  | .hs l i ver off n _ => match H.get l i with
    | some (.arr ver' _ s xs _) => if ver' = ver ∧ s = sz then some ((xs.drop off).take n) else none
    | _ => none
  | _ => none

theorem arr_rel {l i ver ty sz : Nat} {xs : List V} {cp : Option Nat} (hG : Good W g H) (hg : H.get l i = some (.arr ver ty sz xs cp)) :
    ∃ c, W.heap[g.ab l i]? = some (.cells c ty (0, 0)) ∧ 0 < sz ∧ c.size = g.cap l i * sz ∧ g.cap l i ≤ maxLen ∧ xs.length ≤ g.cap l i ∧ (∀ n, cp = some n → g.cap l i = n) ∧ RelF W g H sz xs c := by
  obtain ⟨c, k1, k2, k3, k3', k4, k5, k6, k7, k8⟩ := hG.obj _ _ _ hg
  exact ⟨c, k1, k2, k3, k3', k4, k5, k6, k7, k8⟩

theorem elems_sound (hG : Good W g H) {sz : Nat} {x : V} {c : Value} {ys : List V} (hz : 0 < sz) (h : elemsOf H sz x = some ys) (hx : Rel W g H x c) :
    ∃ a n cap, c = .slice a n cap ∧ n = ys.length ∧ n ≤ cap ∧ ∃ news : Array Value, news.size = n * sz ∧ (∀ v ∈ news.toList, v.oneCell' = true) ∧ RelF W g H sz ys news ∧
      ∀ d : Nat, (Builtin.firstCells sz n c).run P { W with drawn := d } = .ok news { W with drawn := d } := by
  -- out of a function of cells
  have mk : ∀ (b o : Nat) (n cap : Nat) (f : Nat → Value), n = ys.length → (∀ i, i < n * sz → W.cell? ⟨b, o + i, none⟩ = some (f i)) → (∀ i, i < n * sz → (f i).oneCell' = true) → (∀ (j : Nat) (y : V), ys[j]? = some y → y.cells.length = sz) →
      (∀ (j : Nat) (y : V) (t : Nat) (v : V), ys[j]? = some y → y.cells[t]? = some v → Rel W g H v (f (j * sz + t))) →
      ∃ news : Array Value, news.size = n * sz ∧ (∀ v ∈ news.toList, v.oneCell' = true) ∧ RelF W g H sz ys news ∧ ∀ d : Nat, (Builtin.firstCells sz n (.slice (some ⟨b, o, none⟩) n cap)).run P { W with drawn := d } = .ok news { W with drawn := d } := by
    intro b o n cap f hn hf h1 hl hr
    have hget : ∀ i, i < n * sz → (((List.range (n * sz)).map f).toArray).getD i undef = f i := fun i hi => by
      rw [Array.getD_eq_getD_getElem?]; simp [hi]
    have hin : ∀ (j : Nat) (y : V) (t : Nat) (v : V), ys[j]? = some y → y.cells[t]? = some v → j * sz + t < n * sz := fun j y t v hj ht =>
      idx_lt (by rw [hn]; exact (List.getElem?_eq_some_iff.1 hj).1) (by rw [← hl j y hj]; exact (List.getElem?_eq_some_iff.1 ht).1)
    refine ⟨((List.range (n * sz)).map f).toArray, by simp, fun v hv => ?_, ⟨hl, fun j y t v hj ht => ?_, fun j y t v hj ht => ?_⟩, fun d => ?_⟩
    · simp only [List.mem_map, List.mem_range] at hv
      obtain ⟨i, hi, rfl⟩ := hv
      exact h1 i hi
    · rw [hget _ (hin j y t v hj ht)]; exact h1 _ (hin j y t v hj ht)
    · rw [hget _ (hin j y t v hj ht)]; exact hr j y t v hj ht
    · simp only [Builtin.firstCells]
      exact run_loadCells _ ⟨b, o, none⟩ (n * sz) f (fun i hi => by rw [add_eq]; exact hf i hi)
  have empty : ∀ (a : Option Addr) (cap : Nat), ys = [] → c = .slice a 0 cap → ∃ a n cap, c = .slice a n cap ∧ n = ys.length ∧ n ≤ cap ∧ ∃ news : Array Value, news.size = n * sz ∧ (∀ v ∈ news.toList, v.oneCell' = true) ∧ RelF W g H sz ys news ∧
      ∀ d : Nat, (Builtin.firstCells sz n c).run P { W with drawn := d } = .ok news { W with drawn := d } := fun a cap hy hc => by
    subst hy; subst hc
    refine ⟨a, 0, cap, rfl, rfl, Nat.zero_le _, #[], by simp, by simp, ⟨by simp, by simp, by simp⟩, fun d => ?_⟩
    cases a <;> simp [Builtin.firstCells, loadCells, loadCellsFrom]
  unfold elemsOf at h
  split at h
  · injection h with h; cases hx; exact empty none 0 h.symm rfl
  · rename_i s xs full
    split at h
    · rename_i hs; subst hs
      injection h with h; subst h
      cases hx with
      | slnil => exact empty none 0 rfl rfl
      | sle _ _ a cap _ => exact empty (some a) cap rfl rfl
      | sl _ _ _ b o cap f hob hz hcap hf hs hcc ho1 hr =>
        refine ⟨_, _, _, rfl, rfl, hcap, ?_⟩
        have hsplit : ∀ i, i < xs.length * s → ∃ y v, xs[i / s]? = some y ∧ y.cells[i % s]? = some v ∧ i = i / s * s + i % s := fun i hi => by
          have hd : i / s < xs.length := Nat.div_lt_of_lt_mul (by rw [Nat.mul_comm]; exact hi)
          have hm : i % s < s := Nat.mod_lt _ hz
          have hy : xs[i / s]? = some xs[i / s] := List.getElem?_eq_getElem hd
          have hyl := hs _ _ hy
          refine ⟨_, (xs[i / s]).cells[i % s]'(by omega), hy, List.getElem?_eq_getElem _, ?_⟩
          rw [Nat.mul_comm]; exact (Nat.div_add_mod i s).symm
        have hmd : ∀ (j t : Nat), t < s → (j * s + t) / s = j ∧ (j * s + t) % s = t := fun j t ht => by
          constructor
          · rw [Nat.mul_comm, Nat.mul_add_div hz, Nat.div_eq_of_lt ht, Nat.add_zero]
          · rw [Nat.mul_comm, Nat.mul_add_mod, Nat.mod_eq_of_lt ht]
        refine mk b o xs.length cap (fun i => f (i / s) (i % s)) rfl (fun i hi => ?_) (fun i hi => ?_) hs (fun j y t v hj ht => ?_)
        · obtain ⟨y, v, h1, h2, h3⟩ := hsplit i hi
          have := hcc _ _ _ _ h1 h2
          rw [Nat.add_assoc, ← h3] at this
          exact this
        · obtain ⟨y, v, h1, h2, h3⟩ := hsplit i hi
          exact ho1 _ _ _ _ h1 h2
        · have htl := (List.getElem?_eq_some_iff.1 ht).1
          rw [hs _ _ hj] at htl
          obtain ⟨e1, e2⟩ := hmd j t htl
          simp only [e1, e2]
          exact hr _ _ _ _ hj ht
    · cases h
  · rename_i l i ver off n full
    split at h
    · rename_i ver' ty s xs cp hg
      split at h
      · rename_i hc
        obtain ⟨rfl, rfl⟩ := hc
        injection h with h
        cases hx with
        | hs _ _ _ _ _ _ a m cap hd hv ha =>
          obtain ⟨rfl, rfl, ⟨hcap, hcap2, hff⟩, hle⟩ := ha _ _ _ _ hg
          obtain ⟨cur, k1, k2, k3, k3', k4, k5, k6⟩ := arr_rel hG hg
          have hlen : ys.length = m := by rw [← h]; simp; omega
          have hys : ∀ (j : Nat) (y : V), ys[j]? = some y → xs[off + j]? = some y ∧ j < m := fun j y hj => by
            rw [← h, List.getElem?_take] at hj
            split at hj
            · rename_i hjm; rw [List.getElem?_drop] at hj; exact ⟨hj, hjm⟩
            · cases hj
          refine ⟨_, _, _, rfl, hlen.symm, hcap, ?_⟩
          have hin : ∀ i, i < m * s → off * s + i < cur.size := fun i hi => by
            rw [k3]
            calc off * s + i < off * s + m * s := by omega
              _ = (off + m) * s := by rw [Nat.add_mul]
              _ ≤ _ := Nat.mul_le_mul_right _ (by omega)
          have hsplit : ∀ i, i < m * s → ∃ y v, xs[off + i / s]? = some y ∧ y.cells[i % s]? = some v ∧ off * s + i = (off + i / s) * s + i % s := fun i hi => by
            have hd : i / s < m := Nat.div_lt_of_lt_mul (by rw [Nat.mul_comm]; exact hi)
            have hm : i % s < s := Nat.mod_lt _ k2
            have hy : xs[off + i / s]? = some (xs[off + i / s]'(by omega)) := List.getElem?_eq_getElem _
            have hyl := k6.1 _ _ hy
            refine ⟨_, (xs[off + i / s]'(by omega)).cells[i % s]'(by omega), hy, List.getElem?_eq_getElem _, ?_⟩
            rw [Nat.add_mul, Nat.add_assoc]; congr 1
            rw [Nat.mul_comm]; exact (Nat.div_add_mod i s).symm
          refine mk (g.ab l i) (off * s) m cap (fun i => cur.getD (off * s + i) undef) hlen.symm (fun i hi => cell_of k1 (hin i hi)) (fun i hi => ?_) (fun j y hj => k6.1 _ _ (hys j y hj).1) (fun j y t v hj ht => ?_)
          · obtain ⟨y, v, h1, h2, h3⟩ := hsplit i hi
            rw [h3]; exact k6.2.1 _ _ _ _ h1 h2
          · have := k6.2.2 _ _ _ _ (hys j y hj).1 ht
            rw [Nat.add_mul, Nat.add_assoc] at this
            exact this
      · cases h
    · cases h
  · cases h

/-- append, where there is no room -/
theorem run_append_new {t u ty e : TypeId} {i : TypeInfo} {z : Value} {du : TypeDesc} (ht : P.underlying t = some (.slice e)) (hu : P.underlying u = some du) (hdu : ∀ k, du ≠ .int k) (hi : P.info? e = some i) (hz : i.zero = some z)
    {base : Option Addr} {sLen sCap n : Nat} {x : Value} {olds news : Array Value} (hx : (Builtin.lenOf x).run P W = .ok n W)
    (ho : ∀ d : Nat, (Builtin.firstCells i.size sLen (.slice base sLen sCap)).run P { W with drawn := d } = .ok olds { W with drawn := d })
    (hn : ∀ d : Nat, (Builtin.firstCells i.size n x).run P { W with drawn := d } = .ok news { W with drawn := d })
    (hg : sCap < sLen + n) (h63 : ((sLen + n : Nat) : Int) ≤ 9223372036854775807) (hfit : Builtin.nextslicecap (sLen + n) sCap * i.bytes ≤ 281474976710656) :
    ∃ cap d, sLen + n ≤ cap ∧ cap ≤ maxLen ∧ (Builtin.append_ #[t, u] ty #[.slice base sLen sCap, x]).run P W =
      .ok (.slice (some ⟨W.heap.size, 0, none⟩) (sLen + n) cap) (({ W with drawn := d } : World).alloc (.cells (olds ++ news ++ Builtin.zeroCells z.cells (cap - (sLen + n))) e)) := by
  have hg' : ¬ (sLen + n ≤ sCap) := by omega
  have h63' : ¬ (9223372036854775807 < ((sLen : Int) + (n : Int))) := by omega
  have h48' : ¬ (281474976710656 < Builtin.nextslicecap (sLen + n) sCap * i.bytes) := by omega
  refine ⟨grownCap W (sLen + n) sCap e, W.drawn + 1, grownCap_ge _ _ _ _, grownCap_le_maxLen _ _ _ _ (by unfold maxLen; omega), ?_⟩
  have ho' := ho (W.drawn + 1)
  have hn' := hn (W.drawn + 1)
  simp only [World.drew_eq] at ho' hn'
  simp [Builtin.append_, run_underlying' ht, run_underlying' hu, sizeOf, typeInfo, zeroValue, hi, hz, hx, hg', h63', h48', Question.forced, ho', hn', newRow, grownCap]

/-- append, where there is room -/
theorem run_append_here {t u ty e : TypeId} {i : TypeInfo} {du : TypeDesc} (ht : P.underlying t = some (.slice e)) (hu : P.underlying u = some du) (hdu : ∀ k, du ≠ .int k) (hi : P.info? e = some i)
    {b o sLen sCap n : Nat} {x : Value} {news cur : Array Value} {tt : TypeId} (hx : (Builtin.lenOf x).run P W = .ok n W)
    (hn : (Builtin.firstCells i.size n x).run P W = .ok news W) (h1 : ∀ v ∈ news.toList, v.oneCell' = true)
    (hg : sLen + n ≤ sCap) (hb : W.heap[b]? = some (.cells cur tt (0, 0))) (hfit : o + sLen * i.size + news.size ≤ cur.size) :
    (Builtin.append_ #[t, u] ty #[.slice (some ⟨b, o, none⟩) sLen sCap, x]).run P W =
      .ok (.slice (some ⟨b, o, none⟩) (sLen + n) sCap) (W.setRow b (putCells cur (o + sLen * i.size) news)) := by
  have hst := run_storeCells_at P b (o + sLen * i.size) tt news.toList 0 cur W hb (by simpa using hfit) h1
  simp only [Nat.add_zero] at hst
  rw [list_splice_eq cur _ news hfit] at hst
  simp [Builtin.append_, run_underlying' ht, run_underlying' hu, sizeOf, typeInfo, hi, hx, hg, hn, add_eq, hst]

def srcOf (H : Heap) (sz : Nat) : V → Option (List V)
  | .str s => if sz = 1 then some (s.map fun b => .int .u8 b.toNat) else none
  | x => elemsOf H sz x

theorem src_sound (hG : Good W g H) {sz : Nat} {x : V} {c : Value} {ys : List V} (hz : 0 < sz) (h : srcOf H sz x = some ys) (hx : Rel W g H x c) :
    (Builtin.lenOf c).run P W = .ok ys.length W ∧ ∃ news : Array Value, news.size = ys.length * sz ∧ (∀ v ∈ news.toList, v.oneCell' = true) ∧ RelF W g H sz ys news ∧
      ∀ d : Nat, (Builtin.firstCells sz ys.length c).run P { W with drawn := d } = .ok news { W with drawn := d } := by
  unfold srcOf at h
  split at h
  · rename_i s
    split at h
    · rename_i hs; subst hs
      injection h with h; subst h
      cases hx
      have hsz : (⟨s.toArray⟩ : ByteArray).size = s.length := by simp [ByteArray.size]
      have hget : ∀ i b, s[i]? = some b → (s.map fun b => Value.int .u8 b.toNat).toArray.getD i undef = .int .u8 b.toNat := fun i b hb => by
        rw [Array.getD_eq_getD_getElem?]; simp [hb]
      have hspec : ∀ (j : Nat) (y : V), (s.map fun b => V.int .u8 b.toNat)[j]? = some y → ∃ b, s[j]? = some b ∧ y = .int .u8 b.toNat := fun j y hj => by
        simp only [List.getElem?_map, Option.map_eq_some_iff] at hj
        obtain ⟨b, hb, rfl⟩ := hj
        exact ⟨b, hb, rfl⟩
      refine ⟨by simp [Builtin.lenOf, hsz], (s.map fun b => Value.int .u8 b.toNat).toArray, by simp, ?_, ⟨fun j y hj => ?_, fun j y t v hj ht => ?_, fun j y t v hj ht => ?_⟩, fun d => ?_⟩
      · intro v hv
        simp only [List.mem_map] at hv
        obtain ⟨b, _, rfl⟩ := hv
        rfl
      · obtain ⟨b, hb, rfl⟩ := hspec j y hj; rfl
      · obtain ⟨b, hb, rfl⟩ := hspec j y hj
        have : t = 0 := by
          have := (List.getElem?_eq_some_iff.1 ht).1
          simp [V.cells] at this; exact this
        subst this
        rw [Nat.mul_one, Nat.add_zero, hget j b hb]; rfl
      · obtain ⟨b, hb, rfl⟩ := hspec j y hj
        have : t = 0 := by
          have := (List.getElem?_eq_some_iff.1 ht).1
          simp [V.cells] at this; exact this
        subst this
        simp [V.cells] at ht; subst ht
        rw [Nat.mul_one, Nat.add_zero, hget j b hb]; exact .int _ _
      · simp only [Builtin.firstCells, Sem.run_pure, List.length_map]
        congr 1
        apply Array.ext'
        rw [ByteArray.data_extract]
        simp
    · cases h
  · obtain ⟨a, n, cap, rfl, rfl, h2, news, h3, h4, h5, h6⟩ := elems_sound (P := P) hG hz h hx
    exact ⟨by simp [Builtin.lenOf], news, h3, h4, h5, h6⟩

/-- an append's size: what any machine bears -/
def roomB : Nat := 268435456

def notInt : TypeDesc → Bool
  | .int _ => false
  | _ => true

def appendTo (H : Heap) (e size : Nat) (s : V) (ys : List V) : Option (V × Heap) :=
  match s with
  | .nils => match ys with
    | [] => some (.nils, H)
    | y :: r => if (y :: r).length ≤ roomB then some (.hs H.lv H.L.length 0 0 (y :: r).length false, H.push (.arr 0 e size (y :: r) none)) else none
  | .sl sz xs true => if sz = size then match ys with
    | [] => some (.sl sz xs true, H)
    | y :: r => if xs.length + (y :: r).length ≤ roomB then some (.hs H.lv H.L.length 0 0 (xs.length + (y :: r).length) false, H.push (.arr 0 e size (xs ++ y :: r) none)) else none else none
  | .hs l i' ver 0 n false => match H.get l i' with
    | some (.arr ver' e' sz xs _) => if ver' = ver ∧ e' = e ∧ sz = size ∧ n = xs.length ∧ xs.length + ys.length ≤ roomB then
        some (.hs l i' (ver + 1) 0 (xs.length + ys.length) false, H.set l i' (.arr (ver + 1) e sz (xs ++ ys) none)) else none
    | _ => none
  | _ => none

def hAppend (P : Program) (H : Heap) (t u : Nat) (s x : V) : Option (V × Heap) :=
  match P.underlying t, P.underlying u with
  | some (.slice e), some du =>
    match P.info? e with
    | some i =>
      match srcOf H i.size x, i.zero with
      | some ys, some z =>
        if notInt du && decide (0 < i.size) && decide (i.bytes ≤ 524288) && z.cells.size == i.size then appendTo H e i.size s ys else none
      | _, _ => none
    | none => none
  | _, _ => none

end
end Go.Ab
