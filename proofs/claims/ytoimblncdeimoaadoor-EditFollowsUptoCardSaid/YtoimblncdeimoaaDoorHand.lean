/-
  label.Check: A LOOP OVER AN ITERATOR, by hand.
-/
import Derived.RangeFuncBox
import Derived.RangeFuncLeaves
import Derived.RangeFuncFrom
import Derived.RangeFuncCalls
import Derived.Shelf.Abstract
import Derived.WalkKit
import Derived.OwnWalkIn
import Derived.TacticsInMore
import Derived.LoopNIn
import Derived.LoopIn
import Derived.Shelf.RegionOpen
import Derived.Test.YtoimblncdeimoaaDoorPLabel
import Derived.Test.YtoimblncdeimoaaDoorAbFlat
import Derived.Test.YtoimblncdeimoaaDoorHandS
import Derived.Test.YtoimblncdeimoaaDoorWalk0
import Derived.Test.YtoimblncdeimoaaDoorWalk0
import Derived.Test.YtoimblncdeimoaaDoorWalk0
namespace Go.Proofs
open Go Go.Ab
open Go.RowKit
set_option linter.unusedVariables false
set_option linter.unusedSimpArgs false
attribute [local go_sem] Oper.semAt_some

namespace OHand
/-- a pure call, by a world that only grew -/
theorem pc {f n : Nat} {vargs : List V} {r : V} {cargs : Array Value} {W : World} (h : PCall Tryd.prog f vargs r) (hent : ∀ args w, (callFunc f args).run Tryd.prog w = .ok (.enter f args) w) (ha : RelA W g0 H0 vargs cargs) :
    CallsIn Fence.wide n Tryd.prog f cargs W fun e W' => ∃ c, e = .returned c ∧ RowKit.Below W.heap.size W W' ∧ ∃ g', Rel W' g' H0 r c := by
  refine callsIn_wide.2 ?_
  rcases h H0 W g0 cargs (good0 W) ha with ⟨_, hc⟩ | ⟨c, W', g', hc, _⟩
  · exact hc.mono fun e W' ⟨c, g', he, hs, _, hr⟩ => ⟨c, he, below_of_step hs, g', hr⟩
  · rw [hent] at hc; cases hc
theorem relA1 {W : World} {s : List UInt8} : RelA W g0 H0 [.str s] #[.string ⟨s.toArray⟩] := relA_of (cs := [.string ⟨s.toArray⟩]) rfl fun j v hj => by
  cases j with
  | zero => simp at hj; subst hj; exact ⟨_, rfl, .str _⟩
  | succ j => simp at hj
theorem relA2 {W : World} {s t : List UInt8} : RelA W g0 H0 [.str s, .str t] #[.string ⟨s.toArray⟩, .string ⟨t.toArray⟩] := relA_of (cs := [.string ⟨s.toArray⟩, .string ⟨t.toArray⟩]) rfl fun j v hj => by
  match j with
  | 0 => simp at hj; subst hj; exact ⟨_, rfl, .str _⟩
  | 1 => simp at hj; subst hj; exact ⟨_, rfl, .str _⟩
  | j + 2 => simp at hj

theorem grown {W W' : World} (h : RowKit.Below W.heap.size W W') : W.grownBy W' none := ⟨h.os, h.tape, h.output, h.size, fun k hk _ => h.block k hk⟩

abbrev S (s : List UInt8) : Value := .string ⟨s.toArray⟩

theorem cut_in (n : Nat) (s : List UInt8) (hb : s.length ≤ 1048576) (W : World) : CallsIn Fence.wide n Tryd.prog 11 #[S s, S [47]] W fun e W' =>
    e = .returned (.tuple #[S (cutAt 47 s).1, S (cutAt 47 s).2.1, .bool (cutAt 47 s).2.2]) ∧ W.grownBy W' none := by
  obtain ⟨k, hk⟩ := (cut47 hb).get
  refine (pc (go_strings_Cut_s47_ok k s _ hk) (fun _ _ => Tryd.call11 _ _) relA2).mono ?_
  rintro e W' ⟨c, rfl, hB, g', hr⟩
  refine ⟨?_, grown hB⟩
  cases hr with
  | tup vs cs hn h =>
    have e0 := h 0 _ rfl
    have e1 := h 1 _ rfl
    have e2 := h 2 _ rfl
    have hs : cs = #[cs.getD 0 undef, cs.getD 1 undef, cs.getD 2 undef] := by
      obtain ⟨l⟩ := cs
      match l, hn with
      | [a, b, c], _ => rfl
    cases hz0 : cs.getD 0 undef <;> rw [hz0] at e0 <;> cases e0
    cases hz1 : cs.getD 1 undef <;> rw [hz1] at e1 <;> cases e1
    cases hz2 : cs.getD 2 undef <;> rw [hz2] at e2 <;> cases e2
    rw [hs, hz0, hz1, hz2]

theorem read_in (n : Nat) (s : List UInt8) (hb : s.length ≤ 1048576) (W : World) : CallsIn Fence.wide n Tryd.prog 40 #[S s] W fun e W' =>
    ∃ nm ix, e = .returned (.tuple #[.agg #[S nm, .int .i64 ix], .bool (readOk s)]) ∧ RowKit.Below W.heap.size W W' := by
  obtain ⟨t, ht⟩ := label_read hb
  obtain ⟨k, hk⟩ := ht.get
  refine (pc (go_label_read_ok k s _ hk) (fun _ _ => Tryd.call40 _ _) relA1).mono ?_
  rintro e W' ⟨c, rfl, hB, g', hr⟩
  refine ⟨t.name, t.index, ?_, hB⟩
  cases hr with
  | tup vs cs hn h =>
    have e0 := h 0 _ rfl
    have e1 := h 1 _ rfl
    have hs : cs = #[cs.getD 0 undef, cs.getD 1 undef] := by
      obtain ⟨l⟩ := cs
      match l, hn with
      | [a, b], _ => rfl
    cases hz1 : cs.getD 1 undef <;> rw [hz1] at e1 <;> cases e1
    cases hz0 : cs.getD 0 undef <;> rw [hz0] at e0 <;> try (cases e0; done)
    rename_i ds
    cases e0 with
    | agg _ _ hn' h1' hr' =>
      have f0 := hr' 0 _ rfl
      have f1 := hr' 1 _ rfl
      have hs' : ds = #[ds.getD 0 undef, ds.getD 1 undef] := by
        obtain ⟨l⟩ := ds
        match l, hn' with
        | [a, b], _ => rfl
      cases hy0 : ds.getD 0 undef <;> rw [hy0] at f0 <;> cases f0
      cases hy1 : ds.getD 1 undef <;> rw [hy1] at f1 <;> cases f1
      rw [hs, hz0, hz1, hs', hy0, hy1]

theorem count_in (n : Nat) (s : List UInt8) (W : World) : CallsIn Fence.wide n Tryd.prog 33 #[S s, S [47]] W fun e W' =>
    e = .returned (.int .i64 (s.countP (· == 47) : Int)) ∧ RowKit.Below W.heap.size W W' := by
  obtain ⟨k, hk⟩ := (count47 (s := s)).get
  refine (pc (go_strings_Count_s47_ok k s _ hk) (fun _ _ => Tryd.call33 _ _) relA2).mono ?_
  rintro e W' ⟨c, rfl, hB, g', hr⟩
  cases hr
  exact ⟨rfl, hB⟩

theorem steps_rest {s : List UInt8} {k : Nat} {rest : List UInt8} (h : (steps s).drop k = parts 47 rest) :
    (steps s).take (k + 1) = (steps s).take k ++ [(cutAt 47 rest).1] ∧ (steps s).drop (k + 1) = if (cutAt 47 rest).2.2 then parts 47 (cutAt 47 rest).2.1 else [] := by
  rw [parts_eq] at h
  have hk : (steps s)[k]? = some (cutAt 47 rest).1 := by
    have := congrArg List.head? h
    rw [List.head?_drop] at this; simpa using this
  refine ⟨?_, ?_⟩
  · rw [List.take_add_one, hk]; rfl
  · have := congrArg List.tail h
    rw [List.tail_drop] at this; simpa using this
theorem all_take {l : List (List UInt8)} (h : ∀ x ∈ l, x.length ≤ 4000) : (l.all fun x => readOk (x.take 4000)) = l.all readOk := by
  induction l with
  | nil => rfl
  | cons a l ih =>
    rw [List.all_cons, List.all_cons, ih fun x hx => h x (by simp [hx]), List.take_of_length_le (h a (by simp))]
def strSize : Value → Nat
  | .string b => b.size
  | _ => 0
def bitSize : Value → Nat
  | .bool true => 1
  | _ => 0
end OHand
open OHand

set_option maxRecDepth 100000 in
set_option maxHeartbeats 2000000 in
/-- the closure of label.steps -/
theorem steps1_in (n : Nat) (hn : 1 ≤ n) (l Bs : Nat) (s : List UInt8) (hb : s.length ≤ 1048576) (J Jx : List (List UInt8) → World → Prop)
    (hY : ∀ pre x W, J pre W → pre.length < s.length + 1 → YieldAt Fence.wide (n - 1) Tryd.prog l #[S (x.take 4000)] W fun e W' =>
      (e = .returned (.bool true) ∧ J (pre ++ [x]) W' ∧ True) ∨ (e = .returned (.bool false) ∧ Jx (pre ++ [x]) W'))
    (h4 : s.length ≤ 4000) (W : World) (hJ : AbidesFrom W.heap.size J) (hBs : W.cell? ⟨Bs, 0, none⟩ = some (S s)) (h0 : J [] W) :
    CallsIn Fence.wide n Tryd.prog 51 #[.func (.yield l) #[] #[], .pointer (some ⟨Bs, 0, none⟩)] W fun e W' => (∃ v, e = .returned v) ∧
      ((∃ ys, ys = steps s ∧ J ys W') ∨ (∃ pre, (∃ k, pre = (steps s).take k) ∧ Jx pre W')) := by
  refine callsIn_of_wp Tryd.func51 rfl trivial ?_ rfl
  simp only [Tryd.ntmps51, List.size_toArray, List.length_cons, List.length_nil, Nat.reduceAdd, Nat.reduceSub, Array.replicate_succ, Array.replicate_zero, List.push_toArray, List.append_toArray, List.nil_append, List.cons_append]
  have hmx : Tryd.prog.follows .mixedOrders = true := by kernel_rfl
  gi_wp2
  gi_region_o
  all_goals gi_wp2
  gi_loopw [3, 4] (fun r m wr => ∃ (k : Nat) (rest : List UInt8), r = S rest ∧ k + rest.length ≤ s.length + 1 ∧
      ((m = .bool true ∧ k + rest.length ≤ s.length ∧ (steps s).drop k = parts 47 rest) ∨ (m = .bool false ∧ (steps s).drop k = [])) ∧ J ((steps s).take k) wr)
    (fun r m _ => strSize r + bitSize m)
  case atStart =>
    refine ⟨0, s, rfl, by omega, ?_, hJ _ _ _ none h0 ⟨rfl, rfl, rfl, Nat.le_refl _, fun _ _ _ => rfl⟩ (fun r e => by cases e)⟩
    cases s with
    | nil => exact .inr ⟨rfl, rfl⟩
    | cons c t => exact .inl ⟨rfl, by omega, rfl⟩
  case round =>
    obtain ⟨k, rest, rfl, hkr, hm, hJs⟩ := hrel
    rcases hm with ⟨rfl, hkr, hd⟩ | ⟨rfl, hd⟩
    · have hx4 : ((cutAt 47 rest).1.take 4000) = (cutAt 47 rest).1 := List.take_of_length_le (by have := cutAt_one 47 rest; omega)
      obtain ⟨hs1, hs2⟩ := steps_rest hd
      gi_wp2_with (refine ⟨trivial, ?_⟩; gi_at_call 11; refine (cut_in _ rest (by omega) _).mono ?_; rintro e w2 ⟨rfl, hg⟩; have hJ2 := hJ _ _ _ none hJs hg (fun r e => by cases e); obtain ⟨fn, tmps, assign, body, hy, hR⟩ := hY _ (cutAt 47 rest).1 w2 hJ2 (by rw [List.length_take]; omega); rw [hx4] at hy)

      refine hR.mono ?_
      rintro e W3 (⟨rfl, hJ3, _⟩ | ⟨rfl, hJx3⟩)
      · gi_wp2
        go_roundw
        case rel =>
          refine ⟨k + 1, (cutAt 47 rest).2.1, rfl, ?_, ?_, by rw [hs1]; exact hJ3⟩
          · have := cutAt_rest 47 rest; omega
          · cases hc : (cutAt 47 rest).2.2
            · exact .inr ⟨rfl, by rw [hs2, hc]; rfl⟩
            · exact .inl ⟨rfl, by have := cutAt_less hc; omega, by rw [hs2, hc]; rfl⟩
        case measure =>
          have h1 := cutAt_rest 47 rest
          cases hc : (cutAt 47 rest).2.2
          · simp [strSize, bitSize, ByteArray.size]; omega
          · have := cutAt_less hc
            simp [strSize, bitSize, ByteArray.size]; omega
      · gi_wp2
        refine bodyPost_ret (results_none rfl _ _ _) rfl ?_
        exact ⟨⟨_, rfl⟩, .inr ⟨_, ⟨k + 1, hs1.symm⟩, hJx3⟩⟩
    · gi_wp2
      go_end0
      refine ⟨⟨_, rfl⟩, .inl ⟨_, rfl, ?_⟩⟩
      have : (steps s).take k = steps s := by
        have := List.take_append_drop k (steps s)
        rw [hd, List.append_nil] at this; exact this
      rw [← this]; exact hJs

/-- label.steps: the path is boxed; the closure holds the box -/
theorem steps_in (n : Nat) (s : List UInt8) (w : World) :
    CallsIn Fence.wide n Tryd.prog 39 #[S s] w fun e w' => e = .returned (.func (.func 51) #[] #[.pointer (some ⟨w.heap.size, 0, none⟩)]) ∧ w' = w.alloc (.cells #[S s] 9) := by
  refine callsIn_of_wp Tryd.func39 rfl trivial ?_ rfl
  simp only [Tryd.ntmps39, List.size_toArray, List.length_cons, List.length_nil, Nat.reduceAdd, Nat.reduceSub, Array.replicate_succ, Array.replicate_zero, List.push_toArray, List.append_toArray, List.nil_append, List.cons_append]
  gi_wp2
  go_ret
  exact ⟨rfl, rfl⟩

theorem steps_stops (n : Nat) (hn : 1 ≤ n) (Bs : Nat) (s : List UInt8) (h4 : s.length ≤ 4000) (w : World) (hBs : Bs < w.heap.size) (hc : w.cell? ⟨Bs, 0, none⟩ = some (S s)) :
    SeqStopsK Fence.wide n Tryd.prog 51 #[.pointer (some ⟨Bs, 0, none⟩)] (fun x : List UInt8 => #[S (x.take 4000)]) (fun _ _ => True) (fun ys => ys = steps s) (fun pre => ∃ k, pre = (steps s).take k) (s.length + 1) w := fun l J Jx W hW hJ _ hY h0 =>
  steps1_in n hn l Bs s (by omega) J Jx hY h4 W hJ ((hW.cell (p := ⟨Bs, 0, none⟩) hBs).trans hc) h0

theorem res46 {tmps : Array Value} {w : World} {B : Nat} {v : Value} (hp : tmps.getD 2 undef = .pointer (some ⟨B, 0, none⟩)) (hc : w.cell? ⟨B, 0, none⟩ = some v) : (results Tryd.f29 tmps).run Tryd.prog w = .ok v w := by
  have hp' : tmps[2]?.getD undef = .pointer (some ⟨B, 0, none⟩) := by simpa using hp
  simp [results, Tryd.f29, hp', asAddr, go_sem, hc]

set_option maxRecDepth 100000 in
set_option maxHeartbeats 2000000 in
theorem check_in (s : List UInt8) (w : World) : CallsIn Fence.wide 3 Tryd.prog 29 #[S s] w fun e w' => e = .returned (.int .i64 (labelCheck s)) ∧ RowKit.Below w.heap.size w w' := by
  refine callsIn_of_wp_marks Tryd.func29 rfl trivial ?_ rfl
  simp only [Tryd.ntmps29, List.size_toArray, List.length_cons, List.length_nil, Nat.reduceAdd, Nat.reduceSub, Array.replicate_succ, Array.replicate_zero, List.push_toArray, List.append_toArray, List.nil_append, List.cons_append]
  have hB0 : RowKit.Below w.heap.size w (w.alloc (.cells #[.int .i64 0] 24)) := (RowKit.Below.refl _ w).alloc (Nat.le_refl _) _
  by_cases h4 : (4000 : Int) < (s.length : Int)
  · gi_wp2
    refine ⟨trivial, ?_⟩
    gi_wp2
    refine ⟨.int .i64 4, res46 (B := w.heap.size) rfl (by simp), ?_, (RowKit.Below.refl _ w).alloc (Nat.le_refl _) _⟩
    have h4' : 4000 < s.length := by omega
    simp [labelCheck, h4']
  · have hB2 : ∀ w2, RowKit.Below (w.alloc (.cells #[.int .i64 0] 24)).heap.size (w.alloc (.cells #[.int .i64 0] 24)) w2 → RowKit.Below w.heap.size w w2 := fun w2 h => hB0.trans (h.mono (by simp))
    gi_wp2_with (first | (refine ⟨trivial, ?_⟩; gi_at_call 33; refine (count_in _ s _).mono ?_; rintro e w2 ⟨rfl, hg⟩; have hc2 : w2.cell? ⟨w.heap.size, 0, none⟩ = some (.int .i64 0) := (hg.cell (p := ⟨w.heap.size, 0, none⟩) (by simp)).trans (by simp); have hf2 : w2.frozen? ⟨w.heap.size, 0, none⟩ = false := (hg.frozen (p := ⟨w.heap.size, 0, none⟩) (by simp)).trans (by simp); have hsz := hg.size; rw [World.size_alloc] at hsz) | (refine ⟨trivial, ?_⟩; gi_at_call 39; refine (steps_in _ s _).mono ?_; rintro e w3 ⟨rfl, rfl⟩))
    · rename_i h39
      refine ⟨.int .i64 4, res46 (B := w.heap.size) rfl (World.cell?_setCell_same' _ _ _ (by rw [hc2]; rfl)), ?_, (hB2 _ hg).setCell (Nat.le_refl _) _⟩
      have h4' : ¬ 4000 < s.length := by omega
      have hs : 40 < (steps s).length := by
        cases s with
        | nil => simp at h39
        | cons c t => rw [show steps (c :: t) = parts 47 (c :: t) from rfl, parts_count]; omega
      simp only [labelCheck, h4', hs, if_false, if_true]
    · rename_i h39 _ _ _
      have hs40 : ¬ 40 < (steps s).length := by
        cases s with
        | nil => simp [steps]
        | cons c t => rw [show steps (c :: t) = parts 47 (c :: t) from rfl, parts_count]; omega
      have hBA : RowKit.Below w2.heap.size w2 (w2.alloc (.cells #[S s] 9)) := (RowKit.Below.refl _ w2).alloc (Nat.le_refl _) _
      refine wpIn_rangeFunc_ownF rfl (by omega) (gf := 51) (lb := #[.pointer (some ⟨w2.heap.size, 0, none⟩)]) rfl trivial (enters_of Tryd.func51 (by kernel_rfl) rfl)
        (steps_stops _ (by omega) w2.heap.size s (by omega) _ (by simp) (by simp)) (fun _ _ => trivial) (fun _ _ _ _ _ _ _ _ => trivial) (RowKit.Below.refl _ _) (fun _ => rfl)
        (fun pre W => (pre.all fun x => readOk (x.take 4000)) = true ∧ W.cell? ⟨w.heap.size, 0, none⟩ = some (.int .i64 0) ∧ W.frozen? ⟨w.heap.size, 0, none⟩ = false ∧ RowKit.Below w.heap.size w W)
        (fun c pre W => c = .ret ∧ (pre.all fun x => readOk (x.take 4000)) = false ∧ W.cell? ⟨w.heap.size, 0, none⟩ = some (.int .i64 12) ∧ RowKit.Below w.heap.size w W)
        (fun s A B row hs hg hr => ?_) (fun c s A B row hs hg hr => ?_)
        ⟨rfl, (hBA.cell (p := ⟨w.heap.size, 0, none⟩) (by show w.heap.size < _; omega)).trans hc2, (hBA.frozen (p := ⟨w.heap.size, 0, none⟩) (by show w.heap.size < _; omega)).trans hf2, (hB2 _ hg).alloc (by omega) _⟩
        (fun x => { tmps := #[S s, undef, .pointer (some ⟨w.heap.size, 0, none⟩), S (x.take 4000), undef, undef, S s, .int .i64 s.length, .bool false, .bool false, S s, .int .i64 (s.countP (· == 47) : Int), .bool (decide (39 < (s.countP (· == 47) : Int))), .bool (decide (39 < (s.countP (· == 47) : Int))), S s, .func (.func 51) #[] #[.pointer (some ⟨w2.heap.size, 0, none⟩)], S (x.take 4000), undef, undef, undef, undef, undef, undef, undef], defers := [] }) ?assign ?body ?done ?stop
      · exact ⟨hs.1, cell_kept hs.2.1 hg (fun r e => (hr r e).2), (frozen_kept hs.2.1 hg (fun r e => (hr r e).2)).trans hs.2.2.1, hs.2.2.2.grown hg hs.2.2.2.size (fun k e => by have := (hr k e).1; simp at this; omega)⟩
      · exact ⟨hs.1, hs.2.1, cell_kept hs.2.2.1 hg (fun r e => (hr r e).2), hs.2.2.2.grown hg hs.2.2.2.size (fun k e => by have := (hr k e).1; simp at this; omega)⟩
      case assign =>
        intro l x W K hK
        gi_wp2
        exact hK
      case body =>
        rintro l pre x W ⟨hp, hc, hf, hB⟩ _
        have hlt : w.heap.size < W.heap.size := by
          obtain ⟨o, ho, _⟩ := cells_of_cell hc
          exact (Array.getElem?_eq_some_iff.1 ho).1
        gi_wp2_with (refine ⟨trivial, ?_⟩; gi_at_call 40; refine (CallsIn.inRound l (read_in _ (x.take 4000) (by simp; omega) _)).mono ?_; rintro e w4 ⟨nm, ix, rfl, hg4⟩; have hc4 : w4.cell? ⟨w.heap.size, 0, none⟩ = some (.int .i64 0) := (hg4.cell (p := ⟨w.heap.size, 0, none⟩) hlt).trans hc; have hf4 : w4.frozen? ⟨w.heap.size, 0, none⟩ = false := (hg4.frozen (p := ⟨w.heap.size, 0, none⟩) hlt).trans hf; have hlt4 := Nat.lt_of_lt_of_le hlt hg4.size; have hc5 : ∀ o, (w4.alloc o).cell? ⟨w.heap.size, 0, none⟩ = some (.int .i64 0) := fun o => ((((RowKit.Below.refl w4.heap.size w4).alloc (Nat.le_refl _) o).cell (p := ⟨w.heap.size, 0, none⟩) hlt4).trans hc4); have hf5 : ∀ o, (w4.alloc o).frozen? ⟨w.heap.size, 0, none⟩ = false := fun o => ((((RowKit.Below.refl w4.heap.size w4).alloc (Nat.le_refl _) o).frozen (p := ⟨w.heap.size, 0, none⟩) hlt4).trans hf4))
        · rename_i hx
          have hB5 : RowKit.Below w.heap.size w (w4.setCell ⟨w.heap.size, 0, none⟩ (.int .i64 12)) := (hB.trans (hg4.mono (Nat.le_of_lt hlt))).setCell (Nat.le_refl _) _
          have hlt5 : w.heap.size < (w4.setCell ⟨w.heap.size, 0, none⟩ (.int .i64 12)).heap.size := by rw [World.size_setCell]; exact hlt4
          refine ⟨(KeepsOthers.of_grownBy (grown hg4) (fun j o e => by cases e)).trans ((KeepsOthers.setCell _ _ _).trans (KeepsOthers.alloc _ _)), rfl, ?_, ?_, hB5.alloc (Nat.le_of_lt hlt5) _⟩
          · simp [hp]; simpa using hx
          · exact ((((RowKit.Below.refl _ _).alloc (Nat.le_refl _) _).cell (p := ⟨w.heap.size, 0, none⟩) hlt5).trans (World.cell?_setCell_same' _ _ _ (by rw [hc4]; rfl)))
        · rename_i hx
          refine ⟨(KeepsOthers.of_grownBy (grown hg4) (fun j o e => by cases e)).trans (KeepsOthers.alloc _ _), trivial, ?_, hc5 _, hf5 _, (hB.trans (hg4.mono (Nat.le_of_lt hlt))).alloc (Nat.le_of_lt hlt4) _⟩
          simp [hp]; simpa using hx
      case done =>
        rintro D xs W hD rfl ⟨hp, hc, hf, hB⟩ hK
        gi_wp2
        have hDw : w.heap.size < D := by simp at hD; omega
        refine ⟨by simp, .inl ⟨_, _, rfl, run_takeDeferred (w := W.setCell ⟨w.heap.size, 0, none⟩ (.int .i64 0)) ((Below.heap_setCell _ _ _ _ (by show D ≠ w.heap.size; omega)).trans hK), ?_⟩⟩
        refine ⟨.int .i64 0, res46 (B := w.heap.size) rfl ((World.cell?_of_block (World.putObj_heap_other (by show w.heap.size ≠ D; omega))).trans (World.cell?_setCell_same' _ _ _ (by rw [hc]; rfl))), ?_, (hB.setCell (Nat.le_refl _) _).grown (grownBy_putObj' _ _ _) (hB.setCell (p := ⟨w.heap.size, 0, none⟩) (Nat.le_refl _) _).size (fun k e => by cases e; omega)⟩
        have h4' : ¬ 4000 < s.length := by omega
        have hs : ¬ 40 < (steps s).length := hs40
        rw [all_take fun x hx => Nat.le_trans (steps_len hx) (by omega)] at hp
        simp only [labelCheck, h4', hs, hp, if_false, if_true]
      case stop =>
        rintro D c pre W hD ⟨k, rfl⟩ ⟨rfl, hp, hc, hB⟩ hK
        gi_wp2
        have hDw : w.heap.size < D := by simp at hD; omega
        refine ⟨by simp, .inl ⟨_, _, rfl, run_takeDeferred hK, ?_⟩⟩
        refine ⟨.int .i64 12, res46 (B := w.heap.size) rfl ((World.cell?_of_block (World.putObj_heap_other (by show w.heap.size ≠ D; omega))).trans hc), ?_, hB.grown (grownBy_putObj' _ _ _) hB.size (fun k e => by cases e; omega)⟩
        have h4' : ¬ 4000 < s.length := by omega
        have hs : ¬ 40 < (steps s).length := hs40
        rw [all_take fun x hx => Nat.le_trans (steps_len (List.mem_of_mem_take hx)) (by omega)] at hp
        have hall : (steps s).all readOk = false := by
          cases ha : (steps s).all readOk with
          | false => rfl
          | true =>
            rw [List.all_eq_true] at ha
            rw [List.all_eq_true.2 fun x hx => ha x (List.mem_of_mem_take hx)] at hp
            cases hp
        simp only [labelCheck, h4', hs, hall, if_false, Bool.false_eq_true]

theorem go_label_Check_ok (n : Nat) (a0 : List UInt8) (r : Int) (h : go_label_Check n a0 = some r) : PCall Tryd.prog 29 [.str a0] (.int .i64 r) := by
  rw [go_label_Check] at h
  injection h with h
  subst h
  intro H W g cargs hG hA
  refine .inl ⟨Tryd.call29 _ _, ?_⟩
  obtain ⟨hn, hr⟩ := hA
  have e0 := hr 0 _ rfl
  have hs : cargs = #[cargs.getD 0 undef] := by
    obtain ⟨l⟩ := cargs
    match l, hn with
    | [a], _ => rfl
  cases hz : cargs.getD 0 undef <;> rw [hz] at e0 <;> cases e0
  rw [hs, hz]
  refine (callsIn_wide.1 (check_in a0 W)).mono ?_
  rintro e W' ⟨rfl, hB⟩
  have hg : Grow W W' := ⟨hB.os, hB.tape, hB.output, hB.size, hB.block⟩
  exact ⟨_, g, rfl, hg.step, hG.grow hg, .int _ _⟩
end Go.Proofs
