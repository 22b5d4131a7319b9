/-
  gambrellaw45.ReportTexts answers true, and its arguments read as before (a tied card: its listed variables hold what the program lays), where they hold together at most 1048576 values and letters.
-/
import Derived.Test.YtagebdhlgnlcnaaGreatDoorOwn1
import Derived.Test.YtagebdhlgnlcnaaGreatDoorOwn3
import Derived.Test.YtagebdhlgnlcnaaGreatDoorRows
import Derived.Test.YtagebdhlgnlcnaaGreatDoorCards
import Derived.Test.YtagebdhlgnlcnaaGreatDoorTie
import Derived.WalkKit
import Derived.ProofKit
import Derived.Handy
import Derived.Lay
import Derived.SevenTiedAt
import Derived.Deep.DeepHandedRow
import Derived.Lib.LaidTab
import Derived.Stop.LaidErr
import Derived.Test.YtagebdhlgnlcnaaGreatDoorChecked
namespace Go.Proofs.YtagebdhlgnlcnaaGreatDoor
open Go Go.Ab Go.ChangeShapes Go.WideShapes Go.ChangeAt Go.RowKit
mutual
theorem bulk_eq {H : Type} : ∀ d : DataW H, Rows.uptoBulk d = bulk d
 | .lit .nil | .lit (.string _) | .lit (.int ..) | .lit (.bool _) | .lit (.float ..) | .nil | .held _ => rfl
 | .ptr d | .iface _ d => by simp only [Rows.uptoBulk, bulk]; rw [bulk_eq d]
 | .slice es sp => by simp only [Rows.uptoBulk, bulk]; rw [bulkAll_eq es, bulkAll_eq sp]
 | .agg ps => by simp only [Rows.uptoBulk, bulk]; rw [bulkAll_eq ps]
 | .map es => by simp only [Rows.uptoBulk, bulk]; rw [bulkEntries_eq es]
theorem bulkAll_eq {H : Type} : ∀ ds : List (DataW H), Rows.uptoBulkAll ds = bulkAll ds
 | [] => rfl
 | d :: r => by simp only [Rows.uptoBulkAll, bulkAll]; rw [bulk_eq d, bulkAll_eq r]
theorem bulkEntries_eq {H : Type} : ∀ es : List (Lit × DataW H), Rows.uptoBulkEntries es = bulkEntries es
 | [] => rfl
 | x :: r => by simp only [Rows.uptoBulkEntries, bulkEntries]; rw [bulkEntry_eq x, bulkEntries_eq r]
theorem bulkEntry_eq {H : Type} : ∀ x : Lit × DataW H, Rows.uptoBulkEntry x = bulkEntry x
 | (.nil, d) | (.string _, d) | (.int .., d) | (.bool _, d) | (.float .., d) => by simp only [Rows.uptoBulkEntry, bulkEntry]; rw [bulk_eq d]
end
theorem laidOut : laidOutB Tryz.prog = true := by kernel_rfl
theorem own : ownKnob Tryz.prog.godebug = none := by kernel_rfl
theorem glob_at {W : World} {name : String} {k : IntKind} {g : Nat} {cs : List (IntKind × Int)} (hcs : cs.map (fun p => Value.int p.1 p.2) = (cs.map Prod.snd).map fun z => Value.int k z) (hn : Tryz.prog.globalNamed name = some g)
  (h : Lib.TabIs Tryz.prog W name k (cs.map Prod.snd)) : ¬ Own g0 H0 g ∧ ∃ ty q, W.heap[g]? = some (.cells (cs.map fun p => Value.int p.1 p.2).toArray ty q) := by
 refine ⟨own0 _ _, ?_⟩
 unfold Lib.TabIs World.var? at h
 rw [hn] at h
 simp only [Option.bind_some] at h
 split at h
 ·rename_i cs' ty q hq
  injection h with h
  rw [hcs]
  exact ⟨ty, q, by rw [hq, h]⟩
 ·cases h
theorem sent_at {W : World} {n : String} {g : Nat} {tp : Nat} {a : Addr} (hn : Tryz.prog.globalNamed n = some g) (h : W.var? Tryz.prog n = some #[.iface tp (.pointer (some a))]) :
  ¬ Own g0 H0 g ∧ ∃ v ty q, W.heap[g]? = some (.cells #[v] ty q) ∧ (v = .nilIface ∨ ∃ te pe, v = .iface te pe) := by
 refine ⟨own0 _ _, ?_⟩
 unfold World.var? at h
 rw [hn] at h
 simp only [Option.bind_some] at h
 split at h
 ·rename_i cs ty q hq
  injection h with h
  exact ⟨_, ty, q, by rw [hq, h], .inr ⟨_, _, rfl⟩⟩
 ·cases h
set_option maxRecDepth 100000 in
theorem globI {W : World} (hL : laidMet Tryz.prog Rows.reportTextsUptoRow.laid W) : GlobI W g0 H0 := fun k cs hk => by
 unfold gl at hk
 split at hk
 ·injection hk with hk; subst hk
  exact glob_at (k := .u64) (name := "internal/strconv.uint64pow10") (by kernel_rfl) (by kernel_rfl) (Lib.tabIs_of_head (g := 1) (by kernel_rfl) (by kernel_rfl) Tryz.underlying112 Tryz.underlying94 (by kernel_rfl) (by kernel_rfl) hL.tail.tail)
 ·cases hk
set_option maxRecDepth 100000 in
theorem globE {W : World} (hL : laidMet Tryz.prog Rows.reportTextsUptoRow.laid W) : GlobE W g0 H0 := fun k hk => by
 unfold gle at hk
 split at hk
 ·obtain ⟨a, s, hv, _⟩ := laid_sentinel (g := 2) (ti := 50) (tp := 140) (te := 142) (ts := 9) hL.tail.tail.tail.tail (by kernel_rfl) (by kernel_rfl) Tryz.underlying50 (fun u h => typeName_ptr_named (nm := "errors.errorString") (by kernel_rfl) (by kernel_rfl) (by decide) u (h.trans (by kernel_rfl))) Tryz.underlying140 Tryz.underlying142 rfl rfl Tryz.underlying9 (by kernel_rfl) (by kernel_rfl)
  exact sent_at (by kernel_rfl) hv
 ·obtain ⟨a, s, hv, _⟩ := laid_sentinel (g := 3) (ti := 50) (tp := 140) (te := 142) (ts := 9) hL.tail.tail.tail (by kernel_rfl) (by kernel_rfl) Tryz.underlying50 (fun u h => typeName_ptr_named (nm := "errors.errorString") (by kernel_rfl) (by kernel_rfl) (by decide) u (h.trans (by kernel_rfl))) Tryz.underlying140 Tryz.underlying142 rfl rfl Tryz.underlying9 (by kernel_rfl) (by kernel_rfl)
  exact sent_at (by kernel_rfl) hv
 ·cases hk
theorem glob {W : World} (hL : laidMet Tryz.prog Rows.reportTextsUptoRow.laid W) : GlobOk W g0 H0 := ⟨globI hL, globE hL⟩
set_option maxRecDepth 100000 in
theorem contract (H : Type) (enc : TypeId × Value → H) (W : World) (base : Nat) (args : Array Value) (ds gs : List (DataW H)) (before : List MemPlace)
  (hval : ∀ (j : Nat) t v, Tryz.f3.params[j]? = some t → args[j]? = some v → Value.okWide Tryz.prog W .any base t v)
  (hW : DataW.Whole enc Tryz.prog Tryz.f3.params.toList Rows.reportTextsSpec.vars false W args.toList ds gs before) (hk : Rows.uptoSmall H (ds ++ gs) = true) (hL : laidMet Tryz.prog Rows.reportTextsUptoRow.laid W) :
  Calls Tryz.prog 3 args W fun e W' => ∃ v, e = .returned v ∧ Rows.reportTextsSpec.post enc Tryz.prog Tryz.f3 false true false false W args v W' := by
 have hW' := hW
 obtain ⟨p, q, hA, hV, rfl, _, _⟩ := hW
 rw [Tryz.params3] at hA hval
 obtain ⟨rfl, _⟩ := ChangeShapes.trodVars_none hV
 obtain ⟨v0, vs0, d0, ds0, p0, q0, hargs, rfl, rfl, h0, r0⟩ := ChangeShapes.trodAll_cons hA
 obtain ⟨v1, vs1, d1, ds1, p1, q1, rfl, rfl, rfl, h1, r1⟩ := ChangeShapes.trodAll_cons r0
 obtain ⟨rfl, rfl, rfl⟩ := ChangeShapes.trodAll_nil r1
 obtain rfl : args = #[v0, v1] := by cases args; simp_all
 obtain ⟨x0, k0, _, s0⟩ := Tryz.arg22.get enc W base v0 d0 p0 h0 (hval 0 22 v0 rfl rfl)
 obtain ⟨x1, k1, _, s1⟩ := Tryz.arg9.get enc W base v1 d1 p1 h1 (hval 1 9 v1 rfl rfl)
 have w0 : (x0.map GTally.size).sum ≤ bulk d0 := by
  simp only [Ty.slice] at s0
  show (x0.map GTally.ty.size).sum ≤ _; omega
 have w1 : x1.length ≤ bulk d1 := by simp only [Ty.str] at s1; omega
 have hb : bulkAll [d0, d1] ≤ 1048576 := by rw [← bulkAll_eq]; simpa [Rows.uptoSmall] using hk
 simp only [bulkAll] at hb
 have w : (x0.map GTally.size).sum + x1.length ≤ 1048576 := by
  refine Nat.le_trans (?_ : _ ≤ bulk d0 + bulk d1) (by omega)
  exact Nat.add_le_add (w0) w1
 obtain ⟨n, hn⟩ := texts45_law x0 x1 w
 have hp := go_gambrellaw45_ReportTexts_pc n x0 x1 true hn
 refine (law_calls (hp H0) (fun _ _ => Tryz.call3 _ _) (relA_of (cs := [v0, v1]) rfl fun j v hj => ?_) (glob hL)).mono fun e W' ⟨he, hg⟩ => ?_
 ·match j with
  | 0 => simp at hj; subst hj; exact ⟨v0, rfl, k0⟩
  | 1 => simp at hj; subst hj; exact ⟨v1, rfl, k1⟩
  | j + 2 => simp at hj
 ·exact ⟨_, he, law_post laidOut rfl (by rw [Tryz.params3]; intro t ht; simp at ht; rcases ht with rfl | rfl <;> exact ⟨by kernel_rfl, of_decide_eq_true (by kernel_rfl)⟩) (by kernel_rfl) Tryz.underlying4 ⟨rfl, rfl, rfl⟩ hW' hg⟩
set_option maxRecDepth 100000 in
theorem laid_met (os : Os) : laidMet Tryz.prog Rows.reportTextsUptoRow.laid ((World.laidAll Tryz.prog os Rows.reportTextsUptoRow.laid).forCall (fun _ _ => 0) ⟨#[], #[.slice none 0 0, .string ⟨#[]⟩], []⟩).memory :=
 laidMet_of_run' 8 (by kernel_rfl) (by kernel_rfl)
theorem reads (os : Os) {H : Type} (enc : TypeId × Value → H) : ∃ places, DataW.whole enc Tryz.prog ((World.laidAll Tryz.prog os Rows.reportTextsUptoRow.laid).forCall (fun _ _ => 0) ⟨#[], #[.slice none 0 0, .string ⟨#[]⟩], []⟩).memory Tryz.f3.params.toList Rows.reportTextsSpec.vars false (#[.slice none 0 0, .string ⟨#[]⟩] : Array Value).toList 8 = some ([.nil, .lit (.string [])], [], places) :=
 ⟨[], by kernel_rfl⟩
theorem witness_row_shaped {H : Type} {enc : TypeId × Value → H} {C : Checked} {os : Os} {f : FuncId} {fn : Func} {s : OpenSpec} {conds : List PathCond} {apart : Bool} {laid : List (String × DataW Unit)} (modest : Bool) (w0 : World) (args : Array Value) (hos : w0.os = os)
  (hsh : (w0.forCall (fun _ _ => 0) ⟨#[], args, []⟩).Shaped C.prog) (hok : Input.okWideB C.prog (w0.forCall (fun _ _ => 0) ⟨#[], args, []⟩) f ⟨#[], args, []⟩ = true)
  (hrow : s.preRow enc C.prog fn conds apart laid (w0.forCall (fun _ _ => 0) ⟨#[], args, []⟩).memory args) :
  ∃ (w : World) (tape : Tape) (i : Input), w.os = os ∧ (w.forCall tape i).Shaped C.prog ∧ i.vars = [] ∧ Input.okWide C.prog (w.forCall tape i) .any w.heap.size f i ∧
   s.preRow enc C.prog fn conds apart laid (w.forCall tape i).memory i.args ∧ ({ modest := modest } : Assume).holds C.prog (lone (Frame.enter C.prog f i.args .normal) [] (w.forCall tape i)) :=
 ⟨w0, fun _ _ => 0, ⟨#[], args, []⟩, hos, hsh, (Input.okWide_of_okWideB (base := 0) hok).1, (Input.okWide_of_okWideB hok).2, hrow, by
  simp only [Assume.holds]
  exact ⟨by simp, by simp, fun _ => Modest.zero, by simp, by simp⟩⟩
set_option maxRecDepth 100000 in
theorem lifted (os : Os) (started : os.Started) (H : Type) (enc : TypeId × Value → H) (F : Stop.Interp) :
  ReturnsInHanded {} Tryz.checked os 3 .any ((Rows.OpenSpec.upto Rows.reportTextsSpec).preRow enc Tryz.prog Tryz.f3 Rows.reportTextsUptoRow.domain false Rows.reportTextsUptoRow.laid) (((Rows.OpenSpec.upto Rows.reportTextsSpec).at F).post enc Tryz.prog Tryz.f3 false true false false) := by
 obtain ⟨places, hx⟩ := reads os enc
 refine returnsInHanded_of_row (C := Tryz.checked) (s := Rows.OpenSpec.upto Rows.reportTextsSpec) own started (by kernel_rfl) Tryz.func3
  (witness_row_shaped (enc := enc) (C := Tryz.checked) false (World.laidAll Tryz.prog os Rows.reportTextsUptoRow.laid) #[.slice none 0 0, .string ⟨#[]⟩] (World.laidAll_os _ _ _) (World.shaped_of_ZipB (by kernel_rfl) (by kernel_rfl)) (by kernel_rfl)
   (OpenSpec.preRow_of_cond 8 hx (by kernel_rfl) (fun k hk => by cases hk; kernel_rfl) (by kernel_rfl) (laid_met os))) ?_
 intro W base args ds gs before hval hW _ hcond _ hL _ _
 exact contract H enc W base args ds gs before hval hW (hcond _ rfl) hL
theorem saidUpto : Rows.ReportTextsUptoSaid :=
 OpenClaim.holds_of_cond 3 Tryz.f3 rfl rfl rfl rfl rfl rfl rfl ⟨rfl, rfl, rfl, rfl, rfl⟩ rfl rfl rfl rfl rfl (by kernel_rfl) Tryz.func3 (by kernel_rfl)
  (of_decide_eq_true (by kernel_rfl)) (by unfold Func.isWrapper; first | (rw [if_pos (by decide +kernel)]; kernel_rfl) | (rw [if_neg (by decide +kernel)]; exact ⟨rfl, rfl⟩))
  (fun os started H enc _ F => by rw [OpenClaim.pre_eq_preRow]; exact lifted os started H enc F)
theorem plainLooks (f : FuncId) (fn : Func) (hf : Tryz.pinned.checked.prog.funcNamed Rows.reportTextsUptoRow.func = some f) (hfn : Tryz.pinned.checked.prog.funcs[f]? = some fn) :
  true = Tryz.pinned.checked.prog.looks [] ∧ ∀ (j : Nat) t, fn.params[j]? = some t → Tryz.pinned.checked.prog.wantsStandIn t = false := by
 obtain rfl : f = 3 := Option.some.inj ((show Tryz.prog.funcNamed Rows.reportTextsUptoRow.func = some 3 by kernel_rfl).symm.trans hf) |>.symm
 obtain rfl : fn = Tryz.f3 := (Option.some.inj (Tryz.func3.symm.trans hfn)).symm
 refine ⟨by kernel_rfl, fun j t ht => ?_⟩
 rw [Tryz.params3] at ht
 have hm := Array.mem_of_getElem? ht
 have hall : ∀ t ∈ #[22, 9], Tryz.prog.wantsStandIn t = false := by
  intro t ht
  simp at ht
  rcases ht with rfl | rfl <;> kernel_rfl
 exact hall t hm
theorem proved : Rows.ReportTextsUptoCardSaid :=
 Claim7.holds_tied_plain_at .later [] _ _ _ _ saidUpto (fun _ h => by cases h) (by kernel_rfl) (fun _ h => by cases h) reportTextsUpto_row_tie rfl ⟨rfl, rfl⟩ (by kernel_rfl) rfl plainLooks (by kernel_rfl)
#print axioms proved
end Go.Proofs.YtagebdhlgnlcnaaGreatDoor

