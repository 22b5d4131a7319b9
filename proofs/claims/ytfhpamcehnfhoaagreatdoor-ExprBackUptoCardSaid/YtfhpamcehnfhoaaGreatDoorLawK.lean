/-
  gambrellaw04.ExprBack answers true, and its arguments read as before (a tied card: its listed variables hold what the program lays), where they hold together at most 1048576 values and letters.
-/
import Derived.Test.YtfhpamcehnfhoaaGreatDoorOwn2
import Derived.Test.YtfhpamcehnfhoaaGreatDoorOwn4
import Derived.Test.YtfhpamcehnfhoaaGreatDoorRows
import Derived.Test.YtfhpamcehnfhoaaGreatDoorCards
import Derived.Test.YtfhpamcehnfhoaaGreatDoorTie
import Derived.WalkKit
import Derived.ProofKit
import Derived.Handy
import Derived.Lay
import Derived.SevenTiedAt
import Derived.Deep.DeepHandedRow
import Derived.Lib.LaidTab
import Derived.Stop.LaidErr
import Derived.Test.YtfhpamcehnfhoaaGreatDoorChecked
namespace Go.Proofs.YtfhpamcehnfhoaaGreatDoor
open Go Go.Ab Go.ChangeShapes Go.WideShapes Go.ChangeAt Go.RowKit
mutual
theorem zpk {H : Type} : ∀ d : DataW H, Rows.uptoBulk d = z94 d
 | .lit .nil | .lit (.string _) | .lit (.int ..) | .lit (.bool _) | .lit (.float ..) | .nil | .held _ => rfl
 | .ptr d | .iface _ d => by simp only [Rows.uptoBulk, z94]; rw [zpk d]
 | .slice es sp => by simp only [Rows.uptoBulk, z94]; rw [z8x es, z8x sp]
 | .agg ps => by simp only [Rows.uptoBulk, z94]; rw [z8x ps]
 | .map es => by simp only [Rows.uptoBulk, z94]; rw [zck es]
theorem z8x {H : Type} : ∀ ds : List (DataW H), Rows.uptoBulkAll ds = z4t ds
 | [] => rfl
 | d :: r => by simp only [Rows.uptoBulkAll, z4t]; rw [zpk d, z8x r]
theorem zck {H : Type} : ∀ es : List (Lit × DataW H), Rows.uptoBulkEntries es = z9s es
 | [] => rfl
 | x :: r => by simp only [Rows.uptoBulkEntries, z9s]; rw [zpj x, zck r]
theorem zpj {H : Type} : ∀ x : Lit × DataW H, Rows.uptoBulkEntry x = zho x
 | (.nil, d) | (.string _, d) | (.int .., d) | (.bool _, d) | (.float .., d) => by simp only [Rows.uptoBulkEntry, zho]; rw [zpk d]
end
theorem laidOut : laidOutB Tryz.prog = true := by kernel_rfl
theorem own : ownKnob Tryz.prog.godebug = none := by kernel_rfl
theorem zxz {W : World} {name : String} {k : IntKind} {g : Nat} {cs : List (IntKind × Int)} (hcs : cs.map (fun p => Value.int p.1 p.2) = (cs.map Prod.snd).map fun z => Value.int k z) (hn : Tryz.prog.globalNamed name = some g)
  (h : Lib.TabIs Tryz.prog W name k (cs.map Prod.snd)) : ¬ Own g0 H0 g ∧ ∃ ty q, W.heap[g]? = some (.cells (cs.map fun p => Value.int p.1 p.2).toArray ty q) := by
 refine ⟨yn7 _ _, ?_⟩
 unfold Lib.TabIs World.var? at h
 rw [hn] at h
 simp only [Option.bind_some] at h
 split at h
 ·rename_i cs' ty q hq
  injection h with h
  rw [hcs]
  exact ⟨ty, q, by rw [hq, h]⟩
 ·cases h
set_option maxRecDepth 100000 in
theorem zk2 {W : World} (hL : laidMet Tryz.prog Rows.exprBackUptoRow.laid W) : zfw W g0 H0 := fun k cs hk => by
 unfold gl at hk
 split at hk
 ·injection hk with hk; subst hk
  exact zxz (k := .u8) (name := "strings.asciiSpace") (by kernel_rfl) (by kernel_rfl) (Lib.tabIs_of_head (g := 0) (rest := []) (by kernel_rfl) (by kernel_rfl) Tryz.underlying125 Tryz.underlying5 (by kernel_rfl) (by kernel_rfl) hL.tail.tail.tail.tail)
 ·injection hk with hk; subst hk
  exact zxz (k := .u64) (name := "internal/strconv.uint64pow10") (by kernel_rfl) (by kernel_rfl) (Lib.tabIs_of_head (g := 3) (by kernel_rfl) (by kernel_rfl) Tryz.underlying238 Tryz.underlying154 (by kernel_rfl) (by kernel_rfl) hL.tail.tail)
 ·cases hk
set_option maxRecDepth 100000 in
theorem zob (H : Type) (enc : TypeId × Value → H) (W : World) (base : Nat) (args : Array Value) (ds gs : List (DataW H)) (before : List MemPlace)
  (hval : ∀ (j : Nat) t v, Tryz.f6.params[j]? = some t → args[j]? = some v → Value.okWide Tryz.prog W .any base t v)
  (hW : DataW.Whole enc Tryz.prog Tryz.f6.params.toList Rows.exprBackSpec.vars false W args.toList ds gs before) (hk : Rows.uptoSmall H (ds ++ gs) = true) (hL : laidMet Tryz.prog Rows.exprBackUptoRow.laid W) :
  Calls Tryz.prog 6 args W fun e W' => ∃ v, e = .returned v ∧ Rows.exprBackSpec.post enc Tryz.prog Tryz.f6 false true false false W args v W' := by
 have hW' := hW
 obtain ⟨p, q, hA, hV, rfl, _, _⟩ := hW
 rw [Tryz.params6] at hA hval
 obtain ⟨rfl, _⟩ := ChangeShapes.trodVars_none hV
 obtain ⟨v0, vs0, d0, ds0, p0, q0, hargs, rfl, rfl, h0, r0⟩ := ChangeShapes.trodAll_cons hA
 obtain ⟨rfl, rfl, rfl⟩ := ChangeShapes.trodAll_nil r0
 obtain rfl : args = #[v0] := by cases args; simp_all
 obtain ⟨x0, k0, g0, s0⟩ := Tryz.ysn.get enc W base v0 d0 p0 h0 (hval 0 29 v0 rfl rfl)
 have w0 : x0.size ≤ z94 d0 := s0
 have hb : z4t [d0] ≤ 1048576 := by rw [← z8x]; simpa [Rows.uptoSmall] using hk
 simp only [z4t] at hb
 have w : x0.size ≤ 1048576 := by
  refine Nat.le_trans (?_ : _ ≤ z94 d0) (by omega)
  exact w0
 obtain ⟨n, hn⟩ := yqm x0 g0 w
 have hp := zk3 n x0 true hn
 refine (y0b (hp H0) (fun _ _ => Tryz.call6 _ _) (ygz (cs := [v0]) rfl fun j v hj => ?_) (zk2 hL)).mono fun e W' ⟨he, hg⟩ => ?_
 ·match j with
  | 0 => simp at hj; subst hj; exact ⟨v0, rfl, k0⟩
  | j + 1 => simp at hj
 ·exact ⟨_, he, y4x laidOut rfl (by rw [Tryz.params6]; intro t ht; simp at ht; subst ht; exact ⟨by kernel_rfl, of_decide_eq_true (by kernel_rfl)⟩) (by kernel_rfl) Tryz.underlying4 ⟨rfl, rfl, rfl⟩ hW' hg⟩
set_option maxRecDepth 100000 in
theorem y7f (os : Os) : laidMet Tryz.prog Rows.exprBackUptoRow.laid ((World.laidAll Tryz.prog os Rows.exprBackUptoRow.laid).forCall (fun _ _ => 0) ⟨#[], #[.agg #[.int .u8 0, .int .u8 0, .int .i64 0, .int .i64 0, .bool false, .string ⟨#[]⟩, .slice none 0 0, .string ⟨#[]⟩, .slice none 0 0]], []⟩).memory :=
 laidMet_of_run' 8 (by kernel_rfl) (by kernel_rfl)
theorem reads (os : Os) {H : Type} (enc : TypeId × Value → H) : ∃ places, DataW.whole enc Tryz.prog ((World.laidAll Tryz.prog os Rows.exprBackUptoRow.laid).forCall (fun _ _ => 0) ⟨#[], #[.agg #[.int .u8 0, .int .u8 0, .int .i64 0, .int .i64 0, .bool false, .string ⟨#[]⟩, .slice none 0 0, .string ⟨#[]⟩, .slice none 0 0]], []⟩).memory Tryz.f6.params.toList Rows.exprBackSpec.vars false (#[.agg #[.int .u8 0, .int .u8 0, .int .i64 0, .int .i64 0, .bool false, .string ⟨#[]⟩, .slice none 0 0, .string ⟨#[]⟩, .slice none 0 0]] : Array Value).toList 8 = some ([.agg [.lit (.int .u8 0), .agg [.lit (.int .u8 0), .agg [.lit (.int .i64 0), .lit (.int .i64 0)], .lit (.bool false), .lit (.string []), .nil], .lit (.string []), .nil]], [], places) :=
 ⟨[], by kernel_rfl⟩
theorem zev {H : Type} {enc : TypeId × Value → H} {C : Checked} {os : Os} {f : FuncId} {fn : Func} {s : OpenSpec} {conds : List PathCond} {apart : Bool} {laid : List (String × DataW Unit)} (modest : Bool) (w0 : World) (args : Array Value) (hos : w0.os = os)
  (hsh : (w0.forCall (fun _ _ => 0) ⟨#[], args, []⟩).Shaped C.prog) (hok : Input.okWideB C.prog (w0.forCall (fun _ _ => 0) ⟨#[], args, []⟩) f ⟨#[], args, []⟩ = true)
  (hrow : s.preRow enc C.prog fn conds apart laid (w0.forCall (fun _ _ => 0) ⟨#[], args, []⟩).memory args) :
  ∃ (w : World) (tape : Tape) (i : Input), w.os = os ∧ (w.forCall tape i).Shaped C.prog ∧ i.vars = [] ∧ Input.okWide C.prog (w.forCall tape i) .any w.heap.size f i ∧
   s.preRow enc C.prog fn conds apart laid (w.forCall tape i).memory i.args ∧ ({ modest := modest } : Assume).holds C.prog (lone (Frame.enter C.prog f i.args .normal) [] (w.forCall tape i)) :=
 ⟨w0, fun _ _ => 0, ⟨#[], args, []⟩, hos, hsh, (Input.okWide_of_okWideB (base := 0) hok).1, (Input.okWide_of_okWideB hok).2, hrow, by
  simp only [Assume.holds]
  exact ⟨by simp, by simp, fun _ => Modest.zero, by simp, by simp⟩⟩
set_option maxRecDepth 100000 in
theorem lifted (os : Os) (started : os.Started) (H : Type) (enc : TypeId × Value → H) (F : Stop.Interp) :
  ReturnsInHanded {} Tryz.checked os 6 .any ((Rows.OpenSpec.upto Rows.exprBackSpec).preRow enc Tryz.prog Tryz.f6 Rows.exprBackUptoRow.domain false Rows.exprBackUptoRow.laid) (((Rows.OpenSpec.upto Rows.exprBackSpec).at F).post enc Tryz.prog Tryz.f6 false true false false) := by
 obtain ⟨places, hx⟩ := reads os enc
 refine returnsInHanded_of_row (C := Tryz.checked) (s := Rows.OpenSpec.upto Rows.exprBackSpec) own started (by kernel_rfl) Tryz.func6
  (zev (enc := enc) (C := Tryz.checked) false (World.laidAll Tryz.prog os Rows.exprBackUptoRow.laid) #[.agg #[.int .u8 0, .int .u8 0, .int .i64 0, .int .i64 0, .bool false, .string ⟨#[]⟩, .slice none 0 0, .string ⟨#[]⟩, .slice none 0 0]] (World.laidAll_os _ _ _) (World.shaped_of_ZipB (by kernel_rfl) (by kernel_rfl)) (by kernel_rfl)
   (OpenSpec.preRow_of_cond 8 hx (by kernel_rfl) (fun k hk => by cases hk; kernel_rfl) (by kernel_rfl) (y7f os))) ?_
 intro W base args ds gs before hval hW _ hcond _ hL _ _
 exact zob H enc W base args ds gs before hval hW (hcond _ rfl) hL
theorem y4h : Rows.ExprBackUptoSaid :=
 OpenClaim.holds_of_cond 6 Tryz.f6 rfl rfl rfl rfl rfl rfl rfl ⟨rfl, rfl, rfl, rfl, rfl⟩ rfl rfl rfl rfl rfl (by kernel_rfl) Tryz.func6 (by kernel_rfl)
  (of_decide_eq_true (by kernel_rfl)) (by unfold Func.isWrapper; first | (rw [if_pos (by decide +kernel)]; kernel_rfl) | (rw [if_neg (by decide +kernel)]; exact ⟨rfl, rfl⟩))
  (fun os started H enc _ F => by rw [OpenClaim.pre_eq_preRow]; exact lifted os started H enc F)
theorem zwp (f : FuncId) (fn : Func) (hf : Tryz.pinned.checked.prog.funcNamed Rows.exprBackUptoRow.func = some f) (hfn : Tryz.pinned.checked.prog.funcs[f]? = some fn) :
  true = Tryz.pinned.checked.prog.looks [] ∧ ∀ (j : Nat) t, fn.params[j]? = some t → Tryz.pinned.checked.prog.wantsStandIn t = false := by
 obtain rfl : f = 6 := Option.some.inj ((show Tryz.prog.funcNamed Rows.exprBackUptoRow.func = some 6 by kernel_rfl).symm.trans hf) |>.symm
 obtain rfl : fn = Tryz.f6 := (Option.some.inj (Tryz.func6.symm.trans hfn)).symm
 refine ⟨by kernel_rfl, fun j t ht => ?_⟩
 rw [Tryz.params6] at ht
 have hm := Array.mem_of_getElem? ht
 have hall : ∀ t ∈ #[29], Tryz.prog.wantsStandIn t = false := by
  intro t ht
  simp at ht
  rcases ht with rfl <;> kernel_rfl
 exact hall t hm
theorem proved : Rows.ExprBackUptoCardSaid :=
 Claim7.holds_tied_plain_at .later [] _ _ _ _ y4h (fun _ h => by cases h) (by kernel_rfl) (fun _ h => by cases h) exprBackUpto_row_tie rfl ⟨rfl, rfl⟩ (by kernel_rfl) rfl zwp (by kernel_rfl)
#print axioms proved
end Go.Proofs.YtfhpamcehnfhoaaGreatDoor

