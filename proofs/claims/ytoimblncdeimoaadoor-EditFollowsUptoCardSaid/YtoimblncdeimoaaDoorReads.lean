/-
  ARGUMENTS READ AS THE LEAN STRUCTURES, by a program of this repo (types.py).
-/
import Derived.Test.YtoimblncdeimoaaDoorTypes
import Derived.Test.YtoimblncdeimoaaDoorFacts
namespace Go.Proofs.Tryd
open Go Go.Ab
set_option linter.unusedSimpArgs false
theorem reads32 (n : Nat) : Reads Tryd.prog n 32 GOver.ty := (reads_struct Tryd.underlying32 cellsOf32 (fun m hm => (readsF_cons rfl cellsOf9 (reads_str Tryd.underlying9 m) (readsF_cons rfl cellsOf5 (reads_int Tryd.underlying5 m) (readsF_cons rfl cellsOf9 (reads_str Tryd.underlying9 m) readsF_nil))))).conv (fun x => (⟨x.1, x.2.1, x.2.2.1⟩ : GOver)) (fun x => by show GOver.el _ = _; rw [GOver.el_eq]; simp [Ty.struct, Ty.pair, Ty.unit, Ty.int, Ty.bool, Ty.str, Ty.slice, V.cells, GOver.ty, GOver.el_eq]) rfl (fun x h => by simp only [GOver.ty]; rw [GOver.wf_eq]; simp only [Ty.struct, Ty.pair, Ty.unit, Ty.int, Ty.bool, Ty.str, Ty.slice, GOver.ty] at h ⊢; simpa using h) (fun x => by simp only [Ty.struct, Ty.pair, Ty.unit, Ty.int, Ty.bool, Ty.str, Ty.slice, GOver.ty]; rw [GOver.size_eq]; (try dsimp only); omega)
theorem arg22 : ArgOf Tryd.prog 22 (Ty.slice GOver.ty) := arg_leaf (fun n => (reads_slice Tryd.underlying22 cellsOf32 (by decide) (fun k hk => (reads32 k)))) (fun _ => rfl) (by rw [Tryd.underlying22])
theorem arg9 : ArgOf Tryd.prog 9 Ty.str := arg_leaf (fun n => (reads_str Tryd.underlying9 n)) (fun _ => rfl) (by rw [Tryd.underlying9])
end Go.Proofs.Tryd
