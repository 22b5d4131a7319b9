/-
  ARGUMENTS READ AS THE LEAN STRUCTURES, by a program of this repo (types.py).
-/
import Derived.Test.YtoimblncdeimoaaTypes
import Derived.Test.YtoimblncdeimoaaFacts
namespace Go.Proofs.Try
open Go Go.Ab
set_option linter.unusedSimpArgs false
theorem reads30 (n : Nat) : Reads Try.prog n 30 GTally.ty := (reads_struct Try.underlying30 cellsOf30 (fun m hm => (readsF_cons rfl cellsOf9 (reads_str Try.underlying9 m) (readsF_cons rfl cellsOf3 (reads_int Try.underlying3 m) (readsF_cons rfl cellsOf2 (reads_int Try.underlying2 m) readsF_nil))))).conv (fun x => (⟨x.1, x.2.1, x.2.2.1⟩ : GTally)) (fun x => by show GTally.el _ = _; rw [GTally.el_eq]; simp [Ty.struct, Ty.pair, Ty.unit, Ty.int, Ty.bool, Ty.str, Ty.slice, V.cells, GTally.ty, GTally.el_eq]) rfl (fun x h => by simp only [GTally.ty]; rw [GTally.wf_eq]; simp only [Ty.struct, Ty.pair, Ty.unit, Ty.int, Ty.bool, Ty.str, Ty.slice, GTally.ty] at h ⊢; simpa using h) (fun x => by simp only [Ty.struct, Ty.pair, Ty.unit, Ty.int, Ty.bool, Ty.str, Ty.slice, GTally.ty]; rw [GTally.size_eq]; (try dsimp only); omega)
theorem arg22 : ArgOf Try.prog 22 (Ty.slice GTally.ty) := arg_leaf (fun n => (reads_slice Try.underlying22 cellsOf30 (by decide) (fun k hk => (reads30 k)))) (fun _ => rfl) (by rw [Try.underlying22])
end Go.Proofs.Try
