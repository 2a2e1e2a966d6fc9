/-
  Parts of the proof, in the order in which they build: PoL.
-/
import Derived.Test.YtobmhamdkngehaaA42
set_option linter.unusedVariables false
set_option linter.unusedSimpArgs false
namespace Go.Proofs.Ytobmhamdkngehaa
open Go.RowKit Go.Shelf
open Lim

theorem getD_map (L : List Nat) (k : Nat) : (L.map Int.ofNat).getD k 0 = ((L.getD k 0 : Nat) : Int) := by
  rw [List.getD_eq_getElem?_getD, List.getD_eq_getElem?_getD, List.getElem?_map]
  cases L[k]? <;> rfl
end Go.Proofs.Ytobmhamdkngehaa
