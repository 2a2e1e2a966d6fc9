/-
  Parts of the proof, in the order in which they build: RoX.
-/
import Derived.Test.YtobmhamdkngehaaA19
import Derived.Test.YtobmhamdkngehaaA8
set_option linter.unusedVariables false
set_option linter.unusedSimpArgs false
namespace Go.Proofs.Ytobmhamdkngehaa
open Go.RowKit Go.Shelf
open Lim

/-- 2 cell(s) of a block are written -/
def set2 (W : World) (p : Nat) (a b : Value) : World := (W.setCell ⟨p, 0, none⟩ a).setCell ⟨p, 1, none⟩ b
section
variable {W : World} {S p : Nat} {u0 : Value} {t : TypeId} (a : Value) (hp : W.heap[p]? = some (.cells #[u0] t (0, 0)))
include hp
end

section
variable {W : World} {S p : Nat} {u0 u1 : Value} {t : TypeId} (a b : Value) (hp : W.heap[p]? = some (.cells #[u0, u1] t (0, 0)))
include hp
end
end Go.Proofs.Ytobmhamdkngehaa
