/-
  Parts of the proof, in the order in which they build: EwY.
-/
import Derived.Deep.CutRange
import Derived.Test.YtkjcnkkmhkcddaaA43
set_option linter.unusedVariables false
set_option linter.unusedSimpArgs false
namespace Go.Proofs.Ytkjcnkkmhkcddaa
open Go.RowKit Go.Shelf
open Lim

attribute [local go_sem] Oper.semAt_some

end Go.Proofs.Ytkjcnkkmhkcddaa
