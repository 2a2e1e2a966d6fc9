/-
  Parts of the proof, in the order in which they build: PoL.
-/
import Derived.Test.YtohjinbgbfggcaaA42
set_option linter.unusedVariables false
set_option linter.unusedSimpArgs false
namespace Go.Proofs.Ytohjinbgbfggcaa
open Go.RowKit Go.Shelf
open Lim

end Go.Proofs.Ytohjinbgbfggcaa
