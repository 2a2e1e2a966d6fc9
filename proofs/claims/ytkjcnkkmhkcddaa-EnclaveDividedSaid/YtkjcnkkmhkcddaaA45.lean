/-
  Parts of the proof, in the order in which they build: EwS.
-/
import Derived.Test.YtkjcnkkmhkcddaaA22
import Derived.Test.YtkjcnkkmhkcddaaA35
import Derived.Test.YtkjcnkkmhkcddaaA27
import Derived.Test.YtkjcnkkmhkcddaaC1
set_option linter.unusedVariables false
set_option linter.unusedSimpArgs false
namespace Go.Proofs.Ytkjcnkkmhkcddaa
open Go.RowKit Go.Shelf
open Lim

attribute [local go_sem] Oper.semAt_some

end Go.Proofs.Ytkjcnkkmhkcddaa
