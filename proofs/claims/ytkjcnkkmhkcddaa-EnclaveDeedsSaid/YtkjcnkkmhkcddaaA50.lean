/-
  Parts of the proof, in the order in which they build: EyD.
-/
import Derived.Deep.CutRange
import Derived.Test.YtkjcnkkmhkcddaaA48
import Derived.Test.YtkjcnkkmhkcddaaA49
set_option linter.unusedVariables false
set_option linter.unusedSimpArgs false
namespace Go.Proofs.Ytkjcnkkmhkcddaa
open Go.RowKit Go.Shelf
open Lim

attribute [local go_sem] Oper.semAt_some

section
variable {wd : Int} {os : List Int} {er er' : Int} {l l' : List Int}
end
theorem nilR (w : World) : RS w.heap.size w (.slice none 0 0) ([] : List Int).length (ints []) := RS.nil _ _
end Go.Proofs.Ytkjcnkkmhkcddaa
