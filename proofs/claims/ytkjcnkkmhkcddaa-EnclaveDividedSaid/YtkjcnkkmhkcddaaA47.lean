/-
  Parts of the proof, in the order in which they build: EwX.
-/
import Derived.Test.YtkjcnkkmhkcddaaA46
import Derived.Test.YtkjcnkkmhkcddaaA36
set_option linter.unusedVariables false
set_option linter.unusedSimpArgs false
namespace Go.Proofs.Ytkjcnkkmhkcddaa
open Go.RowKit Go.Shelf
open Lim

attribute [local go_sem] Oper.semAt_some

theorem askE_is (i j : Int) (k : Nat) : askE i j k = 0 ∨ askE i j k = 2 := by unfold askE; split <;> simp
end Go.Proofs.Ytkjcnkkmhkcddaa
