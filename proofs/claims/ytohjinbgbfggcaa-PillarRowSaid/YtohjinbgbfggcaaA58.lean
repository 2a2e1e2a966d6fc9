/-
  Parts of the proof, in the order in which they build: PsA.
-/
import Derived.Test.YtohjinbgbfggcaaA48
import Derived.Test.YtohjinbgbfggcaaA54
set_option linter.unusedVariables false
set_option linter.unusedSimpArgs false
namespace Go.Proofs.Ytohjinbgbfggcaa
open Go.RowKit Go.Shelf
open Lim

def bareW (W : World) : World := { W with heap := #[] }
/-- rows R that are read, Q that are written, boxes X, all made by the call that began at W0; a deck at d; and nothing else of W0 is changed -/
structure MemG (W0 : World) (d c : Nat) (R Q : List Row) (X : List (Nat × Obj)) (W : World) : Prop where
  m : Mem (bareW W0) W0.heap.size d c R Q X W
  g : W0.grownBy W (some d)
section
variable {W0 : World} {d c c' : Nat} {R Q : List Row} {X : List (Nat × Obj)} {W W' : World}
theorem MemG.grow (H : MemG W0 d c R Q X W) (hb : Below W.heap.size W W') : MemG W0 d c R Q X W' := ⟨H.m.grow hb, grown_on H.g hb⟩
theorem MemG.drew (H : MemG W0 d c R Q X W) : MemG W0 d c R Q X W.drew := H.grow (Below.refl _ _).drew
end
end Go.Proofs.Ytohjinbgbfggcaa
