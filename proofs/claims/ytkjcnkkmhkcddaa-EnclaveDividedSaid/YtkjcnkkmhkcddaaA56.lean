/-
  Parts of the proof, in the order in which they build: EzB.
-/
import Derived.Test.YtkjcnkkmhkcddaaA55
import Derived.Test.YtkjcnkkmhkcddaaA27
set_option linter.unusedVariables false
set_option linter.unusedSimpArgs false
namespace Go.Proofs.Ytkjcnkkmhkcddaa
open Go.RowKit Go.Shelf
open Lim

/-- the next new number, ahead of plot p -/
def NxI (r : Nat → Nat) (p nx : Nat) : Prop := (∀ q, q < p → r q < nx) ∧ ∀ j, j < nx → ∃ q, q < p ∧ r q = j
theorem NxI.le {m : Mp} {r : Nat → Nat} {p nx : Nat} (h : NxI r p nx) (hr : IsReg m r) (hp : p < m.n) : r p ≤ nx := by
  by_cases e : r p ≤ nx
  · exact e
  · obtain ⟨q, h1, h2⟩ := hr.grow p hp nx (by omega)
    have := h.1 q h1
    omega
theorem NxI.new {r : Nat → Nat} {p nx : Nat} (h : NxI r p nx) (e : r p = nx) : NxI r (p + 1) (nx + 1) := by
  refine ⟨fun q hq => ?_, fun j hj => ?_⟩
  · by_cases e2 : q = p
    · subst e2; omega
    · have := h.1 q (by omega); omega
  · by_cases e2 : j = nx
    · exact ⟨p, by omega, by omega⟩
    · obtain ⟨q, h1, h2⟩ := h.2 j (by omega)
      exact ⟨q, by omega, h2⟩
theorem NxI.old {r : Nat → Nat} {p nx : Nat} (h : NxI r p nx) (hl : r p ≤ nx) (e : r p ≠ nx) : NxI r (p + 1) nx := by
  refine ⟨fun q hq => ?_, fun j hj => ?_⟩
  · by_cases e2 : q = p
    · subst e2; omega
    · exact h.1 q (by omega)
  · obtain ⟨q, h1, h2⟩ := h.2 j hj
    exact ⟨q, by omega, h2⟩
end Go.Proofs.Ytkjcnkkmhkcddaa
