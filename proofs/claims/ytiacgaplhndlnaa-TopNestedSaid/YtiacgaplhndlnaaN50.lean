/-
  Parts of the proof, in the order in which they build: EMemB.
-/
import Derived.Test.YtiacgaplhndlnaaN49
import Derived.Test.YtiacgaplhndlnaaN46
set_option linter.unusedVariables false
set_option linter.unusedSimpArgs false
namespace Go.Proofs.Ytiacgaplhndlnaa
open Go.RowKit Go.Shelf
open Lim

section
variable {w : World} {S : Nat} {R Q : List Row} {X : List (Nat × Obj)} {W W' : World}
theorem Mem.rowsR (hb : Below S w W) (hS : S ≤ W.heap.size) (hR : ∀ r ∈ R, r.Owned W S) : Mem w S R [] [] W :=
  ⟨hb, hS, hR, fun _ h => absurd h List.not_mem_nil, fun _ h => absurd h List.not_mem_nil, fun _ h => absurd h List.not_mem_nil, fun _ h => absurd h List.not_mem_nil, List.Pairwise.nil, List.Pairwise.nil, fun _ h => absurd h List.not_mem_nil⟩
theorem Row.three {W : World} {a b c : Row} (ha : a.Owned W S) (hb : b.Owned W S) (hc : c.Owned W S) : ∀ r ∈ [a, b, c], r.Owned W S := fun r hr => by
  rcases List.mem_cons.1 hr with rfl | hr
  · exact ha
  · rcases List.mem_cons.1 hr with rfl | hr
    · exact hb
    · rw [List.mem_singleton.1 hr]; exact hc
theorem Mem.one {r : Row} (h : r.Owned W S) : ∀ q ∈ [r], q.Owned W S := fun q hq => by rw [List.mem_singleton.1 hq]; exact h
end
end Go.Proofs.Ytiacgaplhndlnaa
