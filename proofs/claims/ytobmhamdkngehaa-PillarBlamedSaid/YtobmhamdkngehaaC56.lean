/-
  Parts of the proof, in the order in which they build: PoN.
-/
import Derived.Test.YtobmhamdkngehaaC54
import Derived.Test.YtobmhamdkngehaaA18
set_option linter.unusedVariables false
set_option linter.unusedSimpArgs false
namespace Go.Proofs.Ytobmhamdkngehaa
open Go.RowKit Go.Shelf
open Lim

section
variable {n : Nat} {S : Nat → Nat → Bool} {w : Int} {t i : Nat} {L : List Nat}
end
theorem own_cap {w : World} {base e size n c : Nat} {a : Option Addr} {xs : List Value} (h : w.ownsRow base e size (.slice a n c) n xs) : n ≤ c := by
  rcases h.2 with ⟨h1, h2⟩ | ⟨g, cap, cur, h1, -, -, h2, -⟩
  · omega
  · cases h1; exact h2
structure MineT (p : Pf) (L : List Nat) (k x : Nat) (T : List Nat) : Prop where
  len : T.length ≤ x
  lt : ∀ y ∈ T, y < p.n ∧ y ≠ L.getD k 0
theorem MineT.nil (p : Pf) (L : List Nat) (k x : Nat) : MineT p L k x [] := ⟨Nat.zero_le _, fun y hy => by cases hy⟩
end Go.Proofs.Ytobmhamdkngehaa
