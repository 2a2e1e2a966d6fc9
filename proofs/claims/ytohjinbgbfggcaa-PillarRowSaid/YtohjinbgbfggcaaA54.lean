/-
  Parts of the proof, in the order in which they build: PoM.
-/
import Derived.Test.YtohjinbgbfggcaaC54
import Derived.Test.YtohjinbgbfggcaaA45
set_option linter.unusedVariables false
set_option linter.unusedSimpArgs false
namespace Go.Proofs.Ytohjinbgbfggcaa
open Go.RowKit Go.Shelf
open Lim

/-- a number is appended to a list -/
theorem Mem.push {w : World} {S d c : Nat} {R : List Row} {X : List (Nat × Obj)} {W W' : World} {Q1 Q2 : List Row} {v v' : Value} {A : List Int} {x : Int} (H : Mem w S d c R (Q1 ++ rwI v A.length A :: Q2) X W) (ho : W'.ownsRow S 3 1 v' (A.length + 1) (ints A ++ [.int .i64 x])) (hg : W.grownBy W' v.ownBlock) (hat : v'.ownBlock = v.ownBlock ∨ v'.ownBlock = some W.heap.size) :
    Mem w S d c R (Q1 ++ rwI v' (A ++ [x]).length (A ++ [x]) :: Q2) X W' :=
  H.putQ (r := rwI v A.length A) (r' := rwI v' (A ++ [x]).length (A ++ [x])) hg (by
    show W'.ownsRow S 3 1 v' (A ++ [x]).length (ints (A ++ [x]))
    rw [show (A ++ [x]).length = A.length + 1 by simp, show ints (A ++ [x]) = ints A ++ [.int .i64 x] by simp [ints]]
    exact ho) (hat.imp id (fun h => ⟨_, h, Nat.le_refl _⟩))
end Go.Proofs.Ytohjinbgbfggcaa
