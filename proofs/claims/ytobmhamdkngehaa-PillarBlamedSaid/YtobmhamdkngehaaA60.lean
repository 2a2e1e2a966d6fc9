/-
  Parts of the proof, in the order in which they build: PsE.
-/
import Derived.Test.YtobmhamdkngehaaC59
import Derived.Test.YtobmhamdkngehaaA45
set_option linter.unusedVariables false
set_option linter.unusedSimpArgs false
namespace Go.Proofs.Ytobmhamdkngehaa
open Go.RowKit Go.Shelf
open Lim

theorem Mem.start1Q {w w1 w3 : World} {c : Nat} {Q : List Row}
  (hb1 : Below w.heap.size w w1) (hs1 : w1.heap.size = w.heap.size + 1) (hgr : w1.grownBy w3 (some w.heap.size)) (hd : Deck w3 w.heap.size c)
  (o : ∀ r ∈ Q, r.Owned w3 w1.heap.size) (oo : Q.Pairwise Row.Apart) : Mem w w1.heap.size w.heap.size c [] Q [] w3 := by
 have h1 := hb1.size
 have h4 := hgr.size
 exact ⟨Below.grown hb1 hgr (by omega) (fun r e => by cases e; exact Nat.le_refl _), ⟨Nat.le_refl _, by omega, h4⟩, hd, fun r hr => (by cases hr), o, fun p hp => (by cases hp), fun p hp => (by cases hp), fun p hp => (by cases hp), List.Pairwise.nil, oo, fun q hq r hr => (by cases hr)⟩
/-! What the calls answer. -/
theorem read_ok {d : Rd} (h : d.err = 0) : readAns d = .tuple #[.int .i64 (total d), .int .i64 0] := by
 unfold readAns
 rw [if_neg (by rw [h]; simp)]
/-- how many readings the first numbers of a stone give -/
def part (d : Rd) (k : Nat) (l : List Int) : Nat := (l.map fun x => total (setN d k x)).sum
/-- gaps F that are narrower than f -/
structure NarF (f F : List (Int × Int)) : Prop where
 len : F.length = f.length
 h : ∀ i, i < f.length → (f.getD i (0, 0)).1 ≤ (F.getD i (0, 0)).1 ∧ (F.getD i (0, 0)).1 ≤ (F.getD i (0, 0)).2 ∧ (F.getD i (0, 0)).2 ≤ (f.getD i (0, 0)).2
theorem NarF.set {f F : List (Int × Int)} (H : NarF f F) {k : Nat} (hk : k < f.length) {x y : Int} (h : (f.getD k (0, 0)).1 ≤ x ∧ x ≤ y ∧ y ≤ (f.getD k (0, 0)).2) : NarF f (F.set k (x, y)) := by
 refine ⟨by rw [List.length_set]; exact H.len, fun i hi => ?_⟩
 rw [getD_set' (by rw [H.len]; exact hk)]
 by_cases e : i = k
 ·rw [if_pos e, e]; exact h
 ·rw [if_neg e]; exact H.h i hi
theorem NarF.ok {f F : List (Int × Int)} (H : NarF f F) (ho : ∀ s ∈ f, 1 ≤ s.1 ∧ s.1 ≤ s.2 ∧ s.2 ≤ 1000) : ∀ s ∈ F, 1 ≤ s.1 ∧ s.1 ≤ s.2 ∧ s.2 ≤ 1000 := fun s hs => by
 obtain ⟨i, hi, rfl⟩ := mem_getAt (0, 0) hs
 have h1 := H.h i (by rw [← H.len]; exact hi)
 have h2 := ho _ (getD_mem (z := (0, 0)) (show i < f.length by rw [← H.len]; exact hi))
 omega
end Go.Proofs.Ytobmhamdkngehaa
