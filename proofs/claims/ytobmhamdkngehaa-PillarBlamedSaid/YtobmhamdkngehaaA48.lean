/-
  Parts of the proof, in the order in which they build: PoH.
-/
import Derived.Test.YtobmhamdkngehaaA45
import Derived.Test.YtobmhamdkngehaaA19
set_option linter.unusedVariables false
set_option linter.unusedSimpArgs false
namespace Go.Proofs.Ytobmhamdkngehaa
open Go.RowKit Go.Shelf
open Lim

theorem spans_put (x y : Int) : ∀ (l : List (Int × Int)) (k : Nat), spans (l.set k (x, y)) = ((spans l).set (k * 2) (.int .i64 x)).set (k * 2 + 1) (.int .i64 y)
  | [], _ => by simp [spans]
  | s :: l, 0 => by rw [List.set_cons_zero, spans_cons, spans_cons]; rfl
  | s :: l, k + 1 => by
    rw [List.set_cons_succ, spans_cons, spans_cons, spans_put x y l k, show (k + 1) * 2 = k * 2 + 1 + 1 by omega]
    rfl
section
variable {w : World} {S d c c' : Nat} {R Q : List Row} {X : List (Nat × Obj)} {W W' : World}
theorem Mem.setS {Q1 Q2 : List Row} {g n cap : Nat} {l : List (Int × Int)} (H : Mem w S d c R (Q1 ++ rwS (.slice (some ⟨g, 0, none⟩) n cap) n l :: Q2) X W) (k : Nat) (x y : Int) :
    Mem w S d c R (Q1 ++ rwS (.slice (some ⟨g, 0, none⟩) n cap) n (l.set k (x, y)) :: Q2) X ((W.setCell ⟨g, k * 2, none⟩ (.int .i64 x)).setCell ⟨g, k * 2 + 1, none⟩ (.int .i64 y)) := by
  refine H.putQ (grown_set (d := g) _ (grown_set (d := g) W (grown_refl W _) _ _) _ _) ?_ (.inl rfl)
  have h := H.q (rwS (.slice (some ⟨g, 0, none⟩) n cap) n l) (by simp)
  have h1 := (World.ownsRow.stored h (k * 2) (.int .i64 x)).1
  have h2 := (World.ownsRow.stored h1 (k * 2 + 1) (.int .i64 y)).1
  show World.ownsRow _ _ _ _ _ _ (spans (l.set k (x, y)))
  rw [spans_put]
  exact h2
end
end Go.Proofs.Ytobmhamdkngehaa
