/-
  Parts of the proof, in the order in which they build: QiK.
-/
import Derived.Test.YtohjinbgbfggcaaA13
import Derived.Test.YtohjinbgbfggcaaA6
set_option linter.unusedVariables false
set_option linter.unusedSimpArgs false
namespace Go.Proofs.Ytohjinbgbfggcaa
open Go.RowKit Go.Shelf
open Lim
attribute [local go_sem] Oper.semAt_some

/-- what lies in memory while Levels runs -/
structure LvM (w : World) (b n ac q6 g : Nat) (a : Option Addr) (S : Nat → Nat → Bool) (l : List Int) (W : World) : Prop where
  be : Below w.heap.size w W
  wk : WkN b n ac a S W
  c6 : W.cell? ⟨q6, 0, none⟩ = some (.slice (some ⟨g, 0, none⟩) n n)
  ow : W.ownsRow w.heap.size 3 1 (.slice (some ⟨g, 0, none⟩) n n) n (ints l)
  ne : b ≠ g ∧ q6 ≠ g
section
variable {w : World} {b n ac q6 g : Nat} {a : Option Addr} {S : Nat → Nat → Bool} {l : List Int} {W W' : World}
theorem LvM.ge (h : LvM w b n ac q6 g a S l W) : w.heap.size ≤ g ∧ g < W.heap.size := h.ow.lt g rfl
theorem LvM.cell (h : LvM w b n ac q6 g a S l W) (hl : l.length = n) {j : Nat} (hj : j < n) : W.cell? ⟨g, j, none⟩ = some (.int .i64 (l.getD j 0)) := by
  have := h.ow.cells (g := g) rfl j _ (ints_at' l j (by omega))
  rw [Addr.add_lit, Nat.zero_add] at this
  rw [this, ← List.getD_eq_getElem?_getD]
theorem LvM.put (h : LvM w b n ac q6 g a S l W) (j : Nat) (v : Int) : LvM w b n ac q6 g a S (l.set j v) (W.setCell ⟨g, j, none⟩ (.int .i64 v)) := by
  have far : ∀ {q o : Nat} {u : Value}, q ≠ g → W.cell? ⟨q, o, none⟩ = some u → (W.setCell ⟨g, j, none⟩ (.int .i64 v)).cell? ⟨q, o, none⟩ = some u := fun {q o u} hne hc => by
    rw [setCell_farP _ _ (fun e => hne e.symm)]; exact hc
  refine ⟨h.be.setCell (p := ⟨g, j, none⟩) h.ge.1 _, ⟨far h.ne.1 h.wk.c0, fun i k hi hk => far h.ne.1 (h.wk.s i k hi hk)⟩, far h.ne.2 h.c6, ?_, h.ne⟩
  have h1 := (h.ow.stored j (.int .i64 v)).1
  rw [show ints (l.set j v) = (ints l).set j (.int .i64 v) from by unfold ints; rw [List.map_set]]
  exact h1
end
end Go.Proofs.Ytohjinbgbfggcaa
