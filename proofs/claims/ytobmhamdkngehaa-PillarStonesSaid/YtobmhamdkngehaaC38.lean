/-
  Parts of the proof, in the order in which they build: FrameR.
-/
import Derived.Test.YtobmhamdkngehaaC9
set_option linter.unusedVariables false
set_option linter.unusedSimpArgs false
namespace Go.Proofs.Ytobmhamdkngehaa
open Go.ChangeShapes Go.WideShapes Go.ChangeAt Go.RowKit Go.Deep Go.Joins
open Lim
section
variable {H : Type} {enc : TypeId × Value → H} {W : World} {base : Nat} {spare : Nat → Bool} {held : Bool}
theorem array1 {α : Type} {cs : Array α} (h : cs.size = 1) : ∃ c0, cs = #[c0] := by
  obtain ⟨l⟩ := cs
  match l, h with
  | [c0], _ => exact ⟨c0, rfl⟩
theorem array2 {α : Type} {cs : Array α} (h : cs.size = 2) : ∃ c0 c1, cs = #[c0, c1] := by
  obtain ⟨l⟩ := cs
  match l, h with
  | [c0, c1], _ => exact ⟨c0, c1, rfl⟩
set_option maxRecDepth 100000 in
/-- a roll that came in -/
theorem rs_roll {r : Reach} {b0 : Nat} {v : Value} {d : DataW H} {p : List MemPlace} (hv : Value.okWide Try.prog W r b0 41 v) (h : DataW.Trod enc Try.prog W base spare held 41 v d p) :
    ∃ (rv : Value) (l : List (Int × Int)), v = .agg #[rv] ∧ RS W.heap.size W rv l.length (spans l) := by
  obtain ⟨cs, rfl, hsz⟩ := okWide_struct Try.underlying41 hv
  rw [cellsRoll] at hsz
  obtain ⟨c0, rfl⟩ := array1 hsz
  obtain ⟨fuel, hf⟩ := h
  have e : (Value.agg #[c0]).cells.toList = [c0] := by simp [Value.cells]
  rw [e] at hf
  obtain ⟨y0, n, -, -, h0⟩ := trod_struct1 Try.underlying41 hf
  have h0' : DataW.trod enc Try.prog W base spare held n 23 [c0] = some y0 := h0
  obtain ⟨a1, l1, k1, e0⟩ := slice_form Try.underlying23 h0'
  simp at e0
  subst e0
  obtain ⟨gr, -, g1, -⟩ := rs_spans h0'
  exact ⟨_, gr, rfl, g1⟩
set_option maxRecDepth 100000 in
/-- finds that came in -/
theorem rs_finds {r : Reach} {b0 : Nat} {v : Value} {d : DataW H} {p : List MemPlace} (hv : Value.okWide Try.prog W r b0 43 v) (h : DataW.Trod enc Try.prog W base spare held 43 v d p) :
    ∃ (fv mv : Value) (l : List (Int × Int)) (m : List Int), v = .agg #[fv, mv] ∧ RS W.heap.size W fv l.length (spans l) ∧ RS W.heap.size W mv m.length (ints m) := by
  obtain ⟨cs, rfl, hsz⟩ := okWide_struct Try.underlying43 hv
  rw [cellsFinds] at hsz
  obtain ⟨c0, c1, rfl⟩ := array2 hsz
  obtain ⟨fuel, hf⟩ := h
  have e : (Value.agg #[c0, c1]).cells.toList = [c0, c1] := by simp [Value.cells]
  rw [e] at hf
  obtain ⟨y0, y1, n, -, -, h0, h1⟩ := trod_struct2 Try.underlying43 hf
  simp only [cellsInts, cellsSpans] at h0 h1
  have h0' : DataW.trod enc Try.prog W base spare held n 23 [c0] = some y0 := h0
  have h1' : DataW.trod enc Try.prog W base spare held n 22 [c1] = some y1 := h1
  obtain ⟨a1, l1, k1, e0⟩ := slice_form Try.underlying23 h0'
  obtain ⟨a2, l2, k2, e1⟩ := slice_form Try.underlying22 h1'
  simp at e0 e1
  subst e0 e1
  obtain ⟨gr, -, g0, -⟩ := rs_spans h0'
  obtain ⟨ms, -, g1, -⟩ := rs_ints h1'
  exact ⟨_, _, gr, ms, rfl, g0, g1⟩
end
end Go.Proofs.Ytobmhamdkngehaa
