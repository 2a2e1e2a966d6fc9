/-
  Parts of the proof, in the order in which they build: EzB.
-/
import Derived.Test.YtkjcnkkmhkcddaaA55
import Derived.Test.YtkjcnkkmhkcddaaA27
set_option linter.unusedVariables false
set_option linter.unusedSimpArgs false
namespace Go.Proofs.Ytkjcnkkmhkcddaa
open Go.RowKit Go.Shelf
open Lim

theorem errE_made {wd hi : Nat} {os : List Int} (h1 : 1 ≤ wd) (h2 : 1 ≤ hi) (h3 : wd * hi ≤ 100) (hl : os.length = wd * hi) (ho : ∀ o ∈ os, 0 ≤ o ∧ o ≤ 9) : errE wd os = 0 := by
  have h4 : 0 < wd * hi := Nat.mul_pos h1 h2
  have hc : countB (wd : Int) os.length = true := by
    unfold countB
    rw [inB_true (by omega) (by omega)]
    simp only [Bool.true_and, Bool.and_eq_true, decide_eq_true_eq]
    refine ⟨by omega, ?_⟩
    rw [hl, Int.toNat_natCast, Nat.mul_mod_right]
  unfold errE
  rw [if_pos hc, if_pos]
  rw [List.all_eq_true]
  intro p hp
  have hp := List.mem_range.1 hp
  rw [List.getD_eq_getElem?_getD, List.getElem?_eq_getElem hp]
  have := ho _ (List.getElem_mem hp)
  exact inB_true this.1 this.2
/-- the next new number, ahead of plot p -/
def NxI (r : Nat → Nat) (p nx : Nat) : Prop := (∀ q, q < p → r q < nx) ∧ ∀ j, j < nx → ∃ q, q < p ∧ r q = j
theorem NxI.le {m : Mp} {r : Nat → Nat} {p nx : Nat} (h : NxI r p nx) (hr : IsReg m r) (hp : p < m.n) : r p ≤ nx := by
  by_cases e : r p ≤ nx
  · exact e
  · obtain ⟨q, h1, h2⟩ := hr.grow p hp nx (by omega)
    have := h.1 q h1
    omega
theorem NxI.new {r : Nat → Nat} {p nx : Nat} (h : NxI r p nx) (e : r p = nx) : NxI r (p + 1) (nx + 1) := by
  refine ⟨fun q hq => ?_, fun j hj => ?_⟩
  · by_cases e2 : q = p
    · subst e2; omega
    · have := h.1 q (by omega); omega
  · by_cases e2 : j = nx
    · exact ⟨p, by omega, by omega⟩
    · obtain ⟨q, h1, h2⟩ := h.2 j (by omega)
      exact ⟨q, by omega, h2⟩
theorem NxI.old {r : Nat → Nat} {p nx : Nat} (h : NxI r p nx) (hl : r p ≤ nx) (e : r p ≠ nx) : NxI r (p + 1) nx := by
  refine ⟨fun q hq => ?_, fun j hj => ?_⟩
  · by_cases e2 : q = p
    · subst e2; omega
    · exact h.1 q (by omega)
  · obtain ⟨q, h1, h2⟩ := h.2 j hj
    exact ⟨q, by omega, h2⟩
theorem rs_cell {B : Nat} {W : World} {g c n p : Nat} {xs : List Int} (h : RS B W (.slice (some ⟨g, 0, none⟩) n c) n (ints xs)) (hp : p < xs.length) : W.cell? ⟨g, p, none⟩ = some (.int .i64 (xs.getD p 0)) := by
  obtain ⟨g', o, e, hc⟩ := cell_of_RS h hp
  simp only [Option.some.injEq, Addr.mk.injEq, and_true] at e
  obtain ⟨rfl, rfl⟩ := e
  rwa [Nat.zero_add] at hc
theorem getD_mapR {n p : Nat} (O : Nat → Int) (hp : p < n) : ((List.range n).map O).getD p 0 = O p := by
  rw [List.getD_eq_getElem?_getD, List.getElem?_map, List.getElem?_range hp]; rfl
end Go.Proofs.Ytkjcnkkmhkcddaa
