/-
  Parts of the proof, in the order in which they build: EzB.
-/
import Derived.Test.YtiacgaplhndlnaaN44
import Derived.Test.YtiacgaplhndlnaaN45
set_option linter.unusedVariables false
set_option linter.unusedSimpArgs false
namespace Go.Proofs.Ytiacgaplhndlnaa
open Go.RowKit Go.Shelf
open Lim

theorem cell_of_RS {B : Nat} {W : World} {a : Option Addr} {c n p : Nat} {xs : List Int} (h : RS B W (.slice a n c) n (ints xs)) (hp : p < xs.length) : ∃ g o, a = some ⟨g, o, none⟩ ∧ W.cell? ⟨g, o + p, none⟩ = some (.int .i64 (xs.getD p 0)) := by
  obtain ⟨a', c', h1, hc⟩ := h
  cases h1
  obtain ⟨g, off, rfl, hb, hcell⟩ := hc (ints_ne (by omega))
  exact ⟨g, off, rfl, by rw [List.getD_eq_getElem?_getD]; exact hcell p _ (ints_at' xs p hp)⟩
theorem RS.on {w w' : World} {v : Value} {n : Nat} {xs : List Value} (h : RS w.heap.size w v n xs) (hb : Below w.heap.size w w') : RS w'.heap.size w' v n xs := (h.below hb).mono hb.size
theorem reg_same {m : Mp} {r r' : Nat → Nat} {k k' : Nat} (hr : IsReg m r) (hr' : IsReg m r') (hk : IsMany m r k) (hk' : IsMany m r' k') : (∀ p, p < m.n → r p = r' p) ∧ k = k' :=
  ⟨hr.unique hr', (hk.congr (hr.unique hr')).unique hk'⟩
theorem errE_made {wd hi : Nat} {os : List Int} (h1 : 1 ≤ wd) (h2 : 1 ≤ hi) (h3 : wd * hi ≤ 100) (hl : os.length = wd * hi) (ho : ∀ o ∈ os, 0 ≤ o ∧ o ≤ 9) : errE wd os = 0 := by
  have h4 : 0 < wd * hi := Nat.mul_pos h1 h2
  have hc : countB (wd : Int) os.length = true := by
    unfold countB
    rw [inB_true (by omega) (by omega)]
    simp only [Bool.true_and, Bool.and_eq_true, decide_eq_true_eq]
    refine ⟨by omega, ?_⟩
    rw [hl, Int.toNat_natCast, Nat.mul_mod_right]
  unfold errE
  rw [if_pos hc, if_pos]
  rw [List.all_eq_true]
  intro p hp
  have hp := List.mem_range.1 hp
  rw [List.getD_eq_getElem?_getD, List.getElem?_eq_getElem hp]
  have := ho _ (List.getElem_mem hp)
  exact inB_true this.1 this.2
/-- the next new number, ahead of plot p -/
def NxI (r : Nat → Nat) (p nx : Nat) : Prop := (∀ q, q < p → r q < nx) ∧ ∀ j, j < nx → ∃ q, q < p ∧ r q = j
theorem NxI.le {m : Mp} {r : Nat → Nat} {p nx : Nat} (h : NxI r p nx) (hr : IsReg m r) (hp : p < m.n) : r p ≤ nx := by
  by_cases e : r p ≤ nx
  · exact e
  · obtain ⟨q, h1, h2⟩ := hr.grow p hp nx (by omega)
    have := h.1 q h1
    omega
theorem NxI.new {r : Nat → Nat} {p nx : Nat} (h : NxI r p nx) (e : r p = nx) : NxI r (p + 1) (nx + 1) := by
  refine ⟨fun q hq => ?_, fun j hj => ?_⟩
  · by_cases e2 : q = p
    · subst e2; omega
    · have := h.1 q (by omega); omega
  · by_cases e2 : j = nx
    · exact ⟨p, by omega, by omega⟩
    · obtain ⟨q, h1, h2⟩ := h.2 j (by omega)
      exact ⟨q, by omega, h2⟩
theorem NxI.old {r : Nat → Nat} {p nx : Nat} (h : NxI r p nx) (hl : r p ≤ nx) (e : r p ≠ nx) : NxI r (p + 1) nx := by
  refine ⟨fun q hq => ?_, fun j hj => ?_⟩
  · by_cases e2 : q = p
    · subst e2; omega
    · exact h.1 q (by omega)
  · obtain ⟨q, h1, h2⟩ := h.2 j hj
    exact ⟨q, by omega, h2⟩
/-- neighbours are in one region just if they are of one state -/
theorem IsReg.beside {m : Mp} {r : Nat → Nat} (hr : IsReg m r) {p q : Nat} (hp : p < m.n) (hq : q < m.n) (h : nb m p q) : r p = r q ↔ m.own p = m.own q := by
  rw [hr.same p q hp hq]
  constructor
  · intro h; exact h.own.symm
  · intro e
    exact .step ⟨hp, rfl⟩ h (.refl ⟨hq, e.symm⟩)
theorem rs_cell {B : Nat} {W : World} {g c n p : Nat} {xs : List Int} (h : RS B W (.slice (some ⟨g, 0, none⟩) n c) n (ints xs)) (hp : p < xs.length) : W.cell? ⟨g, p, none⟩ = some (.int .i64 (xs.getD p 0)) := by
  obtain ⟨g', o, e, hc⟩ := cell_of_RS h hp
  simp only [Option.some.injEq, Addr.mk.injEq, and_true] at e
  obtain ⟨rfl, rfl⟩ := e
  rwa [Nat.zero_add] at hc
theorem getD_mapR {n p : Nat} (O : Nat → Int) (hp : p < n) : ((List.range n).map O).getD p 0 = O p := by
  rw [List.getD_eq_getElem?_getD, List.getElem?_map, List.getElem?_range hp]; rfl
theorem nb_right {m : Mp} (hw : 0 < m.wd) {p : Nat} (h : 0 < (p + 1) % m.wd) : nb m p (p + 1) := by
  refine mem_nbr.2 (.inr (.inl ⟨?_, by omega⟩))
  apply Classical.byContradiction
  intro hn
  have h1 := Nat.mod_lt p hw
  have h2 := Nat.div_add_mod p m.wd
  have h3 : p + 1 = m.wd * (p / m.wd + 1) := by rw [Nat.mul_add, Nat.mul_one]; omega
  rw [h3, Nat.mul_mod_right] at h
  omega
theorem nb_down {m : Mp} {p : Nat} (h : p + m.wd < m.n) : nb m p (p + m.wd) := mem_nbr.2 (.inr (.inr (.inr ⟨h, by omega⟩)))
end Go.Proofs.Ytiacgaplhndlnaa
