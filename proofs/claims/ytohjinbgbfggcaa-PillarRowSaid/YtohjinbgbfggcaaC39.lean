/-
  Parts of the proof, in the order in which they build: FrameQ.
-/
import Derived.Test.YtohjinbgbfggcaaC9
import Derived.Test.YtohjinbgbfggcaaA39
set_option linter.unusedVariables false
set_option linter.unusedSimpArgs false
namespace Go.Proofs.Ytohjinbgbfggcaa
open Go.ChangeShapes Go.WideShapes Go.ChangeAt Go.RowKit Go.Deep Go.Joins
open Lim

theorem cellsU8 : Try.prog.cellsOf 5 = 1 := by kernel_rfl
theorem u8s_at (l : List Int) (k : Nat) (h : k < l.length) : (u8s l)[k]? = some (.int .u8 l[k]) := by simp [u8s, h]
theorem u8_wf {x : Int} (h : (decide (IntKind.u8.min ≤ x) && decide (x ≤ IntKind.u8.max)) = true) : 0 ≤ x ∧ x ≤ 255 := by
  rw [Bool.and_eq_true, decide_eq_true_eq, decide_eq_true_eq] at h
  have h1 : (0 : Int) ≤ x := h.1
  have h2 : x ≤ (255 : Int) := h.2
  exact ⟨h1, h2⟩
section
variable {H : Type} {enc : TypeId × Value → H} {W : World} {base : Nat} {spare : Nat → Bool} {held : Bool}
set_option maxRecDepth 100000 in
theorem rs_u8s {fuel : Nat} {a : Option Addr} {len cap : Nat} {x : DataW H × List MemPlace} (h : DataW.trod enc Try.prog W base spare held fuel 22 [.slice a len cap] = some x) : ∃ l : List Int, l.length = len ∧ RS W.heap.size W (.slice a len cap) l.length (u8s l) ∧ ∀ x ∈ l, 0 ≤ x ∧ x ≤ 255 := by
  rcases open_ints Try.underlying22 Try.underlying5 cellsU8 h with ⟨hcs, _⟩ | ⟨y, l, c, zs, hcs, _, hl, hm, hz, _, hcell, hwz⟩
  · simp at hcs
    obtain ⟨rfl, rfl, rfl⟩ := hcs
    exact ⟨[], rfl, RS.nil _ _, fun x hx => by cases hx⟩
  · simp at hcs
    obtain ⟨rfl, rfl, rfl⟩ := hcs
    have hlz : len ≤ zs.length := by rw [hz]; split <;> omega
    have hlen : (zs.take len).length = len := by simp; omega
    refine ⟨zs.take len, hlen, ?_, fun x hx => ?_⟩
    rotate_left
    · have h1 := hwz x (List.mem_of_mem_take hx)
      simp only [Lit.wf] at h1
      exact u8_wf h1
    rw [hlen]
    refine ⟨some y, cap, rfl, fun hne => ?_⟩
    have h0 : 0 < len := by
      rcases Nat.eq_zero_or_pos len with h | h
      · subst h; simp [u8s] at hne
      · exact h
    obtain ⟨b, off, rfl⟩ := plain_at ((congrArg W.cell? (addr_zero y)).symm.trans (hcell 0 (by omega)))
    refine ⟨b, off, rfl, ?_, fun j u hj => ?_⟩
    · have := World.block_lt_of_cell? _ _ ((congrArg W.cell? (addr_zero _)).symm.trans (hcell 0 (by omega)))
      exact this
    · have hj' : j < len := by
        have := (List.getElem?_eq_some_iff.1 hj).1
        rw [u8s_length, hlen] at this
        exact this
      rw [u8s_at _ j (by omega)] at hj
      cases hj
      have := hcell j (by omega)
      rw [addr_add] at this
      rw [this]
      simp [List.getD, List.getElem?_eq_getElem (show j < zs.length by omega)]
set_option maxRecDepth 100000 in
theorem rs_bytes {r : Reach} {b0 : Nat} {v : Value} {d : DataW H} {p : List MemPlace} (hv : Value.okWide Try.prog W r b0 22 v) (h : DataW.Trod enc Try.prog W base spare held 22 v d p) :
    ∃ l : List Int, RS W.heap.size W v l.length (u8s l) ∧ ∀ x ∈ l, 0 ≤ x ∧ x ≤ 255 := by
  obtain ⟨a, l, c, rfl⟩ := okWide_slice Try.underlying22 hv
  obtain ⟨fuel, hf⟩ := h
  have e : (Value.slice a l c).cells.toList = [.slice a l c] := by simp [Value.cells]
  rw [e] at hf
  obtain ⟨zs, -, g, gu⟩ := rs_u8s hf
  exact ⟨zs, g, gu⟩
end
end Go.Proofs.Ytohjinbgbfggcaa
