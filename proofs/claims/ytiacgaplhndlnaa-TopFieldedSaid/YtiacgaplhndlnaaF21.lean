/-
  Parts of the proof, in the order in which they build: FrameE.
-/
import Derived.Test.YtiacgaplhndlnaaRows
import Derived.ProofKit
import Derived.OpenShut
import Derived.ChangeOld
import Derived.Deep.Slices
import Derived.Lib.SmallJoins
import Derived.Test.YtiacgaplhndlnaaF20
set_option linter.unusedVariables false
set_option linter.unusedSimpArgs false
namespace Go.Proofs.Ytiacgaplhndlnaa
open Go.ChangeShapes Go.WideShapes Go.ChangeAt Go.RowKit Go.Deep Go.Joins
open Lim

theorem own : ownKnob Try.prog.godebug = none := by kernel_rfl
theorem laidOut : laidOutB Try.prog = true := by kernel_rfl
theorem cellsIntF : Try.prog.cellsOf 3 = 1 := by kernel_rfl
theorem cellsIntsF : Try.prog.cellsOf 23 = 1 := by kernel_rfl
theorem cellsMapF : Try.prog.cellsOf 25 = 2 := by kernel_rfl
theorem array2 {α : Type} {cs : Array α} (h : cs.size = 2) : ∃ c0 c1, cs = #[c0, c1] := by
  obtain ⟨l⟩ := cs
  match l, h with
  | [c0, c1], _ => exact ⟨c0, c1, rfl⟩
section
variable {H : Type} {enc : TypeId × Value → H} {W : World} {base : Nat} {spare : Nat → Bool} {held : Bool}
theorem plain_at {a : Addr} {u : Value} (h : W.cell? a = some u) : ∃ b off, a = ⟨b, off, none⟩ := by
  obtain ⟨b, off, spot⟩ := a
  have hspot : spot = none := by simpa using World.cell?_spot h
  subst hspot
  exact ⟨b, off, rfl⟩
theorem addr_add (b off j : Nat) : (⟨b, off, none⟩ : Addr).add j = ⟨b, off + j, none⟩ := by unfold Addr.add; split <;> simp_all
theorem addr_zero (a : Addr) : a.add 0 = a := by simp [Addr.add]
set_option maxRecDepth 100000 in
/-- a list of numbers that came in -/
theorem rs_ints {fuel : Nat} {a : Option Addr} {len cap : Nat} {x : DataW H × List MemPlace} (h : DataW.trod enc Try.prog W base spare held fuel 23 [.slice a len cap] = some x) : ∃ l : List Int, l.length = len ∧ RS W.heap.size W (.slice a len cap) l.length (ints l) ∧ len ≤ cap := by
  rcases open_ints Try.underlying23 Try.underlying3 cellsIntF h with ⟨hcs, _⟩ | ⟨y, l, c, zs, hcs, _, hl, hm, hz, _, hcell, hwz⟩
  · simp at hcs
    obtain ⟨rfl, rfl, rfl⟩ := hcs
    exact ⟨[], rfl, RS.nil _ _, Nat.le_refl _⟩
  · simp at hcs
    obtain ⟨rfl, rfl, rfl⟩ := hcs
    have hlz : len ≤ zs.length := by rw [hz]; split <;> omega
    have hlen : (zs.take len).length = len := by simp; omega
    refine ⟨zs.take len, hlen, ?_, hl⟩
    rw [hlen]
    refine ⟨some y, cap, rfl, fun hne => ?_⟩
    have h0 : 0 < len := by
      rcases Nat.eq_zero_or_pos len with h | h
      · subst h; simp [ints] at hne
      · exact h
    obtain ⟨b, off, rfl⟩ := plain_at ((congrArg W.cell? (addr_zero y)).symm.trans (hcell 0 (by omega)))
    refine ⟨b, off, rfl, ?_, fun j u hj => ?_⟩
    · have := World.block_lt_of_cell? _ _ ((congrArg W.cell? (addr_zero _)).symm.trans (hcell 0 (by omega)))
      exact this
    · have hj' : j < len := by
        have := (List.getElem?_eq_some_iff.1 hj).1
        rw [ints_length, hlen] at this
        exact this
      rw [Lim.ints_at _ j (by omega)] at hj
      cases hj
      have := hcell j (by omega)
      rw [addr_add] at this
      rw [this]
      simp [List.getD, List.getElem?_eq_getElem (show j < zs.length by omega)]
set_option maxRecDepth 100000 in
/-- a list of numbers that came in, as an argument -/
theorem rs_list {r : Reach} {b0 : Nat} {v : Value} {d : DataW H} {p : List MemPlace} (hv : Value.okWide Try.prog W r b0 23 v) (h : DataW.Trod enc Try.prog W base spare held 23 v d p) :
    ∃ l : List Int, RS W.heap.size W v l.length (ints l) ∧ ∀ a c, v = .slice a l.length c → l.length ≤ c := by
  obtain ⟨a, l, c, rfl⟩ := okWide_slice Try.underlying23 hv
  obtain ⟨fuel, hf⟩ := h
  have e : (Value.slice a l c).cells.toList = [.slice a l c] := by simp [Value.cells]
  rw [e] at hf
  obtain ⟨zs, e2, g, hc⟩ := rs_ints hf
  exact ⟨zs, g, fun a' c' e3 => by cases e3; rw [e2]; exact hc⟩
set_option maxRecDepth 100000 in
/-- a map that came in -/
theorem rs_map {r : Reach} {b0 : Nat} {v : Value} {d : DataW H} {p : List MemPlace} (hv : Value.okWide Try.prog W r b0 25 v) (h : DataW.Trod enc Try.prog W base spare held 25 v d p) :
    ∃ (wd : Int) (ov : Value) (os : List Int), v = .agg #[.int .i64 wd, ov] ∧ RS W.heap.size W ov os.length (ints os) := by
  obtain ⟨cs, rfl, hsz⟩ := okWide_struct Try.underlying25 hv
  rw [cellsMapF] at hsz
  obtain ⟨c0, c1, rfl⟩ := array2 hsz
  obtain ⟨fuel, hf⟩ := h
  have e : (Value.agg #[c0, c1]).cells.toList = [c0, c1] := by simp [Value.cells]
  rw [e] at hf
  obtain ⟨y0, y1, n, -, -, h0, h1⟩ := trod_struct2 Try.underlying25 hf
  simp only [cellsIntsF, cellsIntF] at h0 h1
  have h0' : DataW.trod enc Try.prog W base spare held n 3 [c0] = some y0 := h0
  have h1' : DataW.trod enc Try.prog W base spare held n 23 [c1] = some y1 := h1
  obtain ⟨wd, e0, -, -⟩ := DataW.trod_int Try.underlying3 h0'
  obtain ⟨a1, l1, k1, e1⟩ := slice_form Try.underlying23 h1'
  simp at e0 e1
  subst e0 e1
  obtain ⟨os, -, g1, -⟩ := rs_ints h1'
  exact ⟨wd, _, os, rfl, g1⟩
end
end Go.Proofs.Ytiacgaplhndlnaa
