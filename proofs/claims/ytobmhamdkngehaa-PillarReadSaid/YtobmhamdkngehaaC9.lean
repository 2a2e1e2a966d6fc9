/-
  Parts of the proof, in the order in which they build: FrameP.
-/
import Derived.Test.YtobmhamdkngehaaRows
import Derived.ProofKit
import Derived.OpenShut
import Derived.ChangeOld
import Derived.Deep.Slices
import Derived.Lib.SmallJoins
import Derived.Test.YtobmhamdkngehaaA9
set_option linter.unusedVariables false
set_option linter.unusedSimpArgs false
namespace Go.Proofs.Ytobmhamdkngehaa
open Go.ChangeShapes Go.WideShapes Go.ChangeAt Go.RowKit Go.Deep Go.Joins
open Lim

theorem own : ownKnob Try.prog.godebug = none := by kernel_rfl
theorem laidOut : laidOutB Try.prog = true := by kernel_rfl
theorem cellsSpan : Try.prog.cellsOf 25 = 2 := by kernel_rfl
theorem cellsInt : Try.prog.cellsOf 3 = 1 := by kernel_rfl
theorem cellsProf : Try.prog.cellsOf 27 = 5 := by kernel_rfl
theorem cellsRoll : Try.prog.cellsOf 41 = 1 := by kernel_rfl
theorem cellsFinds : Try.prog.cellsOf 43 = 2 := by kernel_rfl
theorem cellsInts : Try.prog.cellsOf 22 = 1 := by kernel_rfl
theorem cellsSpans : Try.prog.cellsOf 23 = 1 := by kernel_rfl
theorem array5 {α : Type} {cs : Array α} (h : cs.size = 5) : ∃ c0 c1 c2 c3 c4, cs = #[c0, c1, c2, c3, c4] := by
  obtain ⟨l⟩ := cs
  match l, h with
  | [c0, c1, c2, c3, c4], _ => exact ⟨c0, c1, c2, c3, c4, rfl⟩
section
variable {H : Type} {enc : TypeId × Value → H} {W : World} {base : Nat} {spare : Nat → Bool} {held : Bool}
theorem plain_at {a : Addr} {u : Value} (h : W.cell? a = some u) : ∃ b off, a = ⟨b, off, none⟩ := by
  obtain ⟨b, off, spot⟩ := a
  have hspot : spot = none := by simpa using World.cell?_spot h
  subst hspot
  exact ⟨b, off, rfl⟩
theorem addr_zero (a : Addr) : a.add 0 = a := by simp [Addr.add]
set_option maxRecDepth 100000 in
/-- a list of numbers that came in -/
theorem rs_ints {fuel : Nat} {a : Option Addr} {len cap : Nat} {x : DataW H × List MemPlace} (h : DataW.trod enc Try.prog W base spare held fuel 22 [.slice a len cap] = some x) : ∃ l : List Int, l.length = len ∧ RS W.heap.size W (.slice a len cap) l.length (ints l) ∧ len ≤ cap := by
  rcases open_ints Try.underlying22 Try.underlying3 cellsInt h with ⟨hcs, _⟩ | ⟨y, l, c, zs, hcs, _, hl, hm, hz, _, hcell, hwz⟩
  · simp at hcs
    obtain ⟨rfl, rfl, rfl⟩ := hcs
    exact ⟨[], rfl, RS.nil _ _, Nat.le_refl _⟩
  · simp at hcs
    obtain ⟨rfl, rfl, rfl⟩ := hcs
    have hlz : len ≤ zs.length := by rw [hz]; split <;> omega
    have hlen : (zs.take len).length = len := by simp; omega
    refine ⟨zs.take len, hlen, ?_, hl⟩
    rw [hlen]
    refine ⟨some y, cap, rfl, fun hne => ?_⟩
    have h0 : 0 < len := by
      rcases Nat.eq_zero_or_pos len with h | h
      · subst h; simp [ints] at hne
      · exact h
    obtain ⟨b, off, rfl⟩ := plain_at ((congrArg W.cell? (addr_zero y)).symm.trans (hcell 0 (by omega)))
    refine ⟨b, off, rfl, ?_, fun j u hj => ?_⟩
    · have := World.block_lt_of_cell? _ _ ((congrArg W.cell? (addr_zero _)).symm.trans (hcell 0 (by omega)))
      exact this
    · have hj' : j < len := by
        have := (List.getElem?_eq_some_iff.1 hj).1
        rw [ints_length, hlen] at this
        exact this
      rw [Lim.ints_at _ j (by omega)] at hj
      cases hj
      have := hcell j (by omega)
      rw [addr_add] at this
      rw [this]
      simp [List.getD, List.getElem?_eq_getElem (show j < zs.length by omega)]
set_option maxRecDepth 100000 in
/-- a span's two cells -/
theorem span_read {n : Nat} {cs : List Value} {x : DataW H × List MemPlace} (h : DataW.trod enc Try.prog W base spare held n 25 cs = some x) : ∃ a b : Int, cs = [.int .i64 a, .int .i64 b] := by
  obtain ⟨y0, y1, m, -, hl, h0, h1⟩ := trod_struct2 Try.underlying25 h
  rw [cellsSpan] at hl
  match cs, hl with
  | [c0, c1], _ =>
    simp only [cellsInt] at h0 h1
    obtain ⟨a, e0, -, -⟩ := DataW.trod_int Try.underlying3 h0
    obtain ⟨b, e1, -, -⟩ := DataW.trod_int Try.underlying3 h1
    simp at e0 e1
    exact ⟨a, b, by rw [e0, e1]⟩
theorem spans_split (l : List (Int × Int)) (j : Nat) (u : Value) (h : (spans l)[j]? = some u) : ∃ k, ∃ hk : k < l.length, (j = k * 2 ∧ u = .int .i64 l[k].1) ∨ (j = k * 2 + 1 ∧ u = .int .i64 l[k].2) := by
  have hj := (List.getElem?_eq_some_iff.1 h).1
  rw [spans_length] at hj
  have hk : j / 2 < l.length := by omega
  refine ⟨j / 2, hk, ?_⟩
  rcases Nat.mod_two_eq_zero_or_one j with e | e
  · left
    have e2 : j = j / 2 * 2 := by omega
    rw [e2, spans_lo l _ hk] at h
    exact ⟨e2, (Option.some.inj h).symm⟩
  · right
    have e2 : j = j / 2 * 2 + 1 := by omega
    rw [e2, spans_hi l _ hk] at h
    exact ⟨e2, (Option.some.inj h).symm⟩
set_option maxRecDepth 100000 in
/-- a list of spans that came in -/
theorem rs_spans {fuel : Nat} {a : Option Addr} {len cap : Nat} {x : DataW H × List MemPlace} (h : DataW.trod enc Try.prog W base spare held fuel 23 [.slice a len cap] = some x) : ∃ l : List (Int × Int), l.length = len ∧ RS W.heap.size W (.slice a len cap) l.length (spans l) ∧ len ≤ cap ∧ ∀ y, a = some y → len ≠ 0 → ∃ b o, y = ⟨b, o, none⟩ := by
  rcases open_slice Try.underlying23 h with ⟨hcs, _⟩ | ⟨y, l, c, m, n, D, Pl, hcs, _, hl, hm, hmm, -, hcell⟩
  · simp at hcs
    obtain ⟨rfl, rfl, rfl⟩ := hcs
    exact ⟨[], rfl, RS.nil _ _, Nat.le_refl _, fun y e => by cases e⟩
  · simp at hcs
    obtain ⟨rfl, rfl, rfl⟩ := hcs
    have hlm : len ≤ m := by rw [hmm]; split <;> omega
    obtain ⟨f, hf⟩ := choose_lt (α := Int × Int) (n := len) (p := fun i s => W.cell? ((y.add (i * 2)).add 0) = some (.int .i64 s.1) ∧ W.cell? ((y.add (i * 2)).add 1) = some (.int .i64 s.2)) (fun i hi => by
      obtain ⟨cs', h1, h2⟩ := hcell i (by omega)
      obtain ⟨a, b, rfl⟩ := span_read h2
      rw [cellsSpan] at h1
      have h3 := (World.cells?_some h1).2.2
      exact ⟨(a, b), h3 0 (by omega), h3 1 (by omega)⟩)
    refine ⟨(List.range len).map f, by simp, ?_, hl, fun y' e hne => by
      cases e
      have e0 := (hf 0 (by omega)).1
      rw [Nat.zero_mul, addr_zero, addr_zero] at e0
      exact plain_at e0⟩
    rw [show ((List.range len).map f).length = len from by simp]
    refine ⟨some y, cap, rfl, fun hne => ?_⟩
    have h0 : 0 < len := by
      rcases Nat.eq_zero_or_pos len with h | h
      · subst h; simp [spans] at hne
      · exact h
    have e0 := (hf 0 h0).1
    rw [Nat.zero_mul, addr_zero, addr_zero] at e0
    obtain ⟨b, off, rfl⟩ := plain_at e0
    refine ⟨b, off, rfl, World.block_lt_of_cell? _ _ e0, fun j u hj => ?_⟩
    obtain ⟨k, hk, hc⟩ := spans_split _ j u hj
    have hk' : k < len := by simpa using hk
    have hf' := hf k hk'
    rw [addr_add, addr_add, addr_add] at hf'
    rcases hc with ⟨rfl, rfl⟩ | ⟨rfl, rfl⟩
    · simpa using hf'.1
    · simpa [Nat.add_assoc] using hf'.2
set_option maxRecDepth 100000 in
/-- a profile that came in -/
theorem rs_prof {r : Reach} {b0 : Nat} {v : Value} {d : DataW H} {p : List MemPlace} (hv : Value.okWide Try.prog W r b0 27 v) (h : DataW.Trod enc Try.prog W base spare held 27 v d p) :
    ∃ (av gv : Value) (ats : List Int) (gr : List (Int × Int)) (tl lo hi : Int), v = .agg #[av, gv, .int .i64 tl, .int .i64 lo, .int .i64 hi] ∧ RS W.heap.size W av ats.length (ints ats) ∧ RS W.heap.size W gv gr.length (spans gr) := by
  obtain ⟨cs, rfl, hsz⟩ := okWide_struct Try.underlying27 hv
  rw [cellsProf] at hsz
  obtain ⟨c0, c1, c2, c3, c4, rfl⟩ := array5 hsz
  obtain ⟨fuel, hf⟩ := h
  have e : (Value.agg #[c0, c1, c2, c3, c4]).cells.toList = [c0, c1, c2, c3, c4] := by simp [Value.cells]
  rw [e] at hf
  obtain ⟨y0, y1, y2, y3, n, -, -, h0, h1, h2, h3⟩ := trod_struct4 Try.underlying27 hf
  simp only [cellsInts, cellsSpans, cellsInt, cellsSpan] at h0 h1 h2 h3
  have h0' : DataW.trod enc Try.prog W base spare held n 22 [c0] = some y0 := h0
  have h1' : DataW.trod enc Try.prog W base spare held n 23 [c1] = some y1 := h1
  have h2' : DataW.trod enc Try.prog W base spare held n 3 [c2] = some y2 := h2
  have h3' : DataW.trod enc Try.prog W base spare held n 25 [c3, c4] = some y3 := h3
  obtain ⟨tl, e2, -, -⟩ := DataW.trod_int Try.underlying3 h2'
  obtain ⟨lo, hi, e3⟩ := span_read h3'
  obtain ⟨a1, l1, k1, e0⟩ := slice_form Try.underlying22 h0'
  obtain ⟨a2, l2, k2, e1⟩ := slice_form Try.underlying23 h1'
  simp at e0 e1 e2 e3
  obtain ⟨rfl, rfl⟩ := e3
  subst e0 e1 e2
  obtain ⟨ats, -, g0, -⟩ := rs_ints h0'
  obtain ⟨gr, -, g1, -⟩ := rs_spans h1'
  exact ⟨_, _, ats, gr, tl, lo, hi, rfl, g0, g1⟩
set_option maxRecDepth 100000 in
/-- a list of numbers that came in, as an argument -/
theorem rs_list {r : Reach} {b0 : Nat} {v : Value} {d : DataW H} {p : List MemPlace} (hv : Value.okWide Try.prog W r b0 22 v) (h : DataW.Trod enc Try.prog W base spare held 22 v d p) :
    ∃ l : List Int, RS W.heap.size W v l.length (ints l) ∧ ∀ a c, v = .slice a l.length c → l.length ≤ c := by
  obtain ⟨a, l, c, rfl⟩ := okWide_slice Try.underlying22 hv
  obtain ⟨fuel, hf⟩ := h
  have e : (Value.slice a l c).cells.toList = [.slice a l c] := by simp [Value.cells]
  rw [e] at hf
  obtain ⟨zs, e2, g, hc⟩ := rs_ints hf
  exact ⟨zs, g, fun a' c' e3 => by cases e3; rw [e2]; exact hc⟩
end
end Go.Proofs.Ytobmhamdkngehaa
