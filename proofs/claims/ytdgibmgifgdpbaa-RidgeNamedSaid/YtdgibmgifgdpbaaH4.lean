/-
  Parts of the proof, in the order in which they build: Frame.
-/
import Derived.Test.YtdgibmgifgdpbaaRows
import Derived.ProofKit
import Derived.OpenShut
import Derived.ChangeOld
import Derived.Deep.Slices
import Derived.Lib.SmallJoins
import Derived.Test.YtdgibmgifgdpbaaH3
set_option linter.unusedVariables false
set_option linter.unusedSimpArgs false
namespace Go.Proofs.Ytdgibmgifgdpbaa
open Go.ChangeShapes Go.WideShapes Go.ChangeAt Go.RowKit Go.Deep Go.Joins
open Lim

theorem own : ownKnob Try.prog.godebug = none := by kernel_rfl
theorem laidOut : laidOutB Try.prog = true := by kernel_rfl
theorem cellsSpan : Try.prog.cellsOf 54 = 2 := by kernel_rfl
theorem cellsInt : Try.prog.cellsOf 3 = 1 := by kernel_rfl
theorem cellsGround : Try.prog.cellsOf 25 = 3 := by kernel_rfl
section
variable {H : Type} {enc : TypeId × Value → H} {W : World} {base : Nat} {spare : Nat → Bool} {held : Bool}
theorem plain_at {a : Addr} {u : Value} (h : W.cell? a = some u) : ∃ b off, a = ⟨b, off, none⟩ := by
  obtain ⟨b, off, spot⟩ := a
  have hspot : spot = none := by simpa using World.cell?_spot h
  subst hspot
  exact ⟨b, off, rfl⟩
theorem addr_zero (a : Addr) : a.add 0 = a := by simp [Addr.add]
set_option maxRecDepth 100000 in
/-- a list of numbers that came in -/
theorem rs_ints {fuel : Nat} {a : Option Addr} {len cap : Nat} {x : DataW H × List MemPlace} (h : DataW.trod enc Try.prog W base spare held fuel 23 [.slice a len cap] = some x) : ∃ l : List Int, l.length = len ∧ RS W.heap.size W (.slice a len cap) l.length (ints l) := by
  rcases open_ints Try.underlying23 Try.underlying3 cellsInt h with ⟨hcs, _⟩ | ⟨y, l, c, zs, hcs, _, hl, hm, hz, _, hcell, hwz⟩
  · simp at hcs
    obtain ⟨rfl, rfl, rfl⟩ := hcs
    exact ⟨[], rfl, RS.nil _ _⟩
  · simp at hcs
    obtain ⟨rfl, rfl, rfl⟩ := hcs
    have hlz : len ≤ zs.length := by rw [hz]; split <;> omega
    have hlen : (zs.take len).length = len := by simp; omega
    refine ⟨zs.take len, hlen, ?_⟩
    rw [hlen]
    refine ⟨some y, cap, rfl, fun hne => ?_⟩
    have h0 : 0 < len := by
      rcases Nat.eq_zero_or_pos len with h | h
      · subst h; simp [ints] at hne
      · exact h
    obtain ⟨b, off, rfl⟩ := plain_at ((congrArg W.cell? (addr_zero y)).symm.trans (hcell 0 (by omega)))
    refine ⟨b, off, rfl, ?_, fun j u hj => ?_⟩
    · have := World.block_lt_of_cell? _ _ ((congrArg W.cell? (addr_zero _)).symm.trans (hcell 0 (by omega)))
      exact this
    · have hj' : j < len := by
        have := (List.getElem?_eq_some_iff.1 hj).1
        rw [ints_length, hlen] at this
        exact this
      rw [Lim.ints_at _ j (by omega)] at hj
      cases hj
      have := hcell j (by omega)
      rw [addr_add] at this
      rw [this]
      simp [List.getD, List.getElem?_eq_getElem (show j < zs.length by omega)]
set_option maxRecDepth 100000 in
/-- a span's two cells -/
theorem span_read {n : Nat} {cs : List Value} {x : DataW H × List MemPlace} (h : DataW.trod enc Try.prog W base spare held n 54 cs = some x) : ∃ a b : Int, cs = [.int .i64 a, .int .i64 b] := by
  obtain ⟨y0, y1, m, -, hl, h0, h1⟩ := trod_struct2 Try.underlying54 h
  rw [cellsSpan] at hl
  match cs, hl with
  | [c0, c1], _ =>
    simp only [cellsInt] at h0 h1
    obtain ⟨a, e0, -, -⟩ := DataW.trod_int Try.underlying3 h0
    obtain ⟨b, e1, -, -⟩ := DataW.trod_int Try.underlying3 h1
    simp at e0 e1
    exact ⟨a, b, by rw [e0, e1]⟩
theorem spans_split (l : List (Int × Int)) (j : Nat) (u : Value) (h : (spans l)[j]? = some u) : ∃ k, ∃ hk : k < l.length, (j = k * 2 ∧ u = .int .i64 l[k].1) ∨ (j = k * 2 + 1 ∧ u = .int .i64 l[k].2) := by
  have hj := (List.getElem?_eq_some_iff.1 h).1
  rw [spans_length] at hj
  have hk : j / 2 < l.length := by omega
  refine ⟨j / 2, hk, ?_⟩
  rcases Nat.mod_two_eq_zero_or_one j with e | e
  · left
    have e2 : j = j / 2 * 2 := by omega
    rw [e2, spans_lo l _ hk] at h
    exact ⟨e2, (Option.some.inj h).symm⟩
  · right
    have e2 : j = j / 2 * 2 + 1 := by omega
    rw [e2, spans_hi l _ hk] at h
    exact ⟨e2, (Option.some.inj h).symm⟩
set_option maxRecDepth 100000 in
/-- a list of spans that came in -/
theorem rs_spans {fuel : Nat} {a : Option Addr} {len cap : Nat} {x : DataW H × List MemPlace} (h : DataW.trod enc Try.prog W base spare held fuel 22 [.slice a len cap] = some x) : ∃ l : List (Int × Int), l.length = len ∧ RS W.heap.size W (.slice a len cap) l.length (spans l) := by
  rcases open_slice Try.underlying22 h with ⟨hcs, _⟩ | ⟨y, l, c, m, n, D, Pl, hcs, _, hl, hm, hmm, -, hcell⟩
  · simp at hcs
    obtain ⟨rfl, rfl, rfl⟩ := hcs
    exact ⟨[], rfl, RS.nil _ _⟩
  · simp at hcs
    obtain ⟨rfl, rfl, rfl⟩ := hcs
    have hlm : len ≤ m := by rw [hmm]; split <;> omega
    obtain ⟨f, hf⟩ := choose_lt (α := Int × Int) (n := len) (p := fun i s => W.cell? ((y.add (i * 2)).add 0) = some (.int .i64 s.1) ∧ W.cell? ((y.add (i * 2)).add 1) = some (.int .i64 s.2)) (fun i hi => by
      obtain ⟨cs', h1, h2⟩ := hcell i (by omega)
      obtain ⟨a, b, rfl⟩ := span_read h2
      rw [cellsSpan] at h1
      have h3 := (World.cells?_some h1).2.2
      exact ⟨(a, b), h3 0 (by omega), h3 1 (by omega)⟩)
    refine ⟨(List.range len).map f, by simp, ?_⟩
    rw [show ((List.range len).map f).length = len from by simp]
    refine ⟨some y, cap, rfl, fun hne => ?_⟩
    have h0 : 0 < len := by
      rcases Nat.eq_zero_or_pos len with h | h
      · subst h; simp [spans] at hne
      · exact h
    have e0 := (hf 0 h0).1
    rw [Nat.zero_mul, addr_zero, addr_zero] at e0
    obtain ⟨b, off, rfl⟩ := plain_at e0
    refine ⟨b, off, rfl, World.block_lt_of_cell? _ _ e0, fun j u hj => ?_⟩
    obtain ⟨k, hk, hc⟩ := spans_split _ j u hj
    have hk' : k < len := by simpa using hk
    have hf' := hf k hk'
    rw [addr_add, addr_add, addr_add] at hf'
    rcases hc with ⟨rfl, rfl⟩ | ⟨rfl, rfl⟩
    · simpa using hf'.1
    · simpa [Nat.add_assoc] using hf'.2
set_option maxRecDepth 100000 in
/-- a ground that came in -/
theorem rs_ground {r : Reach} {b0 : Nat} {v : Value} {d : DataW H} {p : List MemPlace} (hv : Value.okWide Try.prog W r b0 25 v) (h : DataW.Trod enc Try.prog W base spare held 25 v d p) :
    ∃ (wd : Int) (hv sv : Value) (hs : List (Int × Int)) (ss : List Int), v = .agg #[.int .i64 wd, hv, sv] ∧ RS W.heap.size W hv hs.length (spans hs) ∧ RS W.heap.size W sv ss.length (ints ss) := by
  obtain ⟨c0, c1, c2, y0, y1, y2, n, rfl, -, -, h0, h1, h2⟩ := open_agg3 Try.underlying25 (by kernel_rfl) cellsGround hv h
  obtain ⟨wd, e0, -, -⟩ := DataW.trod_int Try.underlying3 h0
  obtain ⟨a1, l1, k1, e1⟩ := slice_form Try.underlying22 h1
  obtain ⟨a2, l2, k2, e2⟩ := slice_form Try.underlying23 h2
  simp at e0 e1 e2
  subst e0 e1 e2
  obtain ⟨hs, -, g1⟩ := rs_spans h1
  obtain ⟨ss, -, g2⟩ := rs_ints h2
  exact ⟨wd, _, _, hs, ss, rfl, g1, g2⟩
set_option maxRecDepth 100000 in
/-- a list of numbers that came in, as an argument -/
theorem rs_list {r : Reach} {b0 : Nat} {v : Value} {d : DataW H} {p : List MemPlace} (hv : Value.okWide Try.prog W r b0 23 v) (h : DataW.Trod enc Try.prog W base spare held 23 v d p) :
    ∃ l : List Int, RS W.heap.size W v l.length (ints l) := by
  obtain ⟨a, l, c, rfl⟩ := okWide_slice Try.underlying23 hv
  obtain ⟨fuel, hf⟩ := h
  have e : (Value.slice a l c).cells.toList = [.slice a l c] := by simp [Value.cells]
  rw [e] at hf
  obtain ⟨zs, -, g⟩ := rs_ints hf
  exact ⟨zs, g⟩
end
end Go.Proofs.Ytdgibmgifgdpbaa
