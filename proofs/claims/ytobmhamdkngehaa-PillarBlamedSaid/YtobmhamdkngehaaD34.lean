/-
  Parts of the proof, in the order in which they build: RdQ.
-/
import Derived.Test.YtobmhamdkngehaaC34
import Derived.Test.YtobmhamdkngehaaA9
set_option linter.unusedVariables false
set_option linter.unusedSimpArgs false
namespace Go.Proofs.Ytobmhamdkngehaa

/-- numbers of the first m stones that can be -/
structure IsF (d : Rd) (m : Nat) (φ : Nat → Nat) : Prop where
  le : ∀ i, i < m → φ i ≤ d.r.length
  can : ∀ i, i < m → canB d i (φ i) = true
  up : ∀ i, i + 1 < m → φ i < φ (i + 1)
  fit : ∀ i, i + 1 < m → fitsB d.r (φ i) (φ (i + 1)) (d.f.getD i (0, 0)) = true
theorem IsF.congr {d : Rd} {m : Nat} {φ ψ : Nat → Nat} (h : IsF d m φ) (e : ∀ i, i < m → φ i = ψ i) : IsF d m ψ :=
  ⟨fun i hi => by rw [← e i hi]; exact h.le i hi, fun i hi => by rw [← e i hi]; exact h.can i hi, fun i hi => by rw [← e i (by omega), ← e (i + 1) hi]; exact h.up i hi, fun i hi => by rw [← e i (by omega), ← e (i + 1) hi]; exact h.fit i hi⟩
theorem IsF.short {d : Rd} {m n : Nat} {φ : Nat → Nat} (h : IsF d m φ) (hn : n ≤ m) : IsF d n φ :=
  ⟨fun i hi => h.le i (by omega), fun i hi => h.can i (by omega), fun i hi => h.up i (by omega), fun i hi => h.fit i (by omega)⟩
theorem getD_app {l : List Nat} {y i : Nat} (h : i < l.length) : (l ++ [y]).getD i 0 = l.getD i 0 := by
  rw [List.getD_eq_getElem?_getD, List.getElem?_append_left h, List.getD_eq_getElem?_getD]
theorem mem_rdl (d : Rd) : ∀ (m : Nat) (l : List Nat), l ∈ rdl d m ↔ l.length = m ∧ IsF d m (fun i => l.getD i 0)
  | 0, l => by
    rw [rdl, List.mem_singleton]
    constructor
    · rintro rfl
      exact ⟨rfl, fun i hi => by omega, fun i hi => by omega, fun i hi => by omega, fun i hi => by omega⟩
    · rintro ⟨h, -⟩; exact List.eq_nil_of_length_eq_zero h
  | m + 1, l => by
    rw [rdl, List.mem_flatMap]
    constructor
    · rintro ⟨l0, h0, h1⟩
      obtain ⟨y, hy, hn, rfl⟩ := mem_ext.1 h1
      obtain ⟨hl, hf⟩ := (mem_rdl d m l0).1 h0
      have e0 : ∀ i, i < m → (l0 ++ [y]).getD i 0 = l0.getD i 0 := fun i hi => getD_app (by omega)
      have ey : (l0 ++ [y]).getD m 0 = y := by rw [← hl]; exact getD_end l0 y
      unfold nextB at hn
      rw [Bool.and_eq_true] at hn
      refine ⟨by rw [List.length_append, hl]; rfl, fun i hi => ?_, fun i hi => ?_, fun i hi => ?_, fun i hi => ?_⟩
      · by_cases e : i = m
        · show (l0 ++ [y]).getD i 0 ≤ _; rw [e, ey]; omega
        · show (l0 ++ [y]).getD i 0 ≤ _; rw [e0 i (by omega)]; exact hf.le i (by omega)
      · by_cases e : i = m
        · show canB d i ((l0 ++ [y]).getD i 0) = true; rw [e, ey]; exact hn.1
        · show canB d i ((l0 ++ [y]).getD i 0) = true; rw [e0 i (by omega)]; exact hf.can i (by omega)
      · show (l0 ++ [y]).getD i 0 < (l0 ++ [y]).getD (i + 1) 0
        by_cases e : i + 1 = m
        · rw [e, ey, e0 i (by omega)]
          have h2 := hn.2
          rw [decide_eq_false (by omega), Bool.false_or, Bool.and_eq_true, decide_eq_true_eq, show m - 1 = i by omega] at h2
          exact h2.1
        · rw [e0 i (by omega), e0 (i + 1) (by omega)]; exact hf.up i (by omega)
      · show fitsB d.r ((l0 ++ [y]).getD i 0) ((l0 ++ [y]).getD (i + 1) 0) _ = true
        by_cases e : i + 1 = m
        · rw [e, ey, e0 i (by omega)]
          have h2 := hn.2
          rw [decide_eq_false (by omega), Bool.false_or, Bool.and_eq_true, decide_eq_true_eq, show m - 1 = i by omega] at h2
          exact h2.2
        · rw [e0 i (by omega), e0 (i + 1) (by omega)]; exact hf.fit i (by omega)
    · rintro ⟨hl, hf⟩
      have hne : l ≠ [] := fun e => by rw [e] at hl; simp at hl
      obtain ⟨l0, y, rfl⟩ : ∃ l0 y, l = l0 ++ [y] := ⟨l.dropLast, l.getLast hne, (List.dropLast_concat_getLast hne).symm⟩
      have hl0 : l0.length = m := by rw [List.length_append] at hl; simpa using hl
      have e0 : ∀ i, i < m → (l0 ++ [y]).getD i 0 = l0.getD i 0 := fun i hi => getD_app (by omega)
      have ey : (l0 ++ [y]).getD m 0 = y := by rw [← hl0]; exact getD_end l0 y
      refine ⟨l0, (mem_rdl d m l0).2 ⟨hl0, (hf.short (Nat.le_succ m)).congr fun i hi => e0 i hi⟩, mem_ext.2 ⟨y, ?_, ?_, rfl⟩⟩
      · have := hf.le m (Nat.lt_succ_self m)
        rw [ey] at this; omega
      · unfold nextB
        rw [Bool.and_eq_true]
        refine ⟨by have := hf.can m (Nat.lt_succ_self m); rwa [ey] at this, ?_⟩
        rw [Bool.or_eq_true]
        by_cases h0 : m = 0
        · exact .inl (decide_eq_true h0)
        · right
          obtain ⟨i, rfl⟩ : ∃ i, m = i + 1 := ⟨m - 1, by omega⟩
          have h1 : (l0 ++ [y]).getD i 0 < (l0 ++ [y]).getD (i + 1) 0 := hf.up i (by omega)
          have h2 : fitsB d.r ((l0 ++ [y]).getD i 0) ((l0 ++ [y]).getD (i + 1) 0) (d.f.getD i (0, 0)) = true := hf.fit i (by omega)
          rw [ey, e0 i (by omega)] at h1 h2
          rw [Nat.add_sub_cancel, Bool.and_eq_true, decide_eq_true_eq]
          exact ⟨h1, h2⟩
theorem range_getD (m : Nat) (φ : Nat → Nat) (i : Nat) (h : i < m) : ((List.range m).map φ).getD i 0 = φ i := by
  rw [List.getD_eq_getElem?_getD, List.getElem?_map, List.getElem?_range h]; rfl
/-! The other way. -/
theorem sumLo_end (l : List (Int × Int)) (s : Int × Int) : sumLo (l ++ [s]) = sumLo l + s.1 := by
  unfold sumLo; rw [List.map_append, List.foldl_append]; rfl
theorem sumHi_end (l : List (Int × Int)) (s : Int × Int) : sumHi (l ++ [s]) = sumHi l + s.2 := by
  unfold sumHi; rw [List.map_append, List.foldl_append]; rfl
end Go.Proofs.Ytobmhamdkngehaa
