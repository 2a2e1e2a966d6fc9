/-
  Parts of the proof, in the order in which they build: RdQ.
-/
import Derived.Test.YtobmhamdkngehaaC34
import Derived.Test.YtobmhamdkngehaaA9
set_option linter.unusedVariables false
set_option linter.unusedSimpArgs false
namespace Go.Proofs.Ytobmhamdkngehaa

/-- numbers of the first m stones that can be -/
structure IsF (d : Rd) (m : Nat) (φ : Nat → Nat) : Prop where
  le : ∀ i, i < m → φ i ≤ d.r.length
  can : ∀ i, i < m → canB d i (φ i) = true
  up : ∀ i, i + 1 < m → φ i < φ (i + 1)
  fit : ∀ i, i + 1 < m → fitsB d.r (φ i) (φ (i + 1)) (d.f.getD i (0, 0)) = true
theorem IsF.congr {d : Rd} {m : Nat} {φ ψ : Nat → Nat} (h : IsF d m φ) (e : ∀ i, i < m → φ i = ψ i) : IsF d m ψ :=
  ⟨fun i hi => by rw [← e i hi]; exact h.le i hi, fun i hi => by rw [← e i hi]; exact h.can i hi, fun i hi => by rw [← e i (by omega), ← e (i + 1) hi]; exact h.up i hi, fun i hi => by rw [← e i (by omega), ← e (i + 1) hi]; exact h.fit i hi⟩
theorem IsF.short {d : Rd} {m n : Nat} {φ : Nat → Nat} (h : IsF d m φ) (hn : n ≤ m) : IsF d n φ :=
  ⟨fun i hi => h.le i (by omega), fun i hi => h.can i (by omega), fun i hi => h.up i (by omega), fun i hi => h.fit i (by omega)⟩
theorem getD_app {l : List Nat} {y i : Nat} (h : i < l.length) : (l ++ [y]).getD i 0 = l.getD i 0 := by
  rw [List.getD_eq_getElem?_getD, List.getElem?_append_left h, List.getD_eq_getElem?_getD]
theorem mem_rdl (d : Rd) : ∀ (m : Nat) (l : List Nat), l ∈ rdl d m ↔ l.length = m ∧ IsF d m (fun i => l.getD i 0)
  | 0, l => by
    rw [rdl, List.mem_singleton]
    constructor
    · rintro rfl
      exact ⟨rfl, fun i hi => by omega, fun i hi => by omega, fun i hi => by omega, fun i hi => by omega⟩
    · rintro ⟨h, -⟩; exact List.eq_nil_of_length_eq_zero h
  | m + 1, l => by
    rw [rdl, List.mem_flatMap]
    constructor
    · rintro ⟨l0, h0, h1⟩
      obtain ⟨y, hy, hn, rfl⟩ := mem_ext.1 h1
      obtain ⟨hl, hf⟩ := (mem_rdl d m l0).1 h0
      have e0 : ∀ i, i < m → (l0 ++ [y]).getD i 0 = l0.getD i 0 := fun i hi => getD_app (by omega)
      have ey : (l0 ++ [y]).getD m 0 = y := by rw [← hl]; exact getD_end l0 y
      unfold nextB at hn
      rw [Bool.and_eq_true] at hn
      refine ⟨by rw [List.length_append, hl]; rfl, fun i hi => ?_, fun i hi => ?_, fun i hi => ?_, fun i hi => ?_⟩
      · by_cases e : i = m
        · show (l0 ++ [y]).getD i 0 ≤ _; rw [e, ey]; omega
        · show (l0 ++ [y]).getD i 0 ≤ _; rw [e0 i (by omega)]; exact hf.le i (by omega)
      · by_cases e : i = m
        · show canB d i ((l0 ++ [y]).getD i 0) = true; rw [e, ey]; exact hn.1
        · show canB d i ((l0 ++ [y]).getD i 0) = true; rw [e0 i (by omega)]; exact hf.can i (by omega)
      · show (l0 ++ [y]).getD i 0 < (l0 ++ [y]).getD (i + 1) 0
        by_cases e : i + 1 = m
        · rw [e, ey, e0 i (by omega)]
          have h2 := hn.2
          rw [decide_eq_false (by omega), Bool.false_or, Bool.and_eq_true, decide_eq_true_eq, show m - 1 = i by omega] at h2
          exact h2.1
        · rw [e0 i (by omega), e0 (i + 1) (by omega)]; exact hf.up i (by omega)
      · show fitsB d.r ((l0 ++ [y]).getD i 0) ((l0 ++ [y]).getD (i + 1) 0) _ = true
        by_cases e : i + 1 = m
        · rw [e, ey, e0 i (by omega)]
          have h2 := hn.2
          rw [decide_eq_false (by omega), Bool.false_or, Bool.and_eq_true, decide_eq_true_eq, show m - 1 = i by omega] at h2
          exact h2.2
        · rw [e0 i (by omega), e0 (i + 1) (by omega)]; exact hf.fit i (by omega)
    · rintro ⟨hl, hf⟩
      have hne : l ≠ [] := fun e => by rw [e] at hl; simp at hl
      obtain ⟨l0, y, rfl⟩ : ∃ l0 y, l = l0 ++ [y] := ⟨l.dropLast, l.getLast hne, (List.dropLast_concat_getLast hne).symm⟩
      have hl0 : l0.length = m := by rw [List.length_append] at hl; simpa using hl
      have e0 : ∀ i, i < m → (l0 ++ [y]).getD i 0 = l0.getD i 0 := fun i hi => getD_app (by omega)
      have ey : (l0 ++ [y]).getD m 0 = y := by rw [← hl0]; exact getD_end l0 y
      refine ⟨l0, (mem_rdl d m l0).2 ⟨hl0, (hf.short (Nat.le_succ m)).congr fun i hi => e0 i hi⟩, mem_ext.2 ⟨y, ?_, ?_, rfl⟩⟩
      · have := hf.le m (Nat.lt_succ_self m)
        rw [ey] at this; omega
      · unfold nextB
        rw [Bool.and_eq_true]
        refine ⟨by have := hf.can m (Nat.lt_succ_self m); rwa [ey] at this, ?_⟩
        rw [Bool.or_eq_true]
        by_cases h0 : m = 0
        · exact .inl (decide_eq_true h0)
        · right
          obtain ⟨i, rfl⟩ : ∃ i, m = i + 1 := ⟨m - 1, by omega⟩
          have h1 : (l0 ++ [y]).getD i 0 < (l0 ++ [y]).getD (i + 1) 0 := hf.up i (by omega)
          have h2 : fitsB d.r ((l0 ++ [y]).getD i 0) ((l0 ++ [y]).getD (i + 1) 0) (d.f.getD i (0, 0)) = true := hf.fit i (by omega)
          rw [ey, e0 i (by omega)] at h1 h2
          rw [Nat.add_sub_cancel, Bool.and_eq_true, decide_eq_true_eq]
          exact ⟨h1, h2⟩
theorem range_getD (m : Nat) (φ : Nat → Nat) (i : Nat) (h : i < m) : ((List.range m).map φ).getD i 0 = φ i := by
  rw [List.getD_eq_getElem?_getD, List.getElem?_map, List.getElem?_range h]; rfl
/-- there is a reading just if the count is not 0 -/
theorem cnt_pos {d : Rd} {k b : Nat} (hb : b ≤ d.r.length) : 0 < cnt d k b ↔ ∃ φ, IsF d (k + 1) φ ∧ φ k = b := by
  rw [← cnt_rdl d k b hb, List.length_pos_iff_exists_mem]
  constructor
  · rintro ⟨l, hl⟩
    rw [List.mem_filter] at hl
    exact ⟨fun i => l.getD i 0, ((mem_rdl d _ l).1 hl.1).2, by simpa using hl.2⟩
  · rintro ⟨φ, hf, rfl⟩
    refine ⟨(List.range (k + 1)).map φ, List.mem_filter.2 ⟨(mem_rdl d _ _).2 ⟨by simp, hf.congr fun i hi => (range_getD _ φ i hi).symm⟩, ?_⟩⟩
    rw [range_getD _ φ k (Nat.lt_succ_self k)]
    simp
/-! The other way. -/
theorem sumLo_cons (s : Int × Int) : ∀ l, sumLo (s :: l) = s.1 + sumLo l := fun l => by
  have h : ∀ (l : List Int) (a : Int), l.foldl (· + ·) a = a + l.foldl (· + ·) 0 := fun l => by
    induction l with
    | nil => intro a; simp
    | cons x l ih => intro a; rw [List.foldl_cons, List.foldl_cons, ih (a + x), ih (0 + x)]; omega
  unfold sumLo
  rw [List.map_cons, List.foldl_cons, h]
  omega
theorem sumHi_cons (s : Int × Int) : ∀ l, sumHi (s :: l) = s.2 + sumHi l := fun l => by
  have h : ∀ (l : List Int) (a : Int), l.foldl (· + ·) a = a + l.foldl (· + ·) 0 := fun l => by
    induction l with
    | nil => intro a; simp
    | cons x l ih => intro a; rw [List.foldl_cons, List.foldl_cons, ih (a + x), ih (0 + x)]; omega
  unfold sumHi
  rw [List.map_cons, List.foldl_cons, h]
  omega
theorem sumLo_end (l : List (Int × Int)) (s : Int × Int) : sumLo (l ++ [s]) = sumLo l + s.1 := by
  unfold sumLo; rw [List.map_append, List.foldl_append]; rfl
theorem sumHi_end (l : List (Int × Int)) (s : Int × Int) : sumHi (l ++ [s]) = sumHi l + s.2 := by
  unfold sumHi; rw [List.map_append, List.foldl_append]; rfl
theorem sumLo_rev : ∀ l, sumLo l.reverse = sumLo l
  | [] => rfl
  | s :: l => by rw [List.reverse_cons, sumLo_end, sumLo_rev l, sumLo_cons]; omega
theorem sumHi_rev : ∀ l, sumHi l.reverse = sumHi l
  | [] => rfl
  | s :: l => by rw [List.reverse_cons, sumHi_end, sumHi_rev l, sumHi_cons]; omega
theorem between_rev (r : List (Int × Int)) {b b' : Nat} (h : b ≤ b') (hb : b' ≤ r.length) : between r.reverse (r.length - b') (r.length - b) = (between r b b').reverse := by
  unfold between
  refine List.ext_getElem? fun i => ?_
  rw [List.getElem?_drop, List.getElem?_take]
  have hl : ((r.take b').drop b).length = b' - b := by rw [List.length_drop, List.length_take]; omega
  by_cases hi : i < b' - b
  · rw [if_pos (by omega), List.getElem?_reverse (by omega), List.getElem?_reverse (by omega), hl, List.getElem?_drop, List.getElem?_take, if_pos (by omega)]
    congr 1
    omega
  · rw [if_neg (by omega), List.getElem?_eq_none (by rw [List.length_reverse, hl]; omega)]
theorem fits_rev (r : List (Int × Int)) {b b' : Nat} (h : b ≤ b') (hb : b' ≤ r.length) (g : Int × Int) : fitsB r.reverse (r.length - b') (r.length - b) g = fitsB r b b' g := by
  unfold fitsB
  rw [between_rev r h hb, sumLo_rev, sumHi_rev]
structure RdLen (d : Rd) : Prop where
  m1 : 1 ≤ d.m.length
  fm : d.f.length + 1 = d.m.length
  mr : ∀ x ∈ d.m, -1 ≤ x ∧ x ≤ d.r.length
theorem can_back {d : Rd} (h : RdLen d) {i b : Nat} (hi : i < d.m.length) (hb : b ≤ d.r.length) : canB d.back i (d.r.length - b) = canB d (d.m.length - 1 - i) b := by
  have e1 : d.back.m.getD i (-1) = if d.m.getD (d.m.length - 1 - i) (-1) = -1 then -1 else (d.r.length : Int) - d.m.getD (d.m.length - 1 - i) (-1) := by
    have hk : d.m.length - 1 - i < d.m.length := by omega
    show (d.m.reverse.map fun n => if n = -1 then n else (d.r.length : Int) - n).getD i (-1) = _
    rw [List.getD_eq_getElem?_getD, List.getElem?_map, List.getElem?_reverse hi, List.getD_eq_getElem?_getD, List.getElem?_eq_getElem hk]
    simp only [Option.map_some, Option.getD_some]
    split
    · rename_i h; exact h
    · rfl
  have hx : -1 ≤ d.m.getD (d.m.length - 1 - i) (-1) ∧ d.m.getD (d.m.length - 1 - i) (-1) ≤ d.r.length := by
    have hk : d.m.length - 1 - i < d.m.length := by omega
    rw [List.getD_eq_getElem?_getD, List.getElem?_eq_getElem hk]
    exact h.mr _ (List.getElem_mem hk)
  unfold canB
  rw [e1]
  generalize d.m.getD (d.m.length - 1 - i) (-1) = x at hx
  by_cases e : x = -1
  · rw [if_pos e, e]; simp
  · rw [if_neg e, decide_eq_false (show ¬ x = -1 from e), decide_eq_false (show ¬ (d.r.length : Int) - x = -1 by omega), Bool.false_or, Bool.false_or]
    rw [Bool.eq_iff_iff, decide_eq_true_eq, decide_eq_true_eq]
    omega
theorem f_back {d : Rd} (h : RdLen d) {i : Nat} (hi : i + 1 < d.m.length) : d.back.f.getD i (0, 0) = d.f.getD (d.m.length - 2 - i) (0, 0) := by
  have := h.fm
  show d.f.reverse.getD i (0, 0) = _
  rw [List.getD_eq_getElem?_getD, List.getElem?_reverse (by omega), List.getD_eq_getElem?_getD]
  congr 2
  omega
theorem back_len (d : Rd) : d.back.r.length = d.r.length := by show d.r.reverse.length = _; rw [List.length_reverse]
/-- a part of a reading, gone the other way -/
theorem IsF.back {d : Rd} (h : RdLen d) {k : Nat} {φ : Nat → Nat} (hk : k < d.m.length)
    (hle : ∀ i, k ≤ i → i < d.m.length → φ i ≤ d.r.length) (hcan : ∀ i, k ≤ i → i < d.m.length → canB d i (φ i) = true) (hup : ∀ i, k ≤ i → i + 1 < d.m.length → φ i < φ (i + 1)) (hfit : ∀ i, k ≤ i → i + 1 < d.m.length → fitsB d.r (φ i) (φ (i + 1)) (d.f.getD i (0, 0)) = true) :
    IsF d.back (d.m.length - k) (fun i => d.r.length - φ (d.m.length - 1 - i)) := by
  refine ⟨fun i hi => ?_, fun i hi => ?_, fun i hi => ?_, fun i hi => ?_⟩
  · rw [back_len]; exact Nat.sub_le _ _
  · rw [can_back h (by omega) (hle _ (by omega) (by omega))]
    exact hcan _ (by omega) (by omega)
  · have h1 := hup (d.m.length - 1 - (i + 1)) (by omega) (by omega)
    have h2 := hle (d.m.length - 1 - i) (by omega) (by omega)
    rw [show d.m.length - 1 - (i + 1) + 1 = d.m.length - 1 - i by omega] at h1
    show d.r.length - φ (d.m.length - 1 - i) < d.r.length - φ (d.m.length - 1 - (i + 1))
    omega
  · have h1 := hup (d.m.length - 1 - (i + 1)) (by omega) (by omega)
    have h2 := hle (d.m.length - 1 - i) (by omega) (by omega)
    have h3 := hfit (d.m.length - 1 - (i + 1)) (by omega) (by omega)
    rw [show d.m.length - 1 - (i + 1) + 1 = d.m.length - 1 - i by omega] at h1 h3
    show fitsB d.r.reverse (d.r.length - φ (d.m.length - 1 - i)) (d.r.length - φ (d.m.length - 1 - (i + 1))) _ = true
    rw [fits_rev d.r (by omega) h2, f_back h (by omega), show d.m.length - 2 - i = d.m.length - 1 - (i + 1) by omega]
    exact h3
/-- .. and back -/
theorem IsF.forth {d : Rd} (h : RdLen d) {k : Nat} {ψ : Nat → Nat} (hk : k < d.m.length) (hf : IsF d.back (d.m.length - k) ψ) {i : Nat} (hi : k ≤ i) (hm : i < d.m.length) :
    (canB d i (d.r.length - ψ (d.m.length - 1 - i)) = true) ∧ (i + 1 < d.m.length → d.r.length - ψ (d.m.length - 1 - i) < d.r.length - ψ (d.m.length - 1 - (i + 1)) ∧ fitsB d.r (d.r.length - ψ (d.m.length - 1 - i)) (d.r.length - ψ (d.m.length - 1 - (i + 1))) (d.f.getD i (0, 0)) = true) := by
  have l1 := hf.le (d.m.length - 1 - i) (by omega)
  rw [back_len] at l1
  constructor
  · have h1 := hf.can (d.m.length - 1 - i) (by omega)
    have h2 := can_back h (i := d.m.length - 1 - i) (b := d.r.length - ψ (d.m.length - 1 - i)) (by omega) (Nat.sub_le _ _)
    rw [show d.r.length - (d.r.length - ψ (d.m.length - 1 - i)) = ψ (d.m.length - 1 - i) by omega, h1, show d.m.length - 1 - (d.m.length - 1 - i) = i by omega] at h2
    exact h2.symm
  · intro hi1
    have l2 := hf.le (d.m.length - 1 - (i + 1)) (by omega)
    rw [back_len] at l2
    have h1 := hf.up (d.m.length - 1 - (i + 1)) (by omega)
    have h3 := hf.fit (d.m.length - 1 - (i + 1)) (by omega)
    rw [show d.m.length - 1 - (i + 1) + 1 = d.m.length - 1 - i by omega] at h1 h3
    refine ⟨by omega, ?_⟩
    have h4 := fits_rev d.r (b := d.r.length - ψ (d.m.length - 1 - i)) (b' := d.r.length - ψ (d.m.length - 1 - (i + 1))) (by omega) (Nat.sub_le _ _) (d.f.getD i (0, 0))
    rw [show d.r.length - (d.r.length - ψ (d.m.length - 1 - (i + 1))) = ψ (d.m.length - 1 - (i + 1)) by omega, show d.r.length - (d.r.length - ψ (d.m.length - 1 - i)) = ψ (d.m.length - 1 - i) by omega] at h4
    rw [← h4]
    rw [f_back h (by omega), show d.m.length - 2 - (d.m.length - 1 - (i + 1)) = i by omega] at h3
    exact h3
/-- the numbers that stone k can have are those of the readings -/
theorem nums_rdl {d : Rd} (h : RdLen d) {k b : Nat} (hk : k < d.m.length) (hb : b ≤ d.r.length) : (0 < tabTo d d.m.length 0 k b ∧ 0 < behT d k b) ↔ ∃ l ∈ rdl d d.m.length, l.getD k 0 = b := by
  have e1 : tabTo d d.m.length 0 k b = cnt d k b := by unfold tabTo; rw [if_pos (.inl ⟨hk, hb⟩)]
  have e2 : behT d k b = cnt d.back (d.m.length - 1 - k) (d.r.length - b) := by
    unfold behT
    rw [if_pos hb]
    unfold tabTo
    rw [if_pos (.inl ⟨by omega, by rw [back_len]; exact Nat.sub_le _ _⟩)]
  rw [e1, e2, cnt_pos hb, cnt_pos (d := d.back) (by rw [back_len]; exact Nat.sub_le _ _)]
  constructor
  · rintro ⟨⟨φ, hf, hφ⟩, ψ, hg, hψ⟩
    have hg' : IsF d.back (d.m.length - k) ψ := by rw [show d.m.length - k = d.m.length - 1 - k + 1 by omega]; exact hg
    have ek : d.r.length - ψ (d.m.length - 1 - k) = b := by rw [hψ]; omega
    refine ⟨(List.range d.m.length).map fun i => if i ≤ k then φ i else d.r.length - ψ (d.m.length - 1 - i), (mem_rdl d _ _).2 ⟨by simp, IsF.congr (φ := fun i => if i ≤ k then φ i else d.r.length - ψ (d.m.length - 1 - i)) ?_ fun i hi => (range_getD _ (fun i => if i ≤ k then φ i else d.r.length - ψ (d.m.length - 1 - i)) i hi).symm⟩, by rw [range_getD _ _ k hk, if_pos (Nat.le_refl k)]; exact hφ⟩
    refine ⟨fun i hi => ?_, fun i hi => ?_, fun i hi => ?_, fun i hi => ?_⟩
    · by_cases e : i ≤ k
      · show (if i ≤ k then _ else _) ≤ _; rw [if_pos e]; exact hf.le i (by omega)
      · show (if i ≤ k then _ else _) ≤ _; rw [if_neg e]; exact Nat.sub_le _ _
    · by_cases e : i ≤ k
      · show canB d i (if i ≤ k then _ else _) = true; rw [if_pos e]; exact hf.can i (by omega)
      · show canB d i (if i ≤ k then _ else _) = true; rw [if_neg e]; exact (hg'.forth h hk (by omega) hi).1
    · show (if i ≤ k then _ else _) < (if i + 1 ≤ k then _ else _)
      by_cases e : i + 1 ≤ k
      · rw [if_pos e, if_pos (by omega)]; exact hf.up i (by omega)
      · rw [if_neg e]
        by_cases e2 : i ≤ k
        · obtain rfl : i = k := by omega
          rw [if_pos e2, hφ, ← ek]
          exact ((hg'.forth h hk (Nat.le_refl i) (by omega)).2 hi).1
        · rw [if_neg e2]
          exact ((hg'.forth h hk (by omega) (by omega)).2 hi).1
    · show fitsB d.r (if i ≤ k then _ else _) (if i + 1 ≤ k then _ else _) _ = true
      by_cases e : i + 1 ≤ k
      · rw [if_pos e, if_pos (by omega)]; exact hf.fit i (by omega)
      · rw [if_neg e]
        by_cases e2 : i ≤ k
        · obtain rfl : i = k := by omega
          rw [if_pos e2, hφ, ← ek]
          exact ((hg'.forth h hk (Nat.le_refl i) (by omega)).2 hi).2
        · rw [if_neg e2]
          exact ((hg'.forth h hk (by omega) (by omega)).2 hi).2
  · rintro ⟨l, hl, rfl⟩
    obtain ⟨-, hf⟩ := (mem_rdl d _ l).1 hl
    refine ⟨⟨fun i => l.getD i 0, hf.short (by omega), rfl⟩, fun i => d.r.length - l.getD (d.m.length - 1 - i) 0, ?_, by show d.r.length - l.getD (d.m.length - 1 - (d.m.length - 1 - k)) 0 = _; rw [show d.m.length - 1 - (d.m.length - 1 - k) = k by omega]⟩
    have := IsF.back h hk (φ := fun i => l.getD i 0) (fun i _ hi => hf.le i hi) (fun i _ hi => hf.can i hi) (fun i _ hi => hf.up i hi) (fun i _ hi => hf.fit i hi)
    rw [show d.m.length - k = d.m.length - 1 - k + 1 by omega] at this
    exact this
end Go.Proofs.Ytobmhamdkngehaa
