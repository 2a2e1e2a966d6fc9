/-
  Parts of the proof, in the order in which they build: RwA.
-/
import Derived.Test.YtohjinbgbfggcaaR7
import Derived.Test.YtohjinbgbfggcaaA42
set_option linter.unusedVariables false
set_option linter.unusedSimpArgs false
namespace Go.Proofs.Ytohjinbgbfggcaa.Rg
open Go.RowKit Go.Shelf
open Lim

/-- a row of n cells between two seas -/
structure RowG (g : Gd) (n : Nat) : Prop where
  n1 : 1 ≤ n ∧ n ≤ 90
  wd : g.wd = n + 2
  sl : g.ss.length = n + 2
  hl : g.hs.length = n + 2
  s0 : g.ss.getD 0 0 = 1
  s2 : g.ss.getD (n + 1) 0 = 2
  sm : ∀ j, 1 ≤ j → j ≤ n → g.ss.getD j 0 = 0
  h : ∀ j, j < n + 2 → 0 ≤ (g.hs.getD j (0, 0)).1 ∧ (g.hs.getD j (0, 0)).1 ≤ (g.hs.getD j (0, 0)).2 ∧ (g.hs.getD j (0, 0)).2 ≤ 10000
section
variable {g : Gd} {n : Nat}
theorem RowG.nbs (h : RowG g n) {c k : Nat} (hc : c < n + 2) : nb g c k ↔ (0 < c ∧ k = c - 1) ∨ (c + 1 < n + 2 ∧ k = c + 1) := by
  have e : g.n = n + 2 := h.sl
  unfold nb
  rw [mem_nbr, h.wd, e, Nat.mod_eq_of_lt hc]
  omega
theorem RowG.at (h : RowG g n) {c : Nat} {s : Int} (hc : c < n + 2) : atB g c s = true ↔ (0 < c ∧ g.ss.getD (c - 1) 0 = s) ∨ (c + 1 < n + 2 ∧ g.ss.getD (c + 1) 0 = s) := by
  unfold atB
  rw [List.any_eq_true]
  constructor
  · rintro ⟨x, hx, e⟩
    have e' : g.ss.getD x.toNat 0 = s := by simpa using e
    rw [mem_nbr, h.wd, h.sl, Nat.mod_eq_of_lt hc] at hx
    rcases hx with hx | hx | hx | hx
    · refine .inl ⟨hx.1, ?_⟩
      rw [← e', show x.toNat = c - 1 by omega]
    · refine .inr ⟨hx.1, ?_⟩
      rw [← e', show x.toNat = c + 1 by omega]
    · omega
    · omega
  · rintro (⟨h1, h2⟩ | ⟨h1, h2⟩)
    · refine ⟨(c : Int) - 1, ?_, ?_⟩
      · rw [mem_nbr, h.wd, h.sl, Nat.mod_eq_of_lt hc]
        exact .inl ⟨h1, rfl⟩
      · rw [show ((c : Int) - 1).toNat = c - 1 by omega, h2]
        exact beq_self_eq_true s
    · refine ⟨(c : Int) + 1, ?_, ?_⟩
      · rw [mem_nbr, h.wd, h.sl, Nat.mod_eq_of_lt hc]
        exact .inr (.inl ⟨h1, rfl⟩)
      · rw [show ((c : Int) + 1).toNat = c + 1 by omega, h2]
        exact beq_self_eq_true s
theorem RowG.land (h : RowG g n) {c : Nat} : Rg.land g c ↔ 1 ≤ c ∧ c ≤ n := by
  have e : g.n = n + 2 := h.sl
  unfold Rg.land
  rw [e]
  constructor
  · rintro ⟨h1, h2⟩
    refine ⟨?_, ?_⟩
    · rcases Nat.eq_zero_or_pos c with h0 | h0
      · subst h0; rw [h.s0] at h2; omega
      · exact h0
    · rcases Nat.lt_or_ge n c with h0 | h0
      · have : c = n + 1 := by omega
        subst this; rw [h.s2] at h2; omega
      · exact h0
  · rintro ⟨h1, h2⟩
    exact ⟨by omega, h.sm c h1 h2⟩
/-- r is the greatest of the heights of n cells -/
def RTop (t : Nat → Int) (n : Nat) (r : Int) : Prop := (∀ j, 1 ≤ j → j ≤ n → t j ≤ r) ∧ ∃ j, 1 ≤ j ∧ j ≤ n ∧ t j = r
theorem RTop.ex (t : Nat → Int) (n : Nat) (h : 1 ≤ n) : ∃ r, RTop t n r := by
  induction n with
  | zero => omega
  | succ n ih =>
    rcases Nat.eq_zero_or_pos n with h0 | h0
    · subst h0
      exact ⟨t 1, fun j h1 h2 => by rw [show j = 1 by omega]; exact Int.le_refl _, 1, by omega, by omega, rfl⟩
    · obtain ⟨r, h1, j, j1, j2, e⟩ := ih h0
      rcases Int.lt_or_le r (t (n + 1)) with h3 | h3
      · refine ⟨t (n + 1), fun k k1 k2 => ?_, n + 1, by omega, by omega, rfl⟩
        by_cases e2 : k = n + 1
        · rw [e2]; exact Int.le_refl _
        · have := h1 k k1 (by omega); omega
      · refine ⟨r, fun k k1 k2 => ?_, j, j1, by omega, e⟩
        by_cases e2 : k = n + 1
        · rw [e2]; exact h3
        · exact h1 k k1 (by omega)
theorem RowG.saddle (h : RowG g n) {t : Nat → Int} {r : Int} (ht : RTop t n r) (hr : r ≤ 10000) : IsSaddle g t r := by
  have hn := h.n1
  refine ⟨by omega, fun _ => ⟨1, h.land.2 ⟨by omega, hn.1⟩, (h.at (by omega)).2 (.inl ⟨by omega, h.s0⟩), ?_⟩, ?_⟩
  · have key : ∀ m c, c + m = n → 1 ≤ c → R g t 2 r c := by
      intro m
      induction m with
      | zero =>
        intro c hc h1
        refine .base ⟨h.land.2 ⟨h1, by omega⟩, ht.1 c h1 (by omega)⟩ ((h.at (by omega)).2 (.inr ⟨by omega, ?_⟩))
        rw [show c = n by omega]
        exact h.s2
      | succ m ih =>
        intro c hc h1
        exact .step ⟨h.land.2 ⟨h1, by omega⟩, ht.1 c h1 (by omega)⟩ ((h.nbs (by omega)).2 (.inr ⟨by omega, rfl⟩)) (ih (c + 1) (by omega) (by omega))
    exact key (n - 1) 1 (by omega) (by omega)
  · intro c k h1 hR
    have key : ∀ c, R g t 2 k c → ∀ j, c ≤ j → j ≤ n → t j ≤ k := by
      intro c hc
      induction hc with
      | @base c ha hs =>
        intro j j1 j2
        have hl := h.land.1 ha.1
        have hc : c = n := by
          rcases (h.at (by omega)).1 hs with ⟨a, b⟩ | ⟨a, b⟩
          · by_cases e : c = 1
            · subst e; rw [show 1 - 1 = 0 from rfl, h.s0] at b; omega
            · rw [h.sm (c - 1) (by omega) (by omega)] at b; omega
          · rcases Nat.lt_or_ge c n with e | e
            · rw [h.sm (c + 1) (by omega) (by omega)] at b; omega
            · omega
        have := ha.2
        rw [show j = c by omega]
        exact this
      | @step c x ha hnb hr ih =>
        intro j j1 j2
        have hl := h.land.1 ha.1
        have h3 := (h.nbs (by omega)).1 hnb
        by_cases e : j = c
        · rw [e]; exact ha.2
        · exact ih j (by omega) j2
    have hl := h.land.1 (Re.in_A hR).1
    have hc : c = 1 := by
      rcases (h.at (by omega)).1 h1 with ⟨a, b⟩ | ⟨a, b⟩
      · by_cases e : c = 1
        · exact e
        · rw [h.sm (c - 1) (by omega) (by omega)] at b; omega
      · by_cases e : c = n
        · subst e; rw [h.s2] at b; omega
        · rw [h.sm (c + 1) (by omega) (by omega)] at b; omega
    obtain ⟨j, j1, j2, e⟩ := ht.2
    rw [← e]
    exact key c hR j (by omega) j2
theorem RowG.good {hs : List (Int × Int)} {ss : List Int} (h : RowG ⟨n + 2, hs, ss⟩ n) {wd : Int} (hw : wd = ((n + 2 : Nat) : Int)) : openErr wd hs ss = 0 := by
  have hn := h.n1
  have hl : hs.length = n + 2 := h.hl
  have sl : ss.length = n + 2 := h.sl
  have e0 : wd.toNat = n + 2 := by omega
  have h1 : goodCount wd hs ss = true := by
    unfold goodCount
    simp only [Bool.and_eq_true, decide_eq_true_eq]
    rw [e0, hl, sl, Nat.mod_self]
    omega
  have h2 : badSea ss = false := by
    unfold badSea
    rw [List.any_eq_false]
    intro k hk
    have hk := List.mem_range.1 hk
    have : 0 ≤ ss.getD k 0 ∧ ss.getD k 0 ≤ 2 := by
      by_cases a : k = 0
      · rw [a, show ss.getD 0 0 = 1 from h.s0]; omega
      · by_cases b : k = n + 1
        · rw [b, show ss.getD (n + 1) 0 = 2 from h.s2]; omega
        · rw [show ss.getD k 0 = 0 from h.sm k (by omega) (by omega)]; omega
    rw [inB_true this.1 this.2]
    decide
  have h3 : badSpan hs = false := by
    unfold badSpan
    rw [List.any_eq_false]
    intro k hk
    have hk := List.mem_range.1 hk
    have := h.h k (by omega)
    dsimp only at this
    rw [inB_true this.1 this.2.1, decide_eq_false (by omega)]
    decide
  have m1 : (1 : Int) ∈ ss := by
    have := h.s0
    dsimp only at this
    rw [List.getD_eq_getElem?_getD, List.getElem?_eq_getElem (by omega)] at this
    rw [← show ss[0] = 1 from this]
    exact List.getElem_mem _
  have m2 : (2 : Int) ∈ ss := by
    have := h.s2
    dsimp only at this
    rw [List.getD_eq_getElem?_getD, List.getElem?_eq_getElem (by omega)] at this
    rw [← show ss[n + 1] = 2 from this]
    exact List.getElem_mem _
  have h4 : clash ⟨wd.toNat, hs, ss⟩ = false := by
    rw [e0]
    unfold clash
    rw [List.any_eq_false]
    intro c hc
    have hc := List.mem_range.1 hc
    have hc : c < n + 2 := by rw [← sl]; exact hc
    simp only [Bool.and_eq_true, decide_eq_true_eq, not_and]
    intro e1 e2
    have c0 : c = 0 := by
      by_cases a : c = 0
      · exact a
      · by_cases b : c = n + 1
        · subst b; rw [show ss.getD (n + 1) 0 = 2 from h.s2] at e1; omega
        · rw [show ss.getD c 0 = 0 from h.sm c (by omega) (by omega)] at e1; omega
    subst c0
    rcases (h.at (by omega)).1 e2 with ⟨a, -⟩ | ⟨-, b⟩
    · omega
    · rw [h.sm 1 (by omega) (by omega)] at b
      omega
  unfold openErr
  rw [if_neg (by rw [h1]; decide), if_neg (by rw [h2, h3]; decide), if_neg (fun hh => hh.elim (fun x => x m1) (fun x => x m2)), if_neg (by rw [h4]; decide)]
/-- what Saddle answers of a row -/
theorem RowG.sad {hs : List (Int × Int)} {ss : List Int} (h : RowG ⟨n + 2, hs, ss⟩ n) {wd : Int} (hw : wd = ((n + 2 : Nat) : Int)) {x y er : Int} (k : SadAns wd hs ss x y er) {a b : Int} (ha : RTop (fun j => (hs.getD j (0, 0)).1) n a) (hb : RTop (fun j => (hs.getD j (0, 0)).2) n b) : x = a ∧ y = b ∧ er = 0 := by
  have e0 : wd.toNat = n + 2 := by omega
  have a1 : a ≤ 10000 := by
    obtain ⟨j, j1, j2, e⟩ := ha.2
    have := h.h j (by omega)
    dsimp only at this e
    omega
  have b1 : b ≤ 10000 := by
    obtain ⟨j, j1, j2, e⟩ := hb.2
    have := h.h j (by omega)
    dsimp only at this e
    omega
  have lo : lowT ⟨n + 2, hs, ss⟩ = fun j => (hs.getD j (0, 0)).1 := by
    funext j
    unfold lowT
    rw [List.getD_eq_getElem?_getD, List.getD_eq_getElem?_getD, List.getElem?_map]
    cases hs[j]? <;> rfl
  have hi : highT ⟨n + 2, hs, ss⟩ = fun j => (hs.getD j (0, 0)).2 := by
    funext j
    unfold highT
    rw [List.getD_eq_getElem?_getD, List.getD_eq_getElem?_getD, List.getElem?_map]
    cases hs[j]? <;> rfl
  rcases k with ⟨k0, -⟩ | ⟨-, a', b', ka, kb, k⟩
  · exact absurd (h.good hw) k0
  · rw [e0, lo] at ka
    rw [e0, hi] at kb
    have ea := ka.unique (h.saddle ha a1)
    have eb := kb.unique (h.saddle hb b1)
    rcases k with ⟨k1, -⟩ | ⟨-, k2, k3, k4⟩
    · omega
    · exact ⟨by omega, by omega, k4⟩
end
/-- the row of a profile -/
structure RowP (p : Pf) (hs : List (Int × Int)) (ss : List Int) : Prop where
  sl : ss.length = p.n + 2
  hl : hs.length = p.n + 2
  s0 : ss.getD 0 0 = 1
  s2 : ss.getD (p.n + 1) 0 = 2
  sm : ∀ j, 1 ≤ j → j ≤ p.n → ss.getD j 0 = 0
  h0 : hs.getD 0 (0, 0) = (0, 0)
  h2 : hs.getD (p.n + 1) (0, 0) = (0, 0)
  hm : ∀ j, j < p.n → hs.getD (j + 1) (0, 0) = p.g j
theorem RowP.row {p : Pf} {hs : List (Int × Int)} {ss : List Int} (h : RowP p hs ss) (hn : 1 ≤ p.n ∧ p.n ≤ 90) (hg : ∀ j, j < p.n → 0 ≤ (p.g j).1 ∧ (p.g j).1 ≤ (p.g j).2 ∧ (p.g j).2 ≤ 10000) : RowG ⟨p.n + 2, hs, ss⟩ p.n := by
  refine ⟨hn, rfl, h.sl, h.hl, h.s0, h.s2, h.sm, fun j hj => ?_⟩
  show 0 ≤ (hs.getD j (0, 0)).1 ∧ (hs.getD j (0, 0)).1 ≤ (hs.getD j (0, 0)).2 ∧ (hs.getD j (0, 0)).2 ≤ 10000
  by_cases a : j = 0
  · rw [a, h.h0]; decide
  · by_cases b : j = p.n + 1
    · rw [b, h.h2]; decide
    · have := hg (j - 1) (by omega)
      rw [← h.hm (j - 1) (by omega), show j - 1 + 1 = j by omega] at this
      exact this
theorem RowP.made {p : Pf} (hg : p.gr.length = p.n) {m : Nat} (hm : m = p.n + 1) : RowP p ([(0, 0)] ++ p.gr ++ [(0, 0)]) (((List.replicate (p.n + 2) (0 : Int)).set 0 1).set m 2) := by
  subst hm
  have get : ∀ j, (((List.replicate (p.n + 2) (0 : Int)).set 0 1).set (p.n + 1) 2).getD j 0 = if j = p.n + 1 then 2 else if j = 0 then 1 else 0 := by
    intro j
    rw [List.getD_eq_getElem?_getD, List.getElem?_set, List.getElem?_set, List.length_set, List.length_replicate]
    by_cases a : j = p.n + 1
    · subst a; simp
    · by_cases b : j = 0
      · subst b; simp
      · rw [if_neg (fun h => a h.symm), if_neg (fun h => b h.symm), if_neg a, if_neg b, List.getElem?_replicate]
        split <;> rfl
  have len : ([(0, 0)] ++ p.gr ++ [(0, 0)] : List (Int × Int)).length = p.n + 2 := by simp; omega
  refine ⟨by simp, len, ?_, ?_, fun j h1 h2 => ?_, rfl, ?_, fun j hj => ?_⟩
  · rw [get, if_neg (by omega), if_pos rfl]
  · rw [get, if_pos rfl]
  · rw [get, if_neg (by omega), if_neg (by omega)]
  · rw [List.getD_eq_getElem?_getD, List.getElem?_append_right (by simp; omega)]
    simp [hg]
  · rw [List.getD_eq_getElem?_getD, List.getElem?_append_left (by simp; omega)]
    show (((0, 0) :: p.gr : List (Int × Int))[j + 1]?).getD (0, 0) = _
    rw [List.getElem?_cons_succ]
    unfold Pf.g
    rw [List.getD_eq_getElem?_getD]
/-- the ground of a truth, k cells of it -/
structure OwnTo (p : Pf) (T : List Int) (k : Nat) (H : List (Int × Int)) (hi : Int) : Prop where
  hl : H.length = p.n + 2
  h0 : H.getD 0 (0, 0) = (0, 0)
  h2 : H.getD (p.n + 1) (0, 0) = (0, 0)
  hm : ∀ j, j < k → H.getD (j + 1) (0, 0) = (T.getD j 0, T.getD j 0)
  top : ∀ j, j < k → T.getD j 0 ≤ hi
  hit : (k = 0 ∧ hi = 0) ∨ ∃ j, j < k ∧ T.getD j 0 = hi
theorem OwnTo.start {p : Pf} {T : List Int} {hs : List (Int × Int)} {ss : List Int} (h : RowP p hs ss) : OwnTo p T 0 hs 0 :=
  ⟨h.hl, h.h0, h.h2, fun j hj => by omega, fun j hj => by omega, .inl ⟨rfl, rfl⟩⟩
theorem getD_setS (l : List (Int × Int)) (i j : Nat) (x : Int × Int) : (l.set i x).getD j (0, 0) = if i = j ∧ i < l.length then x else l.getD j (0, 0) := by
  rw [List.getD_eq_getElem?_getD, List.getD_eq_getElem?_getD, List.getElem?_set]
  by_cases e : i = j
  · subst e
    by_cases h : i < l.length
    · simp [h]
    · simp [h]
  · simp [e]
theorem OwnTo.step {p : Pf} {T : List Int} {k : Nat} {H : List (Int × Int)} {hi : Int} (h : OwnTo p T k H hi) (hk : k < p.n) {t : Int} (ht : t = T.getD k 0) (h0 : 0 ≤ t) : OwnTo p T (k + 1) (H.set (k + 1) (t, t)) (max hi t) := by
  have hl := h.hl
  refine ⟨by rw [List.length_set]; exact hl, ?_, ?_, fun j hj => ?_, fun j hj => ?_, .inr ?_⟩
  · rw [getD_setS, if_neg (by omega)]; exact h.h0
  · rw [getD_setS, if_neg (by omega)]; exact h.h2
  · rw [getD_setS]
    by_cases e : j = k
    · subst e; rw [if_pos ⟨rfl, by omega⟩, ← ht]
    · rw [if_neg (by omega)]; exact h.hm j (by omega)
  · by_cases e : j = k
    · subst e; omega
    · have := h.top j (by omega); omega
  · rcases h.hit with ⟨e, e2⟩ | ⟨j, hj, e⟩
    · exact ⟨k, by omega, by omega⟩
    · rcases Int.lt_or_le hi t with h3 | h3
      · exact ⟨k, by omega, by omega⟩
      · exact ⟨j, by omega, by omega⟩
/-- what a statement asks of one truth -/
theorem OwnTo.done {p : Pf} {T : List Int} {bd : Int} {H hs : List (Int × Int)} {ss : List Int} {hi : Int} (h : OwnTo p T p.n H hi) (hp : p.Ok) (hT : TruB p T bd) (hr : RowP p hs ss) (hg : ∀ j, j < p.n → (p.g j).2 ≤ 10000) {wd : Int} (hw : wd = ((p.n + 2 : Nat) : Int)) {x y er : Int} (k : SadAns wd H ss x y er) :
    x = hi ∧ y = hi ∧ er = 0 := by
  have hn2 := hp.n2
  have hn40 := hp.n40
  have hrow : RowG ⟨p.n + 2, H, ss⟩ p.n := by
    refine ⟨by omega, rfl, hr.sl, h.hl, hr.s0, hr.s2, hr.sm, fun j hj => ?_⟩
    show 0 ≤ (H.getD j (0, 0)).1 ∧ (H.getD j (0, 0)).1 ≤ (H.getD j (0, 0)).2 ∧ (H.getD j (0, 0)).2 ≤ 10000
    by_cases a : j = 0
    · rw [a, h.h0]; decide
    · by_cases b : j = p.n + 1
      · rw [b, h.h2]; decide
      · have e := h.hm (j - 1) (by omega)
        rw [show j - 1 + 1 = j by omega] at e
        have h1 := hT.h (j - 1) (by omega)
        have h2 := hp.gr (j - 1) (by omega)
        have h3 := hg (j - 1) (by omega)
        rw [e]
        dsimp only
        omega
  have top : ∀ f : Int × Int → Int, (∀ z, f (z, z) = z) → RTop (fun j => f (H.getD j (0, 0))) p.n hi := by
    intro f hf
    refine ⟨fun j h1 h2 => ?_, ?_⟩
    · have e := h.hm (j - 1) (by omega)
      rw [show j - 1 + 1 = j by omega] at e
      dsimp only
      rw [e, hf]
      exact h.top (j - 1) (by omega)
    · rcases h.hit with ⟨e, -⟩ | ⟨j, hj, e⟩
      · omega
      · refine ⟨j + 1, by omega, by omega, ?_⟩
        dsimp only
        rw [h.hm j hj, hf, e]
  exact hrow.sad hw k (top (·.1) (fun _ => rfl)) (top (·.2) (fun _ => rfl))
/-- the saddle of all truths lies between -/
theorem OwnTo.between {p : Pf} {T : List Int} {bd : Int} {H hs : List (Int × Int)} {ss : List Int} {hi : Int} (h : OwnTo p T p.n H hi) (hp : p.Ok) (hT : TruB p T bd) (hr : RowP p hs ss) (hg : ∀ j, j < p.n → (p.g j).2 ≤ 10000) {wd : Int} (hw : wd = ((p.n + 2 : Nat) : Int)) {x y er : Int} (k : SadAns wd hs ss x y er) :
    er = 0 ∧ x ≤ hi ∧ hi ≤ y := by
  have hn2 := hp.n2
  have hn40 := hp.n40
  have hrow := hr.row (by omega) (fun j hj => by have := hp.gr j hj; have := hg j hj; omega)
  obtain ⟨a, ha⟩ := RTop.ex (fun j => (hs.getD j (0, 0)).1) p.n (by omega)
  obtain ⟨b, hb⟩ := RTop.ex (fun j => (hs.getD j (0, 0)).2) p.n (by omega)
  obtain ⟨rfl, rfl, e⟩ := hrow.sad hw k ha hb
  refine ⟨e, ?_, ?_⟩
  · obtain ⟨j, j1, j2, e⟩ := ha.2
    have e3 := hr.hm (j - 1) (by omega)
    rw [show j - 1 + 1 = j by omega] at e3
    have h1 := hT.h (j - 1) (by omega)
    have h2 := h.top (j - 1) (by omega)
    dsimp only at e
    rw [e3] at e
    omega
  · rcases h.hit with ⟨e, -⟩ | ⟨j, hj, e⟩
    · omega
    · have h1 := hT.h j hj
      have h2 := hb.1 (j + 1) (by omega) (by omega)
      dsimp only at h2
      rw [hr.hm j hj] at h2
      omega
/-- the saddle of a profile's row has no error -/
theorem RowP.er {p : Pf} {hs : List (Int × Int)} {ss : List Int} (hr : RowP p hs ss) (hp : p.Ok) (hg : ∀ j, j < p.n → (p.g j).2 ≤ 10000) {wd : Int} (hw : wd = ((p.n + 2 : Nat) : Int)) {x y er : Int} (k : SadAns wd hs ss x y er) : er = 0 := by
  have hn2 := hp.n2
  have hn40 := hp.n40
  have hrow := hr.row (by omega) (fun j hj => by have := hp.gr j hj; have := hg j hj; omega)
  obtain ⟨a, ha⟩ := RTop.ex (fun j => (hs.getD j (0, 0)).1) p.n (by omega)
  obtain ⟨b, hb⟩ := RTop.ex (fun j => (hs.getD j (0, 0)).2) p.n (by omega)
  exact (hrow.sad hw k ha hb).2.2
/-- who sees from end to end looks over all places between -/
theorem sees_over {p : Pf} (hp : p.Ok) {T : List Int} {bd : Int} (hT : TruB p T bd) (hs : (p.own T bd).sure 0 (p.n - 1) = true) {k : Nat} (h1 : 0 < k) (h2 : k < p.n - 1) : T.getD k 0 < max (T.getD 0 0) (T.getD (p.n - 1) 0) + p.tall := by
  have hn2 := hp.n2
  have ho := open_iff.1 (show (p.own T bd).open false true 0 (p.n - 1) = true by
    have h := hs
    unfold Pf.sure Pf.sees at h
    rw [Nat.min_eq_left (by omega), Nat.max_eq_right (by omega)] at h
    exact h) k h1 h2
  have hl := hT.len
  rw [own_short (by omega) (by omega) (by omega)] at ho
  have a1 := hp.lt h1 (by omega : k < p.n)
  have a2 := hp.lt h2 (by omega : p.n - 1 < p.n)
  obtain ⟨X, hX⟩ : ∃ X, X = p.a k - p.a 0 := ⟨_, rfl⟩
  obtain ⟨Y, hY⟩ : ∃ Y, Y = p.a (p.n - 1) - p.a k := ⟨_, rfl⟩
  rw [← hX, ← hY] at ho
  have x0 : 0 < X := by omega
  have y0 : 0 < Y := by omega
  have hb : 0 ≤ bd := by have := hT.b; have := hp.bend; omega
  obtain ⟨M, hM⟩ : ∃ M, M = max (T.getD 0 0) (T.getD (p.n - 1) 0) + p.tall := ⟨_, rfl⟩
  rw [← hM]
  have m1 : T.getD 0 0 + p.tall ≤ M := by omega
  have m2 : T.getD (p.n - 1) 0 + p.tall ≤ M := by omega
  unfold shV at ho
  have q1 : (T.getD 0 0 + p.tall) * Y ≤ M * Y := Int.mul_le_mul_of_nonneg_right m1 (by omega)
  have q2 : (T.getD (p.n - 1) 0 + p.tall) * X ≤ M * X := Int.mul_le_mul_of_nonneg_right m2 (by omega)
  have q3 : 0 ≤ bd * X * Y := Int.mul_nonneg (Int.mul_nonneg hb (by omega)) (by omega)
  have q4 : (T.getD k 0 * 10000000) * (X + Y) ≤ (T.getD k 0 * 10000000 + bd * X * Y) * (X + Y) := Int.mul_le_mul_of_nonneg_right (by omega) (by omega)
  have q5 : (T.getD k 0 * 10000000) * (X + Y) = (T.getD k 0 * (X + Y)) * 10000000 := by rw [Int.mul_assoc, Int.mul_comm 10000000, ← Int.mul_assoc]
  have q6 : M * (X + Y) = M * X + M * Y := Int.mul_add _ _ _
  have q7 : T.getD k 0 * (X + Y) < M * (X + Y) := by omega
  exact Int.lt_of_mul_lt_mul_right q7 (by omega)
/-- .. and no cell at all is higher than the higher head -/
theorem sees_high {p : Pf} (hp : p.Ok) {T : List Int} {bd : Int} (hT : TruB p T bd) (hs : (p.own T bd).sure 0 (p.n - 1) = true) {H : List (Int × Int)} {hi : Int} (h : OwnTo p T p.n H hi) : hi ≤ max (T.getD 0 0) (T.getD (p.n - 1) 0) + p.tall := by
  have hn2 := hp.n2
  have ht := hp.tall
  rcases h.hit with ⟨e, -⟩ | ⟨j, hj, e⟩
  · omega
  · by_cases a : j = 0
    · subst a; omega
    · by_cases b : j = p.n - 1
      · subst b; omega
      · have := sees_over hp hT hs (k := j) (by omega) (by omega)
        omega
end Go.Proofs.Ytohjinbgbfggcaa.Rg
