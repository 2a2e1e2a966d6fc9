/-
  Parts of the proof, in the order in which they build: PsB, PsC, PsD.
-/
import Derived.Test.YtobmhamdkngehaaA58
import Derived.Test.YtobmhamdkngehaaC1
import Derived.Test.YtobmhamdkngehaaD34
import Derived.Test.YtobmhamdkngehaaA10
set_option linter.unusedVariables false
set_option linter.unusedSimpArgs false
/-
  A roll and finds that are made, with the truth: plain.
-/
namespace Go.Proofs.Ytobmhamdkngehaa
open Go.RowKit Go.Shelf
open Lim

/-- how long it is from a on, over j distances -/
def seg (T : List Int) (a : Nat) : Nat → Int
 | 0 => 0
 | j + 1 => seg T a j + T.getD (a + j) 0
structure GapsTo (k : Nat) (G : List (Int × Int)) (T : List Int) : Prop where
 lg : G.length = k
 lt : T.length = k
 h : ∀ i, i < k → 1 ≤ (G.getD i (0, 0)).1 ∧ (G.getD i (0, 0)).1 ≤ T.getD i 0 ∧ T.getD i 0 ≤ (G.getD i (0, 0)).2 ∧ (G.getD i (0, 0)).2 ≤ 64 ∧ 5 ≤ T.getD i 0 ∧ T.getD i 0 ≤ 60
theorem GapsTo.nil : GapsTo 0 [] [] := ⟨rfl, rfl, fun i hi => absurd hi (Nat.not_lt_zero _)⟩
theorem GapsTo.snoc {k : Nat} {G : List (Int × Int)} {T : List Int} (H : GapsTo k G T) {x y n : Int} (h : 1 ≤ x ∧ x ≤ n ∧ n ≤ y ∧ y ≤ 64) (hn : 5 ≤ n ∧ n ≤ 60) : GapsTo (k + 1) (G ++ [(x, y)]) (T ++ [n]) := by
 refine ⟨by simp [H.lg], by simp [H.lt], fun i hi => ?_⟩
 rw [getD_snoc, getD_snoc, H.lg, H.lt]
 by_cases e : i < k
 ·rw [if_pos e, if_pos e]; exact H.h i e
 ·rw [if_neg e, if_neg e, if_pos (by omega), if_pos (by omega)]; exact ⟨h.1, h.2.1, h.2.2.1, h.2.2.2, hn⟩
theorem seg_range {k : Nat} {G : List (Int × Int)} {T : List Int} (H : GapsTo k G T) (a : Nat) : ∀ j, a + j ≤ k → 5 * (j : Int) ≤ seg T a j ∧ seg T a j ≤ 60 * (j : Int)
 | 0, _ => by simp [seg]
 | j + 1, h => by
  have h1 := seg_range H a j (by omega)
  have h2 := H.h (a + j) (by omega)
  unfold seg
  omega
/-- stones L that are found among the first k pillars, with gaps F and numbers M -/
structure FindTo (T : List Int) (k : Nat) (L : List Nat) (F : List (Int × Int)) (M : List Int) : Prop where
 lm : M.length = L.length
 lf : F.length = L.length - 1
 up : ∀ i, i + 1 < L.length → L.getD i 0 < L.getD (i + 1) 0
 lt : ∀ i, i < L.length → L.getD i 0 < k
 num : ∀ i, i < L.length → M.getD i 0 = -1 ∨ M.getD i 0 = (L.getD i 0 : Int)
 gap : ∀ i, i + 1 < L.length → 1 ≤ (F.getD i (0, 0)).1 ∧ (F.getD i (0, 0)).1 ≤ seg T (L.getD i 0) (L.getD (i + 1) 0 - L.getD i 0) ∧ seg T (L.getD i 0) (L.getD (i + 1) 0 - L.getD i 0) ≤ (F.getD i (0, 0)).2 ∧ (F.getD i (0, 0)).2 ≤ 1000
theorem FindTo.nil (T : List Int) : FindTo T 0 [] [] [] := ⟨rfl, rfl, fun i hi => absurd hi (Nat.not_lt_zero _), fun i hi => absurd hi (Nat.not_lt_zero _), fun i hi => absurd hi (Nat.not_lt_zero _), fun i hi => absurd hi (Nat.not_lt_zero _)⟩
theorem FindTo.skip {T : List Int} {k : Nat} {L : List Nat} {F : List (Int × Int)} {M : List Int} (H : FindTo T k L F M) : FindTo T (k + 1) L F M := ⟨H.lm, H.lf, H.up, fun i hi => by have := H.lt i hi; omega, H.num, H.gap⟩
theorem FindTo.first {T : List Int} {k : Nat} {F : List (Int × Int)} {M : List Int} (H : FindTo T k [] F M) {m : Int} (hm : m = -1 ∨ m = (k : Int)) : FindTo T (k + 1) ([] ++ [k]) F (M ++ [m]) := by
 have h1 := H.lm
 have h2 := H.lf
 have e : M = [] := List.length_eq_zero_iff.1 h1
 subst e
 refine ⟨rfl, h2, fun i hi => by simp at hi, fun i hi => ?_, fun i hi => ?_, fun i hi => by simp at hi⟩
 ·have : i = 0 := by simpa using hi
  subst this
  exact Nat.lt_succ_self _
 ·have : i = 0 := by simpa using hi
  subst this
  exact hm
theorem FindTo.snoc {T : List Int} {k : Nat} {L : List Nat} {F : List (Int × Int)} {M : List Int} (H : FindTo T k L F M) (hL : 0 < L.length) {m : Int} (hm : m = -1 ∨ m = (k : Int)) {x y : Int}
  (hg : 1 ≤ x ∧ x ≤ seg T (L.getD (L.length - 1) 0) (k - L.getD (L.length - 1) 0) ∧ seg T (L.getD (L.length - 1) 0) (k - L.getD (L.length - 1) 0) ≤ y ∧ y ≤ 1000) : FindTo T (k + 1) (L ++ [k]) (F ++ [(x, y)]) (M ++ [m]) := by
 have h1 := H.lm
 have h2 := H.lf
 refine ⟨by simp [h1], by simp [h2]; omega, fun i hi => ?_, fun i hi => ?_, fun i hi => ?_, fun i hi => ?_⟩
 ·rw [getD_snoc, getD_snoc]
  simp at hi
  rw [if_pos (by omega)]
  by_cases e : i + 1 < L.length
  ·rw [if_pos e]; exact H.up i e
  ·rw [if_neg e, if_pos (by omega)]; exact H.lt i (by omega)
 ·rw [getD_snoc]
  simp at hi
  by_cases e : i < L.length
  ·rw [if_pos e]; have := H.lt i e; omega
  ·rw [if_neg e, if_pos (by omega)]; omega
 ·rw [getD_snoc, getD_snoc, h1]
  simp at hi
  by_cases e : i < L.length
  ·rw [if_pos e, if_pos e]; exact H.num i e
  ·rw [if_neg e, if_pos (by omega), if_neg e, if_pos (by omega)]; exact hm
 ·rw [getD_snoc, getD_snoc, getD_snoc, h2]
  simp at hi
  by_cases e : i + 1 < L.length
  ·rw [if_pos (by omega), if_pos e, if_pos (by omega)]; exact H.gap i e
  ·have e2 : i = L.length - 1 := by omega
   rw [if_neg (by omega), if_pos (by omega), if_pos (by omega), if_neg e, if_pos (by omega), e2]; exact hg
/-- a roll and finds that are made, with the truth -/
structure StoP (M : Nat) (d : Rd) (T : List Int) (L : List Nat) : Prop where
 n : 1 ≤ d.r.length ∧ d.r.length ≤ M
 g : GapsTo d.r.length d.r T
 f : FindTo T (d.r.length + 1) L d.f d.m
 l : 0 < L.length
/-- what Stoned answers -/
def StnAns (M d c0 : Nat) (w : World) (e : Ending) (w' : World) : Prop :=
 ∃ (rv fv mv lv : Value) (dd : Rd) (T : List Int) (L : List Nat) (c' : Nat), e = .returned (.tuple #[.agg #[rv], .agg #[fv, mv], lv]) ∧ StoP M dd T L ∧ Deck w' d c' ∧ c' ≤ c0 + 200 ∧ w.grownBy w' (some d) ∧
  (∀ r ∈ [rwS rv dd.r.length dd.r, rwS fv dd.f.length dd.f, rwI mv dd.m.length dd.m, rwI lv L.length (L.map Int.ofNat)], r.Owned w' w.heap.size) ∧
  [rwS rv dd.r.length dd.r, rwS fv dd.f.length dd.f, rwI mv dd.m.length dd.m, rwI lv L.length (L.map Int.ofNat)].Pairwise Row.Apart
end Go.Proofs.Ytobmhamdkngehaa
/-
  Plain laws for PillarRead: the true reading, one stone whose number is known, narrower gaps. No program in sight.
-/
namespace Go.Proofs.Ytobmhamdkngehaa

theorem getD_any {α : Type} {l : List α} {i : Nat} (h : i < l.length) (x y : α) : l.getD i x = l.getD i y := by
 rw [List.getD_eq_getElem?_getD, List.getD_eq_getElem?_getD, List.getElem?_eq_getElem h]; rfl
/-! The true reading. -/
theorem between_snoc (r : List (Int × Int)) {a b : Nat} (hab : a ≤ b) (hb : b < r.length) : between r a (b + 1) = between r a b ++ [r.getD b (0, 0)] := by
 unfold between
 rw [List.take_add_one, List.drop_append_of_le_length (by rw [List.length_take]; omega), List.getElem?_eq_getElem hb, List.getD_eq_getElem?_getD, List.getElem?_eq_getElem hb]
 rfl
theorem between_nil (r : List (Int × Int)) (a : Nat) : between r a a = [] := by
 unfold between
 rw [List.drop_eq_nil_iff, List.length_take]
 exact Nat.min_le_left _ _
theorem seg_between {k : Nat} {G : List (Int × Int)} {T : List Int} (H : GapsTo k G T) (a : Nat) : ∀ j, a + j ≤ k → sumLo (between G a (a + j)) ≤ seg T a j ∧ seg T a j ≤ sumHi (between G a (a + j))
 | 0, _ => by rw [Nat.add_zero, between_nil]; exact ⟨Int.le_refl _, Int.le_refl _⟩
 | j + 1, h => by
  have h1 := seg_between H a j (by omega)
  have h2 := H.h (a + j) (by omega)
  rw [← Nat.add_assoc, between_snoc G (by omega) (by rw [H.lg]; omega), sumLo_end, sumHi_end]
  unfold seg
  omega
theorem seg_fits {k : Nat} {G : List (Int × Int)} {T : List Int} (H : GapsTo k G T) {a b : Nat} (hab : a ≤ b) (hb : b ≤ k) {g : Int × Int} (h1 : g.1 ≤ seg T a (b - a)) (h2 : seg T a (b - a) ≤ g.2) : fitsB G a b g = true := by
 have h := seg_between H a (b - a) (by omega)
 rw [show a + (b - a) = b by omega] at h
 unfold fitsB
 rw [Bool.and_eq_true, decide_eq_true_eq, decide_eq_true_eq]
 omega
theorem StoP.isF {M : Nat} {d : Rd} {T : List Int} {L : List Nat} (H : StoP M d T L) : IsF d d.m.length (fun i => L.getD i 0) := by
 have hl := H.f.lm
 refine ⟨fun i hi => by have := H.f.lt i (by omega); show L.getD i 0 ≤ _; omega, fun i hi => ?_, fun i hi => H.f.up i (by omega), fun i hi => ?_⟩
 ·show canB d i (L.getD i 0) = true
  unfold canB
  rw [getD_any hi (-1) 0]
  rcases H.f.num i (by omega) with h | h <;> rw [h] <;> simp
 ·have h1 := H.f.gap i (by omega)
  have h2 := H.f.up i (by omega)
  have h3 := H.f.lt (i + 1) (by omega)
  exact seg_fits H.g (Nat.le_of_lt h2) (by omega) h1.2.1 h1.2.2.1
theorem FindTo.le_at {T : List Int} {k : Nat} {L : List Nat} {F : List (Int × Int)} {M : List Int} (H : FindTo T k L F M) : ∀ i, i < L.length → i ≤ L.getD i 0
 | 0, _ => Nat.zero_le _
 | i + 1, h => by have h1 := H.le_at i (by omega); have h2 := H.up i h; omega
theorem FindTo.len {T : List Int} {k : Nat} {L : List Nat} {F : List (Int × Int)} {M : List Int} (H : FindTo T k L F M) : L.length ≤ k := by
 by_cases h : L.length = 0
 ·omega
 ·have h1 := H.le_at (L.length - 1) (by omega)
  have h2 := H.lt (L.length - 1) (by omega)
  omega
theorem mem_getAt {α : Type} {l : List α} {x : α} (z : α) (h : x ∈ l) : ∃ i, i < l.length ∧ l.getD i z = x := by
 obtain ⟨i, hi, rfl⟩ := List.getElem_of_mem h
 exact ⟨i, hi, by rw [List.getD_eq_getElem?_getD, List.getElem?_eq_getElem hi]; rfl⟩
theorem rightS_of {s : Int × Int} {a b : Int} (h : a ≤ s.1 ∧ s.1 ≤ s.2 ∧ s.2 ≤ b) : rightS s a b = true := by
 unfold rightS
 simp [inR]
 omega
theorem rd_err {d : Rd} (h1 : 1 ≤ d.r.length ∧ d.r.length ≤ 39) (h2 : 1 ≤ d.m.length ∧ d.m.length ≤ 40) (h3 : d.f.length + 1 = d.m.length) (hr : ∀ s ∈ d.r, 1 ≤ s.1 ∧ s.1 ≤ s.2 ∧ s.2 ≤ 20000) (hf : ∀ s ∈ d.f, 1 ≤ s.1 ∧ s.1 ≤ s.2 ∧ s.2 ≤ 20000) (hm : ∀ x ∈ d.m, -1 ≤ x ∧ x ≤ d.r.length) : d.err = 0 := by
 have w : ∀ l : List (Int × Int), (∀ s ∈ l, 1 ≤ s.1 ∧ s.1 ≤ s.2 ∧ s.2 ≤ 20000) → Rd.wrongS l = false := fun l h => by
  unfold Rd.wrongS
  rw [List.any_eq_false]
  intro s hs
  rw [rightS_of (h s hs)]
  decide
 unfold Rd.err
 rw [if_neg, if_neg]
 ·rw [w _ hr, w _ hf]
  have : (d.m.any fun n => !inR n (-1) (d.r.length : Int)) = false := by
   rw [List.any_eq_false]
   intro x hx
   rw [inR_iff.2 (hm x hx)]
   decide
  rw [this]
  decide
 ·rw [inR_iff.2 (by omega : (1 : Int) ≤ (d.r.length : Int) ∧ (d.r.length : Int) ≤ 39), inR_iff.2 (by omega : (1 : Int) ≤ (d.m.length : Int) ∧ (d.m.length : Int) ≤ 40)]
  rintro (h | h | h)
  ·cases h
  ·cases h
  ·omega
theorem StoP.spans {M : Nat} {d : Rd} {T : List Int} {L : List Nat} (H : StoP M d T L) : (∀ s ∈ d.r, 1 ≤ s.1 ∧ s.1 ≤ s.2 ∧ s.2 ≤ 64) ∧ (∀ s ∈ d.f, 1 ≤ s.1 ∧ s.1 ≤ s.2 ∧ s.2 ≤ 1000) ∧ ∀ x ∈ d.m, -1 ≤ x ∧ x ≤ d.r.length := by
 refine ⟨fun s hs => ?_, fun s hs => ?_, fun x hx => ?_⟩
 ·obtain ⟨i, hi, rfl⟩ := mem_getAt (0, 0) hs
  have := H.g.h i hi
  omega
 ·obtain ⟨i, hi, rfl⟩ := mem_getAt (0, 0) hs
  have h1 := H.f.lf
  have := H.f.gap i (by omega)
  omega
 ·obtain ⟨i, hi, rfl⟩ := mem_getAt 0 hx
  have h1 := H.f.lm
  have h2 := H.f.lt i (by omega)
  rcases H.f.num i (by omega) with h | h <;> omega
theorem StoP.lens {M : Nat} {d : Rd} {T : List Int} {L : List Nat} (H : StoP M d T L) : d.m.length = L.length ∧ d.f.length + 1 = L.length ∧ 1 ≤ L.length ∧ L.length ≤ d.r.length + 1 := by
 have h1 := H.f.lm
 have h2 := H.f.lf
 have h3 := H.l
 have h4 := H.f.len
 omega
theorem total_pos {d : Rd} (h : 1 ≤ d.m.length) : 0 < total d ↔ ∃ φ, IsF d d.m.length φ := by
 rw [← rdl_total h, List.length_pos_iff_exists_mem]
 constructor
 ·rintro ⟨l, hl⟩
  exact ⟨fun i => l.getD i 0, ((mem_rdl d _ l).1 hl).2⟩
 ·rintro ⟨φ, hf⟩
  exact ⟨(List.range d.m.length).map φ, (mem_rdl d _ _).2 ⟨by simp, hf.congr fun i hi => (range_getD _ φ i hi).symm⟩⟩
/-! One stone whose number is known. -/
def setN (d : Rd) (k : Nat) (x : Int) : Rd := ⟨d.r, d.f, d.m.set k x⟩
/-! Narrower gaps. -/
def withF (d : Rd) (f : List (Int × Int)) : Rd := ⟨d.r, f, d.m⟩
end Go.Proofs.Ytobmhamdkngehaa
/-
  Plain laws for PillarBlamed: one stone that was moved between its neighbours. No program in sight.
-/
namespace Go.Proofs.Ytobmhamdkngehaa

theorem seg_add (T : List Int) (a x : Nat) : ∀ y, seg T a (x + y) = seg T a x + seg T (a + x) y
 | 0 => by simp [seg]
 | y + 1 => by
  show seg T a (x + y) + T.getD (a + (x + y)) 0 = seg T a x + (seg T (a + x) y + T.getD (a + x + y) 0)
  rw [seg_add T a x y, Nat.add_assoc a x y]
  omega
/-- the gaps F of stones of which stone k was moved; they were f -/
structure MovedF (f F : List (Int × Int)) (k : Nat) : Prop where
 len : F.length = f.length
 far : ∀ i, i ≠ k → i + 1 ≠ k → F.getD i (0, 0) = f.getD i (0, 0)
 two : 0 < k → k < f.length → (F.getD (k - 1) (0, 0)).1 + (F.getD k (0, 0)).1 = (f.getD (k - 1) (0, 0)).1 + (f.getD k (0, 0)).1 ∧ (F.getD (k - 1) (0, 0)).2 + (F.getD k (0, 0)).2 = (f.getD (k - 1) (0, 0)).2 + (f.getD k (0, 0)).2
 ok : ∀ s ∈ F, 1 ≤ s.1 ∧ s.1 ≤ s.2 ∧ s.2 ≤ 2000
theorem getD_set' {α : Type} {l : List α} {j : Nat} (hj : j < l.length) (x z : α) (i : Nat) : (l.set j x).getD i z = if i = j then x else l.getD i z := by
 rw [List.getD_eq_getElem?_getD, List.getElem?_set]
 by_cases h : i = j
 ·subst h; rw [if_pos rfl, if_pos hj, if_pos rfl]; rfl
 ·rw [if_neg (fun e => h e.symm), if_neg h, ← List.getD_eq_getElem?_getD]
theorem mem_set' {α : Type} {l : List α} {j : Nat} {x y : α} (h : y ∈ l.set j x) : y ∈ l ∨ y = x := List.mem_or_eq_of_mem_set h
theorem moved_last {f : List (Int × Int)} {k : Nat} {x y : Int} (hk : 0 < k) (hf : k = f.length) (ho : ∀ s ∈ f, 1 ≤ s.1 ∧ s.1 ≤ s.2 ∧ s.2 ≤ 1000) (h : 1 ≤ x ∧ x ≤ y ∧ y ≤ 2000) : MovedF f (f.set (k - 1) (x, y)) k := by
 refine ⟨List.length_set, fun i h1 h2 => ?_, fun _ h2 => by omega, fun s hs => ?_⟩
 ·rw [getD_set' (by omega), if_neg (by omega)]
 ·rcases mem_set' hs with h1 | rfl
  ·have := ho s h1; omega
  ·exact h
theorem moved_first {f : List (Int × Int)} {x y : Int} (hf : 0 < f.length) (ho : ∀ s ∈ f, 1 ≤ s.1 ∧ s.1 ≤ s.2 ∧ s.2 ≤ 1000) (h : 1 ≤ x ∧ x ≤ y ∧ y ≤ 2000) : MovedF f (f.set 0 (x, y)) 0 := by
 refine ⟨List.length_set, fun i h1 h2 => ?_, fun h _ => absurd h (Nat.lt_irrefl _), fun s hs => ?_⟩
 ·rw [getD_set' (by omega), if_neg (by omega)]
 ·rcases mem_set' hs with h1 | rfl
  ·have := ho s h1; omega
  ·exact h
theorem moved_mid {f : List (Int × Int)} {k : Nat} {x y x' y' : Int} (hk : 0 < k) (hf : k < f.length) (ho : ∀ s ∈ f, 1 ≤ s.1 ∧ s.1 ≤ s.2 ∧ s.2 ≤ 1000) (h : 1 ≤ x ∧ x ≤ y ∧ y ≤ 2000) (h' : 1 ≤ x' ∧ x' ≤ y' ∧ y' ≤ 2000)
  (hx : x + x' = (f.getD (k - 1) (0, 0)).1 + (f.getD k (0, 0)).1) (hy : y + y' = (f.getD (k - 1) (0, 0)).2 + (f.getD k (0, 0)).2) : MovedF f ((f.set (k - 1) (x, y)).set k (x', y')) k := by
 have hl : (f.set (k - 1) (x, y)).length = f.length := List.length_set
 refine ⟨by rw [List.length_set, hl], fun i h1 h2 => ?_, fun _ _ => ?_, fun s hs => ?_⟩
 ·rw [getD_set' (by omega), if_neg h1, getD_set' (by omega), if_neg (by omega)]
 ·rw [getD_set' (by omega), if_neg (by omega), getD_set' (by omega), if_pos rfl, getD_set' (by omega), if_pos rfl]
  exact ⟨hx, hy⟩
 ·rcases mem_set' hs with h1 | rfl
  ·rcases mem_set' h1 with h1 | rfl
   ·have := ho s h1; omega
   ·exact h
  ·exact h'
theorem getD_erase {α : Type} (l : List α) (k i : Nat) (z : α) : (l.eraseIdx k).getD i z = l.getD (if i < k then i else i + 1) z := by
 rw [List.getD_eq_getElem?_getD, List.getElem?_eraseIdx, List.getD_eq_getElem?_getD]
 by_cases h : i < k
 ·rw [if_pos h, if_pos h]
 ·rw [if_neg h, if_neg h]
theorem moved_at {f F : List (Int × Int)} {k : Nat} (H : MovedF f F k) (hk : k ≤ f.length) {i : Nat} (hi : i + 1 < f.length) :
  (woF F k).getD i (0, 0) = if i + 1 = k then ((f.getD (k - 1) (0, 0)).1 + (f.getD k (0, 0)).1, (f.getD (k - 1) (0, 0)).2 + (f.getD k (0, 0)).2) else f.getD (if i < k then i else i + 1) (0, 0) := by
 have hl := H.len
 unfold woF
 by_cases h0 : k = 0
 ·subst h0
  rw [if_pos rfl, if_neg (by omega), if_neg (by omega), List.getD_eq_getElem?_getD, List.getElem?_drop, ← List.getD_eq_getElem?_getD, Nat.add_comm 1 i]
  exact H.far _ (by omega) (by omega)
 ·rw [if_neg h0]
  by_cases h1 : k = F.length
  ·rw [if_pos h1, if_neg (by omega), if_pos (by omega), List.getD_eq_getElem?_getD, List.getElem?_take, if_pos (by omega), ← List.getD_eq_getElem?_getD]
   exact H.far _ (by omega) (by omega)
  ·rw [if_neg h1, getD_erase, getD_set' (by omega)]
   by_cases h2 : i + 1 = k
   ·rw [if_pos h2, if_pos (show i < k by omega), if_pos (by omega)]
    have := H.two (by omega) (by omega)
    exact Prod.ext this.1 this.2
   ·rw [if_neg h2]
    by_cases h3 : i < k
    ·rw [if_pos h3, if_neg (by omega)]; exact H.far _ (by omega) (by omega)
    ·rw [if_neg h3, if_neg (by omega)]; exact H.far _ (by omega) (by omega)
/-- without the stone that was moved there is a reading -/
theorem moved_reads {M : Nat} {d : Rd} {T : List Int} {L : List Nat} (H : StoP M d T L) {F : List (Int × Int)} {k : Nat} (hF : MovedF d.f F k) (hk : k < d.m.length) (h2 : 2 ≤ d.m.length) : 0 < total (wo (withF d F) k) := by
 have hl := H.lens
 have hm : (wo (withF d F) k).m.length = d.m.length - 1 := by
  show (d.m.eraseIdx k).length = _
  rw [List.length_eraseIdx, if_pos hk]
 have hup : ∀ i, i + 1 < L.length → L.getD i 0 < L.getD (i + 1) 0 := H.f.up
 rw [total_pos (by omega), hm]
 have gp := H.f.gap
 have hlt := H.f.lt
 have fit : ∀ i, i + 1 < L.length → fitsB d.r (L.getD i 0) (L.getD (i + 1) 0) (d.f.getD i (0, 0)) = true := fun i hi => H.isF.fit i (by omega)
 refine ⟨fun i => L.getD (if i < k then i else i + 1) 0, fun i hi => ?_, fun i hi => ?_, fun i hi => ?_, fun i hi => ?_⟩
 ·show L.getD (if i < k then i else i + 1) 0 ≤ d.r.length
  split
  ·have := hlt i (by omega); omega
  ·have := hlt (i + 1) (by omega); omega
 ·have hc : ∀ j, j < L.length → canB d j (L.getD j 0) = true := fun j hj => H.isF.can j (by omega)
  show (decide ((d.m.eraseIdx k).getD i (-1) = -1) || decide ((d.m.eraseIdx k).getD i (-1) = ((L.getD (if i < k then i else i + 1) 0 : Nat) : Int))) = true
  rw [getD_erase]
  exact hc _ (by split <;> omega)
 ·show L.getD (if i < k then i else i + 1) 0 < L.getD (if i + 1 < k then i + 1 else i + 1 + 1) 0
  by_cases h1 : i + 1 < k
  ·rw [if_pos h1, if_pos (by omega)]; exact hup i (by omega)
  ·rw [if_neg h1]
   by_cases h3 : i < k
   ·rw [if_pos h3]
    have e1 := hup i (by omega)
    have e2 := hup (i + 1) (by omega)
    omega
   ·rw [if_neg h3]; exact hup (i + 1) (by omega)
 ·show fitsB d.r (L.getD (if i < k then i else i + 1) 0) (L.getD (if i + 1 < k then i + 1 else i + 1 + 1) 0) ((woF F k).getD i (0, 0)) = true
  rw [moved_at hF (by omega) (by omega)]
  by_cases h1 : i + 1 = k
  ·rw [if_pos h1, if_pos (by omega), if_neg (by omega)]
   have e1 := hup i (by omega)
   have e2 := hup (i + 1) (by omega)
   have g1 := gp i (by omega)
   have g2 := gp (i + 1) (by omega)
   have hs := seg_add T (L.getD i 0) (L.getD (i + 1) 0 - L.getD i 0) (L.getD (i + 1 + 1) 0 - L.getD (i + 1) 0)
   rw [show L.getD (i + 1) 0 - L.getD i 0 + (L.getD (i + 1 + 1) 0 - L.getD (i + 1) 0) = L.getD (i + 1 + 1) 0 - L.getD i 0 by omega, show L.getD i 0 + (L.getD (i + 1) 0 - L.getD i 0) = L.getD (i + 1) 0 by omega] at hs
   have h9 := hlt (i + 1 + 1) (by omega)
   rw [show k - 1 = i by omega, ← h1]
   refine seg_fits H.g (by omega) (by omega) ?_ ?_
   ·show (d.f.getD i (0, 0)).1 + (d.f.getD (i + 1) (0, 0)).1 ≤ _
    omega
   ·show _ ≤ (d.f.getD i (0, 0)).2 + (d.f.getD (i + 1) (0, 0)).2
    omega
  ·rw [if_neg h1]
   by_cases h3 : i < k
   ·rw [if_pos h3, if_pos (by omega)]; exact fit i (by omega)
   ·rw [if_neg h3, if_neg (by omega)]; exact fit (i + 1) (by omega)
theorem moved_err {M : Nat} {d : Rd} {T : List Int} {L : List Nat} (hM : M ≤ 12) (H : StoP M d T L) {F : List (Int × Int)} {k : Nat} (hF : MovedF d.f F k) : (withF d F).err = 0 := by
 have hl := H.lens
 have hn := H.n
 have hk := hF.len
 obtain ⟨s1, s2, s3⟩ := H.spans
 exact rd_err (d := withF d F) ⟨hn.1, by show d.r.length ≤ 39; omega⟩ (by show 1 ≤ d.m.length ∧ d.m.length ≤ 40; omega) (by show F.length + 1 = d.m.length; omega) (fun s hs => by have := s1 s hs; omega) (fun s hs => by have := hF.ok s hs; omega) s3
theorem moved_wo_err {M : Nat} {d : Rd} {T : List Int} {L : List Nat} (hM : M ≤ 12) (H : StoP M d T L) {F : List (Int × Int)} {k : Nat} (hF : MovedF d.f F k) {i : Nat} (hi : i < d.m.length) (h2 : 2 ≤ d.m.length) : (wo (withF d F) i).err = 0 := by
 have hl := H.lens
 have hn := H.n
 have hk := hF.len
 obtain ⟨s1, s2, s3⟩ := H.spans
 have hm : (wo (withF d F) i).m.length = d.m.length - 1 := by
  show (d.m.eraseIdx i).length = _
  rw [List.length_eraseIdx, if_pos hi]
 have hfl : (wo (withF d F) i).f.length = F.length - 1 := woF_len (show i < F.length + 1 by omega)
 refine rd_err ⟨hn.1, by show d.r.length ≤ 39; omega⟩ (by omega) (by omega) (fun s hs => by have := s1 s hs; omega) (fun s hs => ?_) (fun x hx => s3 x (List.mem_of_mem_eraseIdx hx))
 rcases woF_mem (show i < F.length + 1 by omega) hs with h | ⟨h3, h4, rfl⟩
 ·have := hF.ok s h; omega
 ·have e1 := hF.ok _ (getD_mem (z := (0, 0)) (show i - 1 < F.length by omega))
  have e2 := hF.ok _ (getD_mem (z := (0, 0)) (show i < F.length by omega))
  show 1 ≤ (F.getD (i - 1) (0, 0)).1 + (F.getD i (0, 0)).1 ∧ (F.getD (i - 1) (0, 0)).1 + (F.getD i (0, 0)).1 ≤ (F.getD (i - 1) (0, 0)).2 + (F.getD i (0, 0)).2 ∧ (F.getD (i - 1) (0, 0)).2 + (F.getD i (0, 0)).2 ≤ 20000
  omega
/-- stones that are named -/
theorem mem_wrong {d : Rd} {n : Nat} {x : Int} : x ∈ wrongTo d n ↔ ∃ i : Nat, i < n ∧ x = (i : Int) ∧ 0 < total (wo d i) := by
 unfold wrongTo
 rw [List.mem_map]
 constructor
 ·rintro ⟨y, hy, rfl⟩
  rw [List.mem_filter, List.mem_range, decide_eq_true_eq] at hy
  exact ⟨y, hy.1, rfl, hy.2⟩
 ·rintro ⟨y, h1, rfl, h2⟩
  exact ⟨y, List.mem_filter.2 ⟨List.mem_range.2 h1, by rw [decide_eq_true_eq]; exact h2⟩, rfl⟩
end Go.Proofs.Ytobmhamdkngehaa
