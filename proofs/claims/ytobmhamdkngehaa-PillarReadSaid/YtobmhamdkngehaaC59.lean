/-
  Parts of the proof, in the order in which they build: PsB, PsC, PsD.
-/
import Derived.Test.YtobmhamdkngehaaA58
import Derived.Test.YtobmhamdkngehaaC1
import Derived.Test.YtobmhamdkngehaaD34
import Derived.Test.YtobmhamdkngehaaA10
set_option linter.unusedVariables false
set_option linter.unusedSimpArgs false
/-
  A roll and finds that are made, with the truth: plain.
-/
namespace Go.Proofs.Ytobmhamdkngehaa
open Go.RowKit Go.Shelf
open Lim

/-- how long it is from a on, over j distances -/
def seg (T : List Int) (a : Nat) : Nat → Int
 | 0 => 0
 | j + 1 => seg T a j + T.getD (a + j) 0
structure GapsTo (k : Nat) (G : List (Int × Int)) (T : List Int) : Prop where
 lg : G.length = k
 lt : T.length = k
 h : ∀ i, i < k → 1 ≤ (G.getD i (0, 0)).1 ∧ (G.getD i (0, 0)).1 ≤ T.getD i 0 ∧ T.getD i 0 ≤ (G.getD i (0, 0)).2 ∧ (G.getD i (0, 0)).2 ≤ 64 ∧ 5 ≤ T.getD i 0 ∧ T.getD i 0 ≤ 60
theorem GapsTo.nil : GapsTo 0 [] [] := ⟨rfl, rfl, fun i hi => absurd hi (Nat.not_lt_zero _)⟩
theorem GapsTo.snoc {k : Nat} {G : List (Int × Int)} {T : List Int} (H : GapsTo k G T) {x y n : Int} (h : 1 ≤ x ∧ x ≤ n ∧ n ≤ y ∧ y ≤ 64) (hn : 5 ≤ n ∧ n ≤ 60) : GapsTo (k + 1) (G ++ [(x, y)]) (T ++ [n]) := by
 refine ⟨by simp [H.lg], by simp [H.lt], fun i hi => ?_⟩
 rw [getD_snoc, getD_snoc, H.lg, H.lt]
 by_cases e : i < k
 ·rw [if_pos e, if_pos e]; exact H.h i e
 ·rw [if_neg e, if_neg e, if_pos (by omega), if_pos (by omega)]; exact ⟨h.1, h.2.1, h.2.2.1, h.2.2.2, hn⟩
theorem seg_range {k : Nat} {G : List (Int × Int)} {T : List Int} (H : GapsTo k G T) (a : Nat) : ∀ j, a + j ≤ k → 5 * (j : Int) ≤ seg T a j ∧ seg T a j ≤ 60 * (j : Int)
 | 0, _ => by simp [seg]
 | j + 1, h => by
  have h1 := seg_range H a j (by omega)
  have h2 := H.h (a + j) (by omega)
  unfold seg
  omega
/-- stones L that are found among the first k pillars, with gaps F and numbers M -/
structure FindTo (T : List Int) (k : Nat) (L : List Nat) (F : List (Int × Int)) (M : List Int) : Prop where
 lm : M.length = L.length
 lf : F.length = L.length - 1
 up : ∀ i, i + 1 < L.length → L.getD i 0 < L.getD (i + 1) 0
 lt : ∀ i, i < L.length → L.getD i 0 < k
 num : ∀ i, i < L.length → M.getD i 0 = -1 ∨ M.getD i 0 = (L.getD i 0 : Int)
 gap : ∀ i, i + 1 < L.length → 1 ≤ (F.getD i (0, 0)).1 ∧ (F.getD i (0, 0)).1 ≤ seg T (L.getD i 0) (L.getD (i + 1) 0 - L.getD i 0) ∧ seg T (L.getD i 0) (L.getD (i + 1) 0 - L.getD i 0) ≤ (F.getD i (0, 0)).2 ∧ (F.getD i (0, 0)).2 ≤ 1000
theorem FindTo.nil (T : List Int) : FindTo T 0 [] [] [] := ⟨rfl, rfl, fun i hi => absurd hi (Nat.not_lt_zero _), fun i hi => absurd hi (Nat.not_lt_zero _), fun i hi => absurd hi (Nat.not_lt_zero _), fun i hi => absurd hi (Nat.not_lt_zero _)⟩
theorem FindTo.skip {T : List Int} {k : Nat} {L : List Nat} {F : List (Int × Int)} {M : List Int} (H : FindTo T k L F M) : FindTo T (k + 1) L F M := ⟨H.lm, H.lf, H.up, fun i hi => by have := H.lt i hi; omega, H.num, H.gap⟩
theorem FindTo.first {T : List Int} {k : Nat} {F : List (Int × Int)} {M : List Int} (H : FindTo T k [] F M) {m : Int} (hm : m = -1 ∨ m = (k : Int)) : FindTo T (k + 1) ([] ++ [k]) F (M ++ [m]) := by
 have h1 := H.lm
 have h2 := H.lf
 have e : M = [] := List.length_eq_zero_iff.1 h1
 subst e
 refine ⟨rfl, h2, fun i hi => by simp at hi, fun i hi => ?_, fun i hi => ?_, fun i hi => by simp at hi⟩
 ·have : i = 0 := by simpa using hi
  subst this
  exact Nat.lt_succ_self _
 ·have : i = 0 := by simpa using hi
  subst this
  exact hm
theorem FindTo.snoc {T : List Int} {k : Nat} {L : List Nat} {F : List (Int × Int)} {M : List Int} (H : FindTo T k L F M) (hL : 0 < L.length) {m : Int} (hm : m = -1 ∨ m = (k : Int)) {x y : Int}
  (hg : 1 ≤ x ∧ x ≤ seg T (L.getD (L.length - 1) 0) (k - L.getD (L.length - 1) 0) ∧ seg T (L.getD (L.length - 1) 0) (k - L.getD (L.length - 1) 0) ≤ y ∧ y ≤ 1000) : FindTo T (k + 1) (L ++ [k]) (F ++ [(x, y)]) (M ++ [m]) := by
 have h1 := H.lm
 have h2 := H.lf
 refine ⟨by simp [h1], by simp [h2]; omega, fun i hi => ?_, fun i hi => ?_, fun i hi => ?_, fun i hi => ?_⟩
 ·rw [getD_snoc, getD_snoc]
  simp at hi
  rw [if_pos (by omega)]
  by_cases e : i + 1 < L.length
  ·rw [if_pos e]; exact H.up i e
  ·rw [if_neg e, if_pos (by omega)]; exact H.lt i (by omega)
 ·rw [getD_snoc]
  simp at hi
  by_cases e : i < L.length
  ·rw [if_pos e]; have := H.lt i e; omega
  ·rw [if_neg e, if_pos (by omega)]; omega
 ·rw [getD_snoc, getD_snoc, h1]
  simp at hi
  by_cases e : i < L.length
  ·rw [if_pos e, if_pos e]; exact H.num i e
  ·rw [if_neg e, if_pos (by omega), if_neg e, if_pos (by omega)]; exact hm
 ·rw [getD_snoc, getD_snoc, getD_snoc, h2]
  simp at hi
  by_cases e : i + 1 < L.length
  ·rw [if_pos (by omega), if_pos e, if_pos (by omega)]; exact H.gap i e
  ·have e2 : i = L.length - 1 := by omega
   rw [if_neg (by omega), if_pos (by omega), if_pos (by omega), if_neg e, if_pos (by omega), e2]; exact hg
/-- a roll and finds that are made, with the truth -/
structure StoP (M : Nat) (d : Rd) (T : List Int) (L : List Nat) : Prop where
 n : 1 ≤ d.r.length ∧ d.r.length ≤ M
 g : GapsTo d.r.length d.r T
 f : FindTo T (d.r.length + 1) L d.f d.m
 l : 0 < L.length
/-- what Stoned answers -/
def StnAns (M d c0 : Nat) (w : World) (e : Ending) (w' : World) : Prop :=
 ∃ (rv fv mv lv : Value) (dd : Rd) (T : List Int) (L : List Nat) (c' : Nat), e = .returned (.tuple #[.agg #[rv], .agg #[fv, mv], lv]) ∧ StoP M dd T L ∧ Deck w' d c' ∧ c' ≤ c0 + 200 ∧ w.grownBy w' (some d) ∧
  (∀ r ∈ [rwS rv dd.r.length dd.r, rwS fv dd.f.length dd.f, rwI mv dd.m.length dd.m, rwI lv L.length (L.map Int.ofNat)], r.Owned w' w.heap.size) ∧
  [rwS rv dd.r.length dd.r, rwS fv dd.f.length dd.f, rwI mv dd.m.length dd.m, rwI lv L.length (L.map Int.ofNat)].Pairwise Row.Apart
end Go.Proofs.Ytobmhamdkngehaa
/-
  Plain laws for PillarRead: the true reading, one stone whose number is known, narrower gaps. No program in sight.
-/
namespace Go.Proofs.Ytobmhamdkngehaa

theorem getD_any {α : Type} {l : List α} {i : Nat} (h : i < l.length) (x y : α) : l.getD i x = l.getD i y := by
 rw [List.getD_eq_getElem?_getD, List.getD_eq_getElem?_getD, List.getElem?_eq_getElem h]; rfl
/-! The true reading. -/
theorem between_snoc (r : List (Int × Int)) {a b : Nat} (hab : a ≤ b) (hb : b < r.length) : between r a (b + 1) = between r a b ++ [r.getD b (0, 0)] := by
 unfold between
 rw [List.take_add_one, List.drop_append_of_le_length (by rw [List.length_take]; omega), List.getElem?_eq_getElem hb, List.getD_eq_getElem?_getD, List.getElem?_eq_getElem hb]
 rfl
theorem between_nil (r : List (Int × Int)) (a : Nat) : between r a a = [] := by
 unfold between
 rw [List.drop_eq_nil_iff, List.length_take]
 exact Nat.min_le_left _ _
theorem seg_between {k : Nat} {G : List (Int × Int)} {T : List Int} (H : GapsTo k G T) (a : Nat) : ∀ j, a + j ≤ k → sumLo (between G a (a + j)) ≤ seg T a j ∧ seg T a j ≤ sumHi (between G a (a + j))
 | 0, _ => by rw [Nat.add_zero, between_nil]; exact ⟨Int.le_refl _, Int.le_refl _⟩
 | j + 1, h => by
  have h1 := seg_between H a j (by omega)
  have h2 := H.h (a + j) (by omega)
  rw [← Nat.add_assoc, between_snoc G (by omega) (by rw [H.lg]; omega), sumLo_end, sumHi_end]
  unfold seg
  omega
theorem seg_fits {k : Nat} {G : List (Int × Int)} {T : List Int} (H : GapsTo k G T) {a b : Nat} (hab : a ≤ b) (hb : b ≤ k) {g : Int × Int} (h1 : g.1 ≤ seg T a (b - a)) (h2 : seg T a (b - a) ≤ g.2) : fitsB G a b g = true := by
 have h := seg_between H a (b - a) (by omega)
 rw [show a + (b - a) = b by omega] at h
 unfold fitsB
 rw [Bool.and_eq_true, decide_eq_true_eq, decide_eq_true_eq]
 omega
theorem StoP.isF {M : Nat} {d : Rd} {T : List Int} {L : List Nat} (H : StoP M d T L) : IsF d d.m.length (fun i => L.getD i 0) := by
 have hl := H.f.lm
 refine ⟨fun i hi => by have := H.f.lt i (by omega); show L.getD i 0 ≤ _; omega, fun i hi => ?_, fun i hi => H.f.up i (by omega), fun i hi => ?_⟩
 ·show canB d i (L.getD i 0) = true
  unfold canB
  rw [getD_any hi (-1) 0]
  rcases H.f.num i (by omega) with h | h <;> rw [h] <;> simp
 ·have h1 := H.f.gap i (by omega)
  have h2 := H.f.up i (by omega)
  have h3 := H.f.lt (i + 1) (by omega)
  exact seg_fits H.g (Nat.le_of_lt h2) (by omega) h1.2.1 h1.2.2.1
theorem FindTo.le_at {T : List Int} {k : Nat} {L : List Nat} {F : List (Int × Int)} {M : List Int} (H : FindTo T k L F M) : ∀ i, i < L.length → i ≤ L.getD i 0
 | 0, _ => Nat.zero_le _
 | i + 1, h => by have h1 := H.le_at i (by omega); have h2 := H.up i h; omega
theorem FindTo.len {T : List Int} {k : Nat} {L : List Nat} {F : List (Int × Int)} {M : List Int} (H : FindTo T k L F M) : L.length ≤ k := by
 by_cases h : L.length = 0
 ·omega
 ·have h1 := H.le_at (L.length - 1) (by omega)
  have h2 := H.lt (L.length - 1) (by omega)
  omega
theorem mem_getAt {α : Type} {l : List α} {x : α} (z : α) (h : x ∈ l) : ∃ i, i < l.length ∧ l.getD i z = x := by
 obtain ⟨i, hi, rfl⟩ := List.getElem_of_mem h
 exact ⟨i, hi, by rw [List.getD_eq_getElem?_getD, List.getElem?_eq_getElem hi]; rfl⟩
theorem rightS_of {s : Int × Int} {a b : Int} (h : a ≤ s.1 ∧ s.1 ≤ s.2 ∧ s.2 ≤ b) : rightS s a b = true := by
 unfold rightS
 simp [inR]
 omega
theorem rd_err {d : Rd} (h1 : 1 ≤ d.r.length ∧ d.r.length ≤ 39) (h2 : 1 ≤ d.m.length ∧ d.m.length ≤ 40) (h3 : d.f.length + 1 = d.m.length) (hr : ∀ s ∈ d.r, 1 ≤ s.1 ∧ s.1 ≤ s.2 ∧ s.2 ≤ 20000) (hf : ∀ s ∈ d.f, 1 ≤ s.1 ∧ s.1 ≤ s.2 ∧ s.2 ≤ 20000) (hm : ∀ x ∈ d.m, -1 ≤ x ∧ x ≤ d.r.length) : d.err = 0 := by
 have w : ∀ l : List (Int × Int), (∀ s ∈ l, 1 ≤ s.1 ∧ s.1 ≤ s.2 ∧ s.2 ≤ 20000) → Rd.wrongS l = false := fun l h => by
  unfold Rd.wrongS
  rw [List.any_eq_false]
  intro s hs
  rw [rightS_of (h s hs)]
  decide
 unfold Rd.err
 rw [if_neg, if_neg]
 ·rw [w _ hr, w _ hf]
  have : (d.m.any fun n => !inR n (-1) (d.r.length : Int)) = false := by
   rw [List.any_eq_false]
   intro x hx
   rw [inR_iff.2 (hm x hx)]
   decide
  rw [this]
  decide
 ·rw [inR_iff.2 (by omega : (1 : Int) ≤ (d.r.length : Int) ∧ (d.r.length : Int) ≤ 39), inR_iff.2 (by omega : (1 : Int) ≤ (d.m.length : Int) ∧ (d.m.length : Int) ≤ 40)]
  rintro (h | h | h)
  ·cases h
  ·cases h
  ·omega
theorem StoP.spans {M : Nat} {d : Rd} {T : List Int} {L : List Nat} (H : StoP M d T L) : (∀ s ∈ d.r, 1 ≤ s.1 ∧ s.1 ≤ s.2 ∧ s.2 ≤ 64) ∧ (∀ s ∈ d.f, 1 ≤ s.1 ∧ s.1 ≤ s.2 ∧ s.2 ≤ 1000) ∧ ∀ x ∈ d.m, -1 ≤ x ∧ x ≤ d.r.length := by
 refine ⟨fun s hs => ?_, fun s hs => ?_, fun x hx => ?_⟩
 ·obtain ⟨i, hi, rfl⟩ := mem_getAt (0, 0) hs
  have := H.g.h i hi
  omega
 ·obtain ⟨i, hi, rfl⟩ := mem_getAt (0, 0) hs
  have h1 := H.f.lf
  have := H.f.gap i (by omega)
  omega
 ·obtain ⟨i, hi, rfl⟩ := mem_getAt 0 hx
  have h1 := H.f.lm
  have h2 := H.f.lt i (by omega)
  rcases H.f.num i (by omega) with h | h <;> omega
theorem StoP.lens {M : Nat} {d : Rd} {T : List Int} {L : List Nat} (H : StoP M d T L) : d.m.length = L.length ∧ d.f.length + 1 = L.length ∧ 1 ≤ L.length ∧ L.length ≤ d.r.length + 1 := by
 have h1 := H.f.lm
 have h2 := H.f.lf
 have h3 := H.l
 have h4 := H.f.len
 omega
theorem StoP.err {M : Nat} {d : Rd} {T : List Int} {L : List Nat} (hM : M ≤ 12) (H : StoP M d T L) : d.err = 0 := by
 have hl := H.lens
 have hn := H.n
 obtain ⟨s1, s2, s3⟩ := H.spans
 exact rd_err (by omega) (by omega) (by omega) (fun s hs => by have := s1 s hs; omega) (fun s hs => by have := s2 s hs; omega) s3
theorem total_pos {d : Rd} (h : 1 ≤ d.m.length) : 0 < total d ↔ ∃ φ, IsF d d.m.length φ := by
 rw [← rdl_total h, List.length_pos_iff_exists_mem]
 constructor
 ·rintro ⟨l, hl⟩
  exact ⟨fun i => l.getD i 0, ((mem_rdl d _ l).1 hl).2⟩
 ·rintro ⟨φ, hf⟩
  exact ⟨(List.range d.m.length).map φ, (mem_rdl d _ _).2 ⟨by simp, hf.congr fun i hi => (range_getD _ φ i hi).symm⟩⟩
theorem StoP.pos {M : Nat} {d : Rd} {T : List Int} {L : List Nat} (H : StoP M d T L) : 0 < total d :=
 (total_pos (by have := H.lens; omega)).2 ⟨_, H.isF⟩
theorem StoP.rdLen {M : Nat} {d : Rd} {T : List Int} {L : List Nat} (H : StoP M d T L) : RdLen d := ⟨by have := H.lens; omega, by have := H.lens; omega, H.spans.2.2⟩
theorem isF_nums {d : Rd} (h : RdLen d) {φ : Nat → Nat} (hf : IsF d d.m.length φ) {k : Nat} (hk : k < d.m.length) : 0 < tabTo d d.m.length 0 k (φ k) ∧ 0 < behT d k (φ k) :=
 (nums_rdl h hk (hf.le k hk)).2 ⟨(List.range d.m.length).map φ, (mem_rdl d _ _).2 ⟨by simp, hf.congr fun i hi => (range_getD _ φ i hi).symm⟩, range_getD _ φ k hk⟩
theorem mem_nums {d : Rd} {k : Nat} {x : Int} : x ∈ nums d k ↔ ∃ y : Nat, y ≤ d.r.length ∧ x = (y : Int) ∧ 0 < tabTo d d.m.length 0 k y ∧ 0 < behT d k y := by
 unfold nums numsTo
 rw [List.mem_map]
 constructor
 ·rintro ⟨y, hy, rfl⟩
  rw [List.mem_filter, List.mem_range, Bool.and_eq_true, decide_eq_true_eq, decide_eq_true_eq] at hy
  exact ⟨y, by omega, rfl, hy.2⟩
 ·rintro ⟨y, h1, rfl, h2⟩
  exact ⟨y, List.mem_filter.2 ⟨List.mem_range.2 (by omega), by rw [Bool.and_eq_true, decide_eq_true_eq, decide_eq_true_eq]; exact h2⟩, rfl⟩
/-- what a stone really is, is among its numbers -/
theorem StoP.mem {M : Nat} {d : Rd} {T : List Int} {L : List Nat} (H : StoP M d T L) {k : Nat} (hk : k < d.m.length) : ((L.getD k 0 : Nat) : Int) ∈ nums d k :=
 mem_nums.2 ⟨L.getD k 0, H.isF.le k hk, rfl, isF_nums H.rdLen H.isF hk⟩
/-! One stone whose number is known. -/
def rs (n : Nat) (f : Nat → Nat) : Nat := ((List.range n).map f).sum
theorem rs_zero (f : Nat → Nat) : rs 0 f = 0 := rfl
theorem rs_succ (n : Nat) (f : Nat → Nat) : rs (n + 1) f = rs n f + f n := by unfold rs; rw [List.range_succ, List.map_append, List.sum_append]; simp
theorem rs_congr {f g : Nat → Nat} : ∀ n, (∀ a, a < n → f a = g a) → rs n f = rs n g
 | 0, _ => rfl
 | n + 1, h => by rw [rs_succ, rs_succ, rs_congr n (fun a ha => h a (by omega)), h n (by omega)]
theorem rs_le {f g : Nat → Nat} : ∀ n, (∀ a, a < n → f a ≤ g a) → rs n f ≤ rs n g
 | 0, _ => Nat.le_refl _
 | n + 1, h => by rw [rs_succ, rs_succ]; have h1 := rs_le n (fun a ha => h a (by omega)); have h2 := h n (by omega); omega
theorem rs_none : ∀ n, rs n (fun _ => 0) = 0
 | 0 => rfl
 | n + 1 => by rw [rs_succ, rs_none n]
theorem rs_add (f g : Nat → Nat) : ∀ n, rs n (fun a => f a + g a) = rs n f + rs n g
 | 0 => rfl
 | n + 1 => by rw [rs_succ, rs_succ, rs_succ, rs_add f g n]; omega
theorem rs_swap (f : Nat → Nat → Nat) (m : Nat) : ∀ n, rs n (fun a => rs m (f a)) = rs m fun x => rs n fun a => f a x
 | 0 => (rs_none m).symm
 | n + 1 => by
  rw [rs_succ, rs_swap f m n, ← rs_add]
  exact rs_congr m fun x _ => (rs_succ n fun a => f a x).symm
theorem rs_one (g : Nat → Nat) (b : Nat) : ∀ n, rs n (fun x => if x = b then g x else 0) = if b < n then g b else 0
 | 0 => rfl
 | n + 1 => by
  rw [rs_succ, rs_one g b n]
  by_cases h : n = b
  ·subst h; rw [if_neg (by omega), if_pos rfl, if_pos (by omega), Nat.zero_add]
  ·rw [if_neg h]
   by_cases h2 : b < n
   ·rw [if_pos h2, if_pos (by omega)]; rfl
   ·rw [if_neg h2, if_neg (by omega)]
def setN (d : Rd) (k : Nat) (x : Int) : Rd := ⟨d.r, d.f, d.m.set k x⟩
theorem can_set {d : Rd} {k : Nat} (hk : k < d.m.length) (x i b : Nat) : canB (setN d k x) i b = if i = k then decide (x = b) else canB d i b := by
 unfold canB
 show (decide ((d.m.set k (x : Int)).getD i (-1) = -1) || decide ((d.m.set k (x : Int)).getD i (-1) = (b : Int))) = _
 rw [List.getD_eq_getElem?_getD, List.getElem?_set]
 by_cases h : i = k
 ·subst h
  rw [if_pos rfl, if_pos hk, if_pos rfl]
  simp
  omega
 ·rw [if_neg (fun e => h e.symm), if_neg h, ← List.getD_eq_getElem?_getD]
/-- how many readings of the stones ahead of k there are for stone k at b -/
def core (d : Rd) : Nat → Nat → Nat
 | 0, _ => 1
 | k + 1, b => rs b fun a => if fitsB d.r a b (d.f.getD k (0, 0)) then cnt d k a else 0
theorem cnt_core (d : Rd) : ∀ k b, cnt d k b = if canB d k b then core d k b else 0
 | 0, b => by rw [cnt, core]
 | k + 1, b => by rw [cnt, core]; rfl
theorem cnt_low {d : Rd} {k : Nat} (hk : k < d.m.length) (x : Nat) : ∀ i b, i < k → cnt (setN d k x) i b = cnt d i b
 | 0, b, h => by rw [cnt, cnt, can_set hk, if_neg (show ¬ 0 = k by omega)]
 | i + 1, b, h => by
  rw [cnt_core, cnt_core, can_set hk, if_neg (show ¬ i + 1 = k by omega)]
  have e : core (setN d k x) (i + 1) b = core d (i + 1) b := rs_congr b fun a _ => by
   show (if fitsB d.r a b (d.f.getD i (0, 0)) then cnt (setN d k x) i a else 0) = _
   rw [cnt_low hk x i a (by omega)]
  rw [e]
theorem core_at {d : Rd} {k : Nat} (hk : k < d.m.length) (x b : Nat) : core (setN d k x) k b = core d k b := by
 cases k with
 | zero => rfl
 | succ i =>
  refine rs_congr b fun a _ => ?_
  show (if fitsB d.r a b (d.f.getD i (0, 0)) then cnt (setN d (i + 1) x) i a else 0) = _
  rw [cnt_low hk x i a (by omega)]
theorem cnt_split {d : Rd} {k : Nat} (hk : k < d.m.length) : ∀ t b, b ≤ d.r.length → cnt d (k + t) b = rs (d.r.length + 1) fun x => if canB d k x then cnt (setN d k x) (k + t) b else 0
 | 0, b, hb => by
  rw [Nat.add_zero, cnt_core]
  have h : ∀ x, x < d.r.length + 1 → (if canB d k x then cnt (setN d k x) k b else 0) = if x = b then (if canB d k x then core d k x else 0) else 0 := fun x _ => by
   rw [cnt_core, can_set hk, if_pos rfl, core_at hk]
   by_cases e : x = b
   ·subst e; simp
   ·simp [e]
  rw [rs_congr _ h, rs_one (fun x => if canB d k x then core d k x else 0) b, if_pos (show b < d.r.length + 1 by omega)]
 | t + 1, b, hb => by
  rw [← Nat.add_assoc, cnt_core]
  have h : ∀ x, x < d.r.length + 1 → (if canB d k x then cnt (setN d k x) (k + t + 1) b else 0) = if canB d (k + t + 1) b then rs b (fun a => if fitsB d.r a b (d.f.getD (k + t) (0, 0)) then (if canB d k x then cnt (setN d k x) (k + t) a else 0) else 0) else 0 := fun x _ => by
   rw [cnt_core, can_set hk, if_neg (show ¬ k + t + 1 = k by omega)]
   by_cases e : canB d k x = true
   ·rw [if_pos e]
    have e2 : core (setN d k x) (k + t + 1) b = rs b (fun a => if fitsB d.r a b (d.f.getD (k + t) (0, 0)) then (if canB d k x then cnt (setN d k x) (k + t) a else 0) else 0) := rs_congr b fun a _ => by
     rw [if_pos e]; rfl
    rw [e2]
   ·rw [if_neg e]
    have : rs b (fun a => if fitsB d.r a b (d.f.getD (k + t) (0, 0)) then (if canB d k x then cnt (setN d k x) (k + t) a else 0) else 0) = 0 :=
     (rs_congr b fun a _ => by rw [if_neg e]; simp).trans (rs_none b)
    rw [this]; simp
  rw [rs_congr _ h]
  by_cases e : canB d (k + t + 1) b = true
  ·rw [if_pos e]
   have h2 : (rs (d.r.length + 1) fun x => if canB d (k + t + 1) b then rs b (fun a => if fitsB d.r a b (d.f.getD (k + t) (0, 0)) then (if canB d k x then cnt (setN d k x) (k + t) a else 0) else 0) else 0) = rs (d.r.length + 1) fun x => rs b fun a => if fitsB d.r a b (d.f.getD (k + t) (0, 0)) then (if canB d k x then cnt (setN d k x) (k + t) a else 0) else 0 :=
    rs_congr _ fun x _ => by rw [if_pos e]
   rw [h2, ← rs_swap (fun a x => if fitsB d.r a b (d.f.getD (k + t) (0, 0)) then (if canB d k x then cnt (setN d k x) (k + t) a else 0) else 0)]
   refine rs_congr b fun a ha => ?_
   by_cases f : fitsB d.r a b (d.f.getD (k + t) (0, 0)) = true
   ·rw [if_pos f, cnt_split hk t a (by omega)]
    exact rs_congr _ fun x _ => by rw [if_pos f]
   ·rw [if_neg f]
    exact (rs_none (d.r.length + 1)).symm.trans (rs_congr _ fun x _ => by rw [if_neg f])
  ·rw [if_neg e]
   exact (rs_none (d.r.length + 1)).symm.trans (rs_congr _ fun x _ => by rw [if_neg e])
theorem set_len (d : Rd) (k : Nat) (x : Int) : (setN d k x).m.length = d.m.length := by show (d.m.set k x).length = _; rw [List.length_set]
theorem total_split {d : Rd} {k : Nat} (hk : k < d.m.length) : total d = rs (d.r.length + 1) fun x => if canB d k x then total (setN d k x) else 0 := by
 have h : total d = rs (d.r.length + 1) fun b => rs (d.r.length + 1) fun x => if canB d k x then cnt (setN d k x) (d.m.length - 1) b else 0 := by
  show rs (d.r.length + 1) (cnt d (d.m.length - 1)) = _
  refine rs_congr _ fun b hb => ?_
  have := cnt_split hk (d.m.length - 1 - k) b (by omega)
  rw [show k + (d.m.length - 1 - k) = d.m.length - 1 by omega] at this
  exact this
 rw [h, rs_swap]
 refine rs_congr _ fun x _ => ?_
 by_cases e : canB d k x = true
 ·rw [if_pos e]
  have : total (setN d k x) = rs (d.r.length + 1) (cnt (setN d k x) (d.m.length - 1)) := by
   unfold total
   rw [set_len]
   rfl
  rw [this]
  exact rs_congr _ fun b _ => by rw [if_pos e]
 ·rw [if_neg e]
  exact (rs_congr _ fun b _ => by rw [if_neg e]).trans (rs_none (d.r.length + 1))
theorem isF_set {d : Rd} {k : Nat} (hk : k < d.m.length) {x : Nat} {φ : Nat → Nat} : IsF (setN d k x) d.m.length φ → canB d k x = true → IsF d d.m.length φ ∧ φ k = x := fun h hx => by
 have hφ : φ k = x := by
  have := h.can k hk
  rw [can_set hk, if_pos rfl, decide_eq_true_eq] at this
  exact this.symm
 refine ⟨⟨h.le, fun i hi => ?_, h.up, h.fit⟩, hφ⟩
 have := h.can i hi
 rw [can_set hk] at this
 by_cases e : i = k
 ·subst e; rw [hφ]; exact hx
 ·rwa [if_neg e] at this
theorem isF_put {d : Rd} {k : Nat} (hk : k < d.m.length) {φ : Nat → Nat} (h : IsF d d.m.length φ) : IsF (setN d k (φ k : Nat)) d.m.length φ := by
 refine ⟨h.le, fun i hi => ?_, h.up, h.fit⟩
 rw [can_set hk]
 by_cases e : i = k
 ·rw [if_pos e, e]; simp
 ·rw [if_neg e]; exact h.can i hi
/-- a number of a stone comes from some readings -/
theorem set_pos {d : Rd} (h : RdLen d) {k : Nat} (hk : k < d.m.length) {x : Nat} (hx : x ≤ d.r.length) (hp : 0 < tabTo d d.m.length 0 k x ∧ 0 < behT d k x) : 0 < total (setN d k x) := by
 obtain ⟨l, hl, e⟩ := (nums_rdl h hk hx).1 hp
 obtain ⟨-, hf⟩ := (mem_rdl d _ l).1 hl
 rw [total_pos (by rw [set_len]; omega), set_len]
 have := isF_put hk hf
 rw [e] at this
 exact ⟨_, this⟩
theorem set_zero {d : Rd} (h : RdLen d) {k : Nat} (hk : k < d.m.length) {x : Nat} (hx : x ≤ d.r.length) (hp : ¬ (0 < tabTo d d.m.length 0 k x ∧ 0 < behT d k x)) : (if canB d k x then total (setN d k x) else 0) = 0 := by
 by_cases e : canB d k x = true
 ·rw [if_pos e]
  rcases Nat.eq_zero_or_pos (total (setN d k x)) with h0 | h0
  ·exact h0
  ·have h0 := (total_pos (by rw [set_len]; omega)).1 h0
   rw [set_len] at h0
   obtain ⟨φ, hf⟩ := h0
   obtain ⟨h1, h2⟩ := isF_set hk hf e
   have := isF_nums h h1 hk
   rw [h2] at this
   exact absurd this hp
 ·rw [if_neg e]
theorem can_of {d : Rd} {k x : Nat} (hp : 0 < tabTo d d.m.length 0 k x) : canB d k x = true := by
 unfold tabTo at hp
 split at hp
 ·rw [cnt_core] at hp
  by_cases e : canB d k x = true
  ·exact e
  ·rw [if_neg e] at hp; cases hp
 ·cases hp
theorem sum_filter (p : Nat → Bool) (g : Nat → Nat) : ∀ n, (((List.range n).filter p).map g).sum = rs n fun x => if p x then g x else 0
 | 0 => rfl
 | n + 1 => by
  rw [rs_succ, ← sum_filter p g n, List.range_succ, List.filter_append, List.map_append, List.sum_append]
  by_cases h : p n = true
  ·rw [if_pos h, List.filter_cons, if_pos h]; simp
  ·rw [if_neg h, List.filter_cons, if_neg h]; simp
/-- all of these together are all readings -/
theorem nums_sum {d : Rd} (h : RdLen d) {k : Nat} (hk : k < d.m.length) : ((nums d k).map fun x => total (setN d k x)).sum = total d := by
 unfold nums numsTo
 rw [List.map_map, total_split hk]
 have := sum_filter (fun y => decide (0 < tabTo d d.m.length 0 k y) && decide (0 < behT d k y)) (fun x => total (setN d k (x : Nat))) (d.r.length + 1)
 refine Eq.trans ?_ (this.trans (rs_congr _ fun x hx => ?_))
 ·rfl
 ·by_cases hp : 0 < tabTo d d.m.length 0 k x ∧ 0 < behT d k x
  ·rw [if_pos (by rw [Bool.and_eq_true, decide_eq_true_eq, decide_eq_true_eq]; exact hp), if_pos (can_of hp.1)]
  ·rw [if_neg (by rw [Bool.and_eq_true, decide_eq_true_eq, decide_eq_true_eq]; exact hp)]
   exact (set_zero h hk (by omega) hp).symm
theorem StoP.set_err {M : Nat} {d : Rd} {T : List Int} {L : List Nat} (hM : M ≤ 12) (H : StoP M d T L) (k : Nat) {x : Int} (hx : -1 ≤ x ∧ x ≤ d.r.length) : (setN d k x).err = 0 := by
 have hl := H.lens
 have hn := H.n
 obtain ⟨s1, s2, s3⟩ := H.spans
 refine rd_err (d := setN d k x) ⟨hn.1, by show d.r.length ≤ 39; omega⟩ (by rw [set_len]; omega) (by rw [set_len]; show d.f.length + 1 = _; omega) (fun s hs => by have := s1 s hs; omega) (fun s hs => by have := s2 s hs; omega) (fun y hy => ?_)
 rcases List.mem_or_eq_of_mem_set hy with h | h
 ·exact s3 y h
 ·rw [h]; exact hx
/-! Narrower gaps. -/
def withF (d : Rd) (f : List (Int × Int)) : Rd := ⟨d.r, f, d.m⟩
theorem fits_mono {r : List (Int × Int)} {a b : Nat} {g g' : Int × Int} (h : g.1 ≤ g'.1 ∧ g'.2 ≤ g.2) (hf : fitsB r a b g' = true) : fitsB r a b g = true := by
 unfold fitsB at hf ⊢
 rw [Bool.and_eq_true, decide_eq_true_eq, decide_eq_true_eq] at hf ⊢
 omega
theorem cnt_mono {d : Rd} {f : List (Int × Int)} (h : ∀ i, (d.f.getD i (0, 0)).1 ≤ (f.getD i (0, 0)).1 ∧ (f.getD i (0, 0)).2 ≤ (d.f.getD i (0, 0)).2) : ∀ k b, cnt (withF d f) k b ≤ cnt d k b
 | 0, b => Nat.le_refl _
 | k + 1, b => by
  rw [cnt_core, cnt_core]
  show (if canB d (k + 1) b then _ else _) ≤ _
  by_cases e : canB d (k + 1) b = true
  ·rw [if_pos e, if_pos e]
   refine rs_le b fun a _ => ?_
   have ih := cnt_mono h k a
   show (if fitsB d.r a b (f.getD k (0, 0)) then cnt (withF d f) k a else 0) ≤ _
   by_cases e1 : fitsB d.r a b (f.getD k (0, 0)) = true
   ·rw [if_pos e1, if_pos (fits_mono (h k) e1)]; exact ih
   ·rw [if_neg e1]; exact Nat.zero_le _
  ·rw [if_neg e, if_neg e]; exact Nat.le_refl _
theorem total_mono {d : Rd} {f : List (Int × Int)} (h : ∀ i, (d.f.getD i (0, 0)).1 ≤ (f.getD i (0, 0)).1 ∧ (f.getD i (0, 0)).2 ≤ (d.f.getD i (0, 0)).2) : total (withF d f) ≤ total d :=
 rs_le _ fun b _ => cnt_mono h _ b
theorem StoP.fine_err {M : Nat} {d : Rd} {T : List Int} {L : List Nat} (hM : M ≤ 12) (H : StoP M d T L) {f : List (Int × Int)} (hf : f.length = d.f.length) (h : ∀ s ∈ f, 1 ≤ s.1 ∧ s.1 ≤ s.2 ∧ s.2 ≤ 1000) : (withF d f).err = 0 := by
 have hl := H.lens
 have hn := H.n
 obtain ⟨s1, s2, s3⟩ := H.spans
 exact rd_err (d := withF d f) ⟨hn.1, by show d.r.length ≤ 39; omega⟩ (by show 1 ≤ d.m.length ∧ d.m.length ≤ 40; omega) (by show f.length + 1 = d.m.length; omega) (fun s hs => by have := s1 s hs; omega) (fun s hs => by have := h s hs; omega) s3
end Go.Proofs.Ytobmhamdkngehaa
/-
  Plain laws for PillarBlamed: one stone that was moved between its neighbours. No program in sight.
-/
namespace Go.Proofs.Ytobmhamdkngehaa

theorem seg_add (T : List Int) (a x : Nat) : ∀ y, seg T a (x + y) = seg T a x + seg T (a + x) y
 | 0 => by simp [seg]
 | y + 1 => by
  show seg T a (x + y) + T.getD (a + (x + y)) 0 = seg T a x + (seg T (a + x) y + T.getD (a + x + y) 0)
  rw [seg_add T a x y, Nat.add_assoc a x y]
  omega
/-- the gaps F of stones of which stone k was moved; they were f -/
structure MovedF (f F : List (Int × Int)) (k : Nat) : Prop where
 len : F.length = f.length
 far : ∀ i, i ≠ k → i + 1 ≠ k → F.getD i (0, 0) = f.getD i (0, 0)
 two : 0 < k → k < f.length → (F.getD (k - 1) (0, 0)).1 + (F.getD k (0, 0)).1 = (f.getD (k - 1) (0, 0)).1 + (f.getD k (0, 0)).1 ∧ (F.getD (k - 1) (0, 0)).2 + (F.getD k (0, 0)).2 = (f.getD (k - 1) (0, 0)).2 + (f.getD k (0, 0)).2
 ok : ∀ s ∈ F, 1 ≤ s.1 ∧ s.1 ≤ s.2 ∧ s.2 ≤ 2000
theorem getD_set' {α : Type} {l : List α} {j : Nat} (hj : j < l.length) (x z : α) (i : Nat) : (l.set j x).getD i z = if i = j then x else l.getD i z := by
 rw [List.getD_eq_getElem?_getD, List.getElem?_set]
 by_cases h : i = j
 ·subst h; rw [if_pos rfl, if_pos hj, if_pos rfl]; rfl
 ·rw [if_neg (fun e => h e.symm), if_neg h, ← List.getD_eq_getElem?_getD]
theorem mem_set' {α : Type} {l : List α} {j : Nat} {x y : α} (h : y ∈ l.set j x) : y ∈ l ∨ y = x := List.mem_or_eq_of_mem_set h
theorem moved_last {f : List (Int × Int)} {k : Nat} {x y : Int} (hk : 0 < k) (hf : k = f.length) (ho : ∀ s ∈ f, 1 ≤ s.1 ∧ s.1 ≤ s.2 ∧ s.2 ≤ 1000) (h : 1 ≤ x ∧ x ≤ y ∧ y ≤ 2000) : MovedF f (f.set (k - 1) (x, y)) k := by
 refine ⟨List.length_set, fun i h1 h2 => ?_, fun _ h2 => by omega, fun s hs => ?_⟩
 ·rw [getD_set' (by omega), if_neg (by omega)]
 ·rcases mem_set' hs with h1 | rfl
  ·have := ho s h1; omega
  ·exact h
theorem moved_first {f : List (Int × Int)} {x y : Int} (hf : 0 < f.length) (ho : ∀ s ∈ f, 1 ≤ s.1 ∧ s.1 ≤ s.2 ∧ s.2 ≤ 1000) (h : 1 ≤ x ∧ x ≤ y ∧ y ≤ 2000) : MovedF f (f.set 0 (x, y)) 0 := by
 refine ⟨List.length_set, fun i h1 h2 => ?_, fun h _ => absurd h (Nat.lt_irrefl _), fun s hs => ?_⟩
 ·rw [getD_set' (by omega), if_neg (by omega)]
 ·rcases mem_set' hs with h1 | rfl
  ·have := ho s h1; omega
  ·exact h
theorem moved_mid {f : List (Int × Int)} {k : Nat} {x y x' y' : Int} (hk : 0 < k) (hf : k < f.length) (ho : ∀ s ∈ f, 1 ≤ s.1 ∧ s.1 ≤ s.2 ∧ s.2 ≤ 1000) (h : 1 ≤ x ∧ x ≤ y ∧ y ≤ 2000) (h' : 1 ≤ x' ∧ x' ≤ y' ∧ y' ≤ 2000)
  (hx : x + x' = (f.getD (k - 1) (0, 0)).1 + (f.getD k (0, 0)).1) (hy : y + y' = (f.getD (k - 1) (0, 0)).2 + (f.getD k (0, 0)).2) : MovedF f ((f.set (k - 1) (x, y)).set k (x', y')) k := by
 have hl : (f.set (k - 1) (x, y)).length = f.length := List.length_set
 refine ⟨by rw [List.length_set, hl], fun i h1 h2 => ?_, fun _ _ => ?_, fun s hs => ?_⟩
 ·rw [getD_set' (by omega), if_neg h1, getD_set' (by omega), if_neg (by omega)]
 ·rw [getD_set' (by omega), if_neg (by omega), getD_set' (by omega), if_pos rfl, getD_set' (by omega), if_pos rfl]
  exact ⟨hx, hy⟩
 ·rcases mem_set' hs with h1 | rfl
  ·rcases mem_set' h1 with h1 | rfl
   ·have := ho s h1; omega
   ·exact h
  ·exact h'
theorem getD_erase {α : Type} (l : List α) (k i : Nat) (z : α) : (l.eraseIdx k).getD i z = l.getD (if i < k then i else i + 1) z := by
 rw [List.getD_eq_getElem?_getD, List.getElem?_eraseIdx, List.getD_eq_getElem?_getD]
 by_cases h : i < k
 ·rw [if_pos h, if_pos h]
 ·rw [if_neg h, if_neg h]
theorem moved_at {f F : List (Int × Int)} {k : Nat} (H : MovedF f F k) (hk : k ≤ f.length) {i : Nat} (hi : i + 1 < f.length) :
  (woF F k).getD i (0, 0) = if i + 1 = k then ((f.getD (k - 1) (0, 0)).1 + (f.getD k (0, 0)).1, (f.getD (k - 1) (0, 0)).2 + (f.getD k (0, 0)).2) else f.getD (if i < k then i else i + 1) (0, 0) := by
 have hl := H.len
 unfold woF
 by_cases h0 : k = 0
 ·subst h0
  rw [if_pos rfl, if_neg (by omega), if_neg (by omega), List.getD_eq_getElem?_getD, List.getElem?_drop, ← List.getD_eq_getElem?_getD, Nat.add_comm 1 i]
  exact H.far _ (by omega) (by omega)
 ·rw [if_neg h0]
  by_cases h1 : k = F.length
  ·rw [if_pos h1, if_neg (by omega), if_pos (by omega), List.getD_eq_getElem?_getD, List.getElem?_take, if_pos (by omega), ← List.getD_eq_getElem?_getD]
   exact H.far _ (by omega) (by omega)
  ·rw [if_neg h1, getD_erase, getD_set' (by omega)]
   by_cases h2 : i + 1 = k
   ·rw [if_pos h2, if_pos (show i < k by omega), if_pos (by omega)]
    have := H.two (by omega) (by omega)
    exact Prod.ext this.1 this.2
   ·rw [if_neg h2]
    by_cases h3 : i < k
    ·rw [if_pos h3, if_neg (by omega)]; exact H.far _ (by omega) (by omega)
    ·rw [if_neg h3, if_neg (by omega)]; exact H.far _ (by omega) (by omega)
/-- without the stone that was moved there is a reading -/
theorem moved_reads {M : Nat} {d : Rd} {T : List Int} {L : List Nat} (H : StoP M d T L) {F : List (Int × Int)} {k : Nat} (hF : MovedF d.f F k) (hk : k < d.m.length) (h2 : 2 ≤ d.m.length) : 0 < total (wo (withF d F) k) := by
 have hl := H.lens
 have hm : (wo (withF d F) k).m.length = d.m.length - 1 := by
  show (d.m.eraseIdx k).length = _
  rw [List.length_eraseIdx, if_pos hk]
 have hup : ∀ i, i + 1 < L.length → L.getD i 0 < L.getD (i + 1) 0 := H.f.up
 rw [total_pos (by omega), hm]
 have gp := H.f.gap
 have hlt := H.f.lt
 have fit : ∀ i, i + 1 < L.length → fitsB d.r (L.getD i 0) (L.getD (i + 1) 0) (d.f.getD i (0, 0)) = true := fun i hi => H.isF.fit i (by omega)
 refine ⟨fun i => L.getD (if i < k then i else i + 1) 0, fun i hi => ?_, fun i hi => ?_, fun i hi => ?_, fun i hi => ?_⟩
 ·show L.getD (if i < k then i else i + 1) 0 ≤ d.r.length
  split
  ·have := hlt i (by omega); omega
  ·have := hlt (i + 1) (by omega); omega
 ·have hc : ∀ j, j < L.length → canB d j (L.getD j 0) = true := fun j hj => H.isF.can j (by omega)
  show (decide ((d.m.eraseIdx k).getD i (-1) = -1) || decide ((d.m.eraseIdx k).getD i (-1) = ((L.getD (if i < k then i else i + 1) 0 : Nat) : Int))) = true
  rw [getD_erase]
  exact hc _ (by split <;> omega)
 ·show L.getD (if i < k then i else i + 1) 0 < L.getD (if i + 1 < k then i + 1 else i + 1 + 1) 0
  by_cases h1 : i + 1 < k
  ·rw [if_pos h1, if_pos (by omega)]; exact hup i (by omega)
  ·rw [if_neg h1]
   by_cases h3 : i < k
   ·rw [if_pos h3]
    have e1 := hup i (by omega)
    have e2 := hup (i + 1) (by omega)
    omega
   ·rw [if_neg h3]; exact hup (i + 1) (by omega)
 ·show fitsB d.r (L.getD (if i < k then i else i + 1) 0) (L.getD (if i + 1 < k then i + 1 else i + 1 + 1) 0) ((woF F k).getD i (0, 0)) = true
  rw [moved_at hF (by omega) (by omega)]
  by_cases h1 : i + 1 = k
  ·rw [if_pos h1, if_pos (by omega), if_neg (by omega)]
   have e1 := hup i (by omega)
   have e2 := hup (i + 1) (by omega)
   have g1 := gp i (by omega)
   have g2 := gp (i + 1) (by omega)
   have hs := seg_add T (L.getD i 0) (L.getD (i + 1) 0 - L.getD i 0) (L.getD (i + 1 + 1) 0 - L.getD (i + 1) 0)
   rw [show L.getD (i + 1) 0 - L.getD i 0 + (L.getD (i + 1 + 1) 0 - L.getD (i + 1) 0) = L.getD (i + 1 + 1) 0 - L.getD i 0 by omega, show L.getD i 0 + (L.getD (i + 1) 0 - L.getD i 0) = L.getD (i + 1) 0 by omega] at hs
   have h9 := hlt (i + 1 + 1) (by omega)
   rw [show k - 1 = i by omega, ← h1]
   refine seg_fits H.g (by omega) (by omega) ?_ ?_
   ·show (d.f.getD i (0, 0)).1 + (d.f.getD (i + 1) (0, 0)).1 ≤ _
    omega
   ·show _ ≤ (d.f.getD i (0, 0)).2 + (d.f.getD (i + 1) (0, 0)).2
    omega
  ·rw [if_neg h1]
   by_cases h3 : i < k
   ·rw [if_pos h3, if_pos (by omega)]; exact fit i (by omega)
   ·rw [if_neg h3, if_neg (by omega)]; exact fit (i + 1) (by omega)
theorem moved_err {M : Nat} {d : Rd} {T : List Int} {L : List Nat} (hM : M ≤ 12) (H : StoP M d T L) {F : List (Int × Int)} {k : Nat} (hF : MovedF d.f F k) : (withF d F).err = 0 := by
 have hl := H.lens
 have hn := H.n
 have hk := hF.len
 obtain ⟨s1, s2, s3⟩ := H.spans
 exact rd_err (d := withF d F) ⟨hn.1, by show d.r.length ≤ 39; omega⟩ (by show 1 ≤ d.m.length ∧ d.m.length ≤ 40; omega) (by show F.length + 1 = d.m.length; omega) (fun s hs => by have := s1 s hs; omega) (fun s hs => by have := hF.ok s hs; omega) s3
theorem moved_wo_err {M : Nat} {d : Rd} {T : List Int} {L : List Nat} (hM : M ≤ 12) (H : StoP M d T L) {F : List (Int × Int)} {k : Nat} (hF : MovedF d.f F k) {i : Nat} (hi : i < d.m.length) (h2 : 2 ≤ d.m.length) : (wo (withF d F) i).err = 0 := by
 have hl := H.lens
 have hn := H.n
 have hk := hF.len
 obtain ⟨s1, s2, s3⟩ := H.spans
 have hm : (wo (withF d F) i).m.length = d.m.length - 1 := by
  show (d.m.eraseIdx i).length = _
  rw [List.length_eraseIdx, if_pos hi]
 have hfl : (wo (withF d F) i).f.length = F.length - 1 := woF_len (show i < F.length + 1 by omega)
 refine rd_err ⟨hn.1, by show d.r.length ≤ 39; omega⟩ (by omega) (by omega) (fun s hs => by have := s1 s hs; omega) (fun s hs => ?_) (fun x hx => s3 x (List.mem_of_mem_eraseIdx hx))
 rcases woF_mem (show i < F.length + 1 by omega) hs with h | ⟨h3, h4, rfl⟩
 ·have := hF.ok s h; omega
 ·have e1 := hF.ok _ (getD_mem (z := (0, 0)) (show i - 1 < F.length by omega))
  have e2 := hF.ok _ (getD_mem (z := (0, 0)) (show i < F.length by omega))
  show 1 ≤ (F.getD (i - 1) (0, 0)).1 + (F.getD i (0, 0)).1 ∧ (F.getD (i - 1) (0, 0)).1 + (F.getD i (0, 0)).1 ≤ (F.getD (i - 1) (0, 0)).2 + (F.getD i (0, 0)).2 ∧ (F.getD (i - 1) (0, 0)).2 + (F.getD i (0, 0)).2 ≤ 20000
  omega
/-- stones that are named -/
theorem mem_wrong {d : Rd} {n : Nat} {x : Int} : x ∈ wrongTo d n ↔ ∃ i : Nat, i < n ∧ x = (i : Int) ∧ 0 < total (wo d i) := by
 unfold wrongTo
 rw [List.mem_map]
 constructor
 ·rintro ⟨y, hy, rfl⟩
  rw [List.mem_filter, List.mem_range, decide_eq_true_eq] at hy
  exact ⟨y, hy.1, rfl, hy.2⟩
 ·rintro ⟨y, h1, rfl, h2⟩
  exact ⟨y, List.mem_filter.2 ⟨List.mem_range.2 h1, by rw [decide_eq_true_eq]; exact h2⟩, rfl⟩
end Go.Proofs.Ytobmhamdkngehaa
