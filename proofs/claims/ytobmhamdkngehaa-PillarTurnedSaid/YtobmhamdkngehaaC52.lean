/-
  Parts of the proof, in the order in which they build: PoE.
-/
import Derived.Test.YtobmhamdkngehaaC47
set_option linter.unusedVariables false
set_option linter.unusedSimpArgs false
namespace Go.Proofs.Ytobmhamdkngehaa
open Go.RowKit Go.Shelf
open Lim

theorem shV_swap (G B Hi Hj x y : Int) : shV G B Hj Hi y x = shV G B Hi Hj x y := by
  unfold shV
  rw [Int.mul_right_comm B y x, Int.add_comm y x, Int.add_comm (Hj * x)]
/-- q is p, gone the other way -/
structure IsBack (p q : Pf) : Prop where
  n : q.n = p.n
  gl : q.gr.length = p.gr.length
  a : ∀ y, y < p.n → q.a y = p.a (p.n - 1) - p.a (p.n - 1 - y)
  g : ∀ y, y < p.n → q.g y = p.g (p.n - 1 - y)
  tall : q.tall = p.tall
  lo : q.lo = p.lo
  hi : q.hi = p.hi
theorem IsBack.ok {p q : Pf} (hp : p.Ok) (h : IsBack p q) : q.Ok := by
  have hn := h.n
  have n2 := hp.n2
  have n40 := hp.n40
  have hgn := hp.gn
  refine ⟨by omega, by omega, by rw [h.gl, hn]; exact hp.gn, fun i hi => ?_, fun i hi => ?_, by rw [h.tall]; exact hp.tall, by rw [h.lo, h.hi]; exact hp.bend, fun i hi => ?_⟩
  · rw [h.a i (by omega)]
    have h1 := hp.ats (p.n - 1) (by omega)
    have h2 := hp.ats (p.n - 1 - i) (by omega)
    by_cases e : i = 0
    · subst e; rw [show p.n - 1 - 0 = p.n - 1 by omega]; omega
    · have := hp.lt (i := p.n - 1 - i) (j := p.n - 1) (by omega) (by omega)
      omega
  · rw [h.g i (by omega)]; exact hp.gr _ (by omega)
  · rw [h.a i (by omega), h.a (i + 1) (by omega)]
    have := hp.lt (i := p.n - 1 - (i + 1)) (j := p.n - 1 - i) (by omega) (by omega)
    omega
theorem IsBack.short {p q : Pf} (h : IsBack p q) (hh bh : Bool) {i j k : Nat} (hi : i < p.n) (hj : j < p.n) (hk : k < p.n) : q.short hh bh (p.n - 1 - j) (p.n - 1 - i) (p.n - 1 - k) = p.short hh bh i j k := by
  rw [short_eq, short_eq, h.g _ (by omega), h.g _ (by omega), h.g _ (by omega), h.a _ (by omega), h.a _ (by omega), h.a _ (by omega), h.tall]
  rw [show p.n - 1 - (p.n - 1 - k) = k by omega, show p.n - 1 - (p.n - 1 - j) = j by omega, show p.n - 1 - (p.n - 1 - i) = i by omega]
  rw [show endOf bh q.bend = endOf bh p.bend from by unfold Pf.bend; rw [h.lo, h.hi]]
  rw [show p.a (p.n - 1) - p.a k - (p.a (p.n - 1) - p.a j) = p.a j - p.a k by omega, show p.a (p.n - 1) - p.a i - (p.a (p.n - 1) - p.a k) = p.a k - p.a i by omega]
  exact shV_swap _ _ _ _ _ _
theorem IsBack.sees {p q : Pf} (h : IsBack p q) (hh bh : Bool) {i j : Nat} (hi : i < p.n) (hj : j < p.n) : q.sees hh bh (p.n - 1 - i) (p.n - 1 - j) = p.sees hh bh i j := by
  unfold Pf.sees
  rw [show min (p.n - 1 - i) (p.n - 1 - j) = p.n - 1 - max i j by omega, show max (p.n - 1 - i) (p.n - 1 - j) = p.n - 1 - min i j by omega, Bool.eq_iff_iff, open_iff, open_iff]
  constructor
  · intro H k h1 h2
    rw [← h.short hh bh (i := min i j) (j := max i j) (k := k) (by omega) (by omega) (by omega)]
    exact H _ (by omega) (by omega)
  · intro H k h1 h2
    have := h.short hh bh (i := min i j) (j := max i j) (k := p.n - 1 - k) (by omega) (by omega) (by omega)
    rw [show p.n - 1 - (p.n - 1 - k) = k by omega] at this
    rw [this]
    exact H _ (by omega) (by omega)
theorem Ch.back {n : Nat} {S S' : Nat → Nat → Bool} {t i : Nat} {L : List Nat} (h : Ch n S (-1) t i L) (ht : t < n) (hS : ∀ a b, a < b → b < n → S a b = true → S' (n - 1 - b) (n - 1 - a) = true) : ∃ L', L'.length = L.length ∧ Ch n S' (-1) (n - 1 - i) (n - 1 - t) L' := by
  induction h with
  | one => exact ⟨[n - 1 - t], rfl, .one⟩
  | @cons a b L h1 h2 h3 h4 hc ih =>
    obtain ⟨L', e, hL'⟩ := ih
    exact ⟨L' ++ [n - 1 - a], by simp [e], hL'.snoc (by omega) (by omega) (hS a b h1 h2 h3) (by omega)⟩
theorem IsBack.fewest {p q : Pf} (hp : p.Ok) (h : IsBack p q) {L M : List Nat} (hL : IsBest p.n p.sure (-1) (p.n - 1) 0 L) (hM : IsBest q.n q.sure (-1) (q.n - 1) 0 M) : M.length = L.length := by
  rw [h.n] at hM
  have n2 := hp.n2
  obtain ⟨L', e1, c1⟩ := hL.ch.back (S' := q.sure) (by omega) (fun a b h1 h2 h3 => by
    show q.sees false true _ _ = true
    rw [sees_comm, h.sees false true (by omega) h2]; exact h3)
  obtain ⟨M', e2, c2⟩ := hM.ch.back (S' := p.sure) (by omega) (fun a b h1 h2 h3 => by
    show p.sees false true _ _ = true
    have := h.sees false true (i := p.n - 1 - a) (j := p.n - 1 - b) (by omega) (by omega)
    rw [show p.n - 1 - (p.n - 1 - a) = a by omega, show p.n - 1 - (p.n - 1 - b) = b by omega] at this
    rw [sees_comm, ← this]; exact h3)
  rw [show p.n - 1 - 0 = p.n - 1 by omega, show p.n - 1 - (p.n - 1) = 0 by omega] at c1 c2
  have k1 := hM.le L' c1
  have k2 := hL.le M' c2
  omega
/-- q is p, that begins elsewhere -/
structure IsFar (p q : Pf) (f : Int) : Prop where
  n : q.n = p.n
  gr : q.gr = p.gr
  a : ∀ y, y < p.n → q.a y = p.a y + f
  tall : q.tall = p.tall
  lo : q.lo = p.lo
  hi : q.hi = p.hi
theorem IsFar.g {p q : Pf} {f : Int} (h : IsFar p q f) (k : Nat) : q.g k = p.g k := by unfold Pf.g; rw [h.gr]
theorem IsFar.ok {p q : Pf} {f : Int} (hp : p.Ok) (h : IsFar p q f) (hf : 0 ≤ f) (ha : ∀ k, k < p.n → p.a k + f ≤ 20000) : q.Ok := by
  have hn := h.n
  have n2 := hp.n2
  have n40 := hp.n40
  refine ⟨by omega, by omega, by rw [h.gr, hn]; exact hp.gn, fun i hi => ?_, fun i hi => ?_, by rw [h.tall]; exact hp.tall, by rw [h.lo, h.hi]; exact hp.bend, fun i hi => ?_⟩
  · rw [h.a i (by omega)]
    have h1 := hp.ats i (by omega)
    have h2 := ha i (by omega)
    omega
  · rw [h.g i]; exact hp.gr _ (by omega)
  · rw [h.a i (by omega), h.a (i + 1) (by omega)]
    have := hp.up i (by omega)
    omega
theorem IsFar.short {p q : Pf} {f : Int} (h : IsFar p q f) (hh bh : Bool) {i j k : Nat} (hi : i < p.n) (hj : j < p.n) (hk : k < p.n) : q.short hh bh i j k = p.short hh bh i j k := by
  rw [short_eq, short_eq, h.g, h.g, h.g, h.a _ hi, h.a _ hj, h.a _ hk, h.tall]
  rw [show endOf bh q.bend = endOf bh p.bend from by unfold Pf.bend; rw [h.lo, h.hi]]
  rw [show p.a k + f - (p.a i + f) = p.a k - p.a i by omega, show p.a j + f - (p.a k + f) = p.a j - p.a k by omega]
theorem IsFar.sees {p q : Pf} {f : Int} (h : IsFar p q f) (hh bh : Bool) {i j : Nat} (hi : i < p.n) (hj : j < p.n) : q.sees hh bh i j = p.sees hh bh i j :=
  open_same (fun k h1 h2 => h.short hh bh (by omega) (by omega) (by omega))
/-- q is p, twice as long, with a quarter of the bend -/
structure IsWide (p q : Pf) : Prop where
  n : q.n = p.n
  gr : q.gr = p.gr
  a : ∀ y, y < p.n → q.a y = 2 * p.a y
  tall : q.tall = p.tall
  lo : 4 * q.lo = p.lo
  hi : 4 * q.hi = p.hi
theorem IsWide.g {p q : Pf} (h : IsWide p q) (k : Nat) : q.g k = p.g k := by unfold Pf.g; rw [h.gr]
theorem IsWide.ok {p q : Pf} (hp : p.Ok) (h : IsWide p q) (ha : ∀ k, k < p.n → 2 * p.a k ≤ 20000) : q.Ok := by
  have hn := h.n
  have n2 := hp.n2
  have n40 := hp.n40
  have hb := hp.bend
  have hlo := h.lo
  have hhi := h.hi
  refine ⟨by omega, by omega, by rw [h.gr, hn]; exact hp.gn, fun i hi => ?_, fun i hi => ?_, by rw [h.tall]; exact hp.tall, by omega, fun i hi => ?_⟩
  · rw [h.a i (by omega)]
    have h1 := hp.ats i (by omega)
    have h2 := ha i (by omega)
    omega
  · rw [h.g i]; exact hp.gr _ (by omega)
  · rw [h.a i (by omega), h.a (i + 1) (by omega)]
    have := hp.up i (by omega)
    omega
theorem shV_wide (G b Hi Hj x y : Int) : shV G b Hi Hj (2 * x) (2 * y) = 2 * shV G (4 * b) Hi Hj x y := by
  unfold shV
  have e1 : b * (2 * x) * (2 * y) = 4 * b * x * y := by
    rw [Int.mul_left_comm b 2 x, Int.mul_left_comm (2 * (b * x)) 2 y, Int.mul_assoc 2 (b * x) y, Int.mul_assoc 4 b x, Int.mul_assoc 4 (b * x) y]
    omega
  rw [e1, show 2 * x + 2 * y = 2 * (x + y) by omega, Int.mul_left_comm _ 2 (x + y), Int.mul_left_comm Hi 2 y, Int.mul_left_comm Hj 2 x]
  omega
theorem IsWide.short {p q : Pf} (h : IsWide p q) (hh bh : Bool) {i j k : Nat} (hi : i < p.n) (hj : j < p.n) (hk : k < p.n) : q.short hh bh i j k = 2 * p.short hh bh i j k := by
  rw [short_eq, short_eq, h.g, h.g, h.g, h.a _ hi, h.a _ hj, h.a _ hk, h.tall]
  rw [show endOf bh p.bend = 4 * endOf bh q.bend from by unfold Pf.bend; cases bh; exact h.lo.symm; exact h.hi.symm]
  rw [show 2 * p.a k - 2 * p.a i = 2 * (p.a k - p.a i) by omega, show 2 * p.a j - 2 * p.a k = 2 * (p.a j - p.a k) by omega]
  exact shV_wide _ _ _ _ _ _
theorem IsWide.sees {p q : Pf} (h : IsWide p q) (hh bh : Bool) {i j : Nat} (hi : i < p.n) (hj : j < p.n) : q.sees hh bh i j = p.sees hh bh i j := by
  unfold Pf.sees
  rw [Bool.eq_iff_iff, open_iff, open_iff]
  constructor
  · intro H k h1 h2
    have := H k h1 h2
    rw [h.short hh bh (by omega) (by omega) (by omega)] at this
    omega
  · intro H k h1 h2
    have := H k h1 h2
    rw [h.short hh bh (by omega) (by omega) (by omega)]
    omega
/-- where all places surely see the same ones, the same pillars are returned -/
theorem best_same {p q : Pf} (hp : p.Ok) (hn : q.n = p.n) (h : ∀ i j, i < p.n → j < p.n → q.sure i j = p.sure i j) {L M : List Nat} (hL : IsBest p.n p.sure (-1) (p.n - 1) 0 L) (hM : IsBest q.n q.sure (-1) (q.n - 1) 0 M) : M = L := by
  rw [hn] at hM
  exact (hM.congr (S' := p.sure) (fun a b h1 h2 => h a b (by omega) h2)).unique hL
end Go.Proofs.Ytobmhamdkngehaa
