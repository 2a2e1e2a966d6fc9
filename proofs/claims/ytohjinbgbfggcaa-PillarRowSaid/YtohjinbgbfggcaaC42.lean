/-
  Parts of the proof, in the order in which they build: PoA.
-/
import Derived.Test.YtohjinbgbfggcaaC1
set_option linter.unusedVariables false
set_option linter.unusedSimpArgs false
namespace Go.Proofs.Ytohjinbgbfggcaa

/-- by how much two heads are too low for a place between, from the numbers alone -/
def shV (G B Hi Hj x y : Int) : Int := (G * 10000000 + B * x * y) * (x + y) - (Hi * y + Hj * x) * 10000000
theorem short_eq (p : Pf) (hh bh : Bool) (i j k : Nat) : p.short hh bh i j k = shV (endOf bh (p.g k)) (endOf bh p.bend) (endOf hh (p.g i) + p.tall) (endOf hh (p.g j) + p.tall) (p.a k - p.a i) (p.a j - p.a k) := rfl
theorem shV_mono {G G' B B' Hi Hi' Hj Hj' x y : Int} (hG : G ≤ G') (hB : B ≤ B') (hi : Hi' ≤ Hi) (hj : Hj' ≤ Hj) (hx : 0 ≤ x) (hy : 0 ≤ y) : shV G B Hi Hj x y ≤ shV G' B' Hi' Hj' x y := by
  have h1 : B * x * y ≤ B' * x * y := Int.mul_le_mul_of_nonneg_right (Int.mul_le_mul_of_nonneg_right hB hx) hy
  have h2 : (G * 10000000 + B * x * y) * (x + y) ≤ (G' * 10000000 + B' * x * y) * (x + y) := Int.mul_le_mul_of_nonneg_right (by omega) (by omega)
  have h3 : Hi' * y ≤ Hi * y := Int.mul_le_mul_of_nonneg_right hi hy
  have h4 : Hj' * x ≤ Hj * x := Int.mul_le_mul_of_nonneg_right hj hx
  unfold shV
  omega
theorem open_mono {p q : Pf} {hh bh hh' bh' : Bool} {i j : Nat} (h : ∀ k, i < k → k < j → p.short hh bh i j k ≤ q.short hh' bh' i j k) (ho : q.open hh' bh' i j = true) : p.open hh bh i j = true := by
  rw [open_iff] at ho ⊢
  intro k h1 h2
  have := h k h1 h2
  have := ho k h1 h2
  omega
theorem open_same {p q : Pf} {hh bh hh' bh' : Bool} {i j : Nat} (h : ∀ k, i < k → k < j → p.short hh bh i j k = q.short hh' bh' i j k) : p.open hh bh i j = q.open hh' bh' i j := by
  rw [Bool.eq_iff_iff]
  exact ⟨open_mono (fun k h1 h2 => Int.le_of_eq (h k h1 h2).symm), open_mono (fun k h1 h2 => Int.le_of_eq (h k h1 h2))⟩
/-- a profile is right if its numbers are -/
theorem Pf.Ok.err {p : Pf} (h : p.Ok) : p.err = 0 := by
  have hn : p.n = p.ats.length := rfl
  have hn2 := h.n2
  have hn40 := h.n40
  have hgn := h.gn
  have c : p.count = true := by
    unfold Pf.count
    rw [Bool.and_eq_true, inR_iff, decide_eq_true_eq]
    omega
  have v : p.value = true := by
    unfold Pf.value
    simp only [Bool.and_eq_true, inR_iff, rightS_iff, List.all_eq_true]
    refine ⟨fun x hx => ?_, fun s hs => ?_, h.tall, h.bend⟩
    · obtain ⟨i, hi, rfl⟩ := List.getElem_of_mem hx
      have := h.ats i (by omega)
      unfold Pf.a at this
      rw [List.getD_eq_getElem?_getD, List.getElem?_eq_getElem hi] at this
      exact this
    · obtain ⟨i, hi, rfl⟩ := List.getElem_of_mem hs
      have := h.gr i (by omega)
      unfold Pf.g at this
      rw [List.getD_eq_getElem?_getD, List.getElem?_eq_getElem hi] at this
      exact this
  have o : p.order = true := by
    unfold Pf.order
    simp only [List.all_eq_true, List.mem_range, decide_eq_true_eq]
    exact fun i hi => h.up i (by omega)
  unfold Pf.err
  rw [c, v, o]
  rfl
/-- q is narrower than p, or has taller pillars -/
structure Nar (p q : Pf) : Prop where
  ats : q.ats = p.ats
  gl : q.gr.length = p.gr.length
  tall : p.tall ≤ q.tall
  lo : p.lo ≤ q.lo
  hi : q.hi ≤ p.hi
  gr : ∀ k, k < p.n → (p.g k).1 ≤ (q.g k).1 ∧ (q.g k).2 ≤ (p.g k).2
theorem Nar.n {p q : Pf} (h : Nar p q) : q.n = p.n := by unfold Pf.n; rw [h.ats]
theorem Nar.a {p q : Pf} (h : Nar p q) (k : Nat) : q.a k = p.a k := by unfold Pf.a; rw [h.ats]
theorem gap_pos {p : Pf} (hp : p.Ok) {i k : Nat} (h : i < k) (hk : k < p.n) : 0 ≤ p.a k - p.a i := by have := hp.lt h hk; omega
theorem Nar.sure {p q : Pf} (hp : p.Ok) (h : Nar p q) {i j : Nat} (hi : i < p.n) (hj : j < p.n) (hs : p.sure i j = true) : q.sure i j = true := by
  refine open_mono (fun k h1 h2 => ?_) hs
  rw [short_eq, short_eq, h.a, h.a, h.a]
  have hM : max i j < p.n := by omega
  have hm : min i j < p.n := by omega
  have g1 := h.gr (min i j) hm
  have g2 := h.gr (max i j) hM
  have g3 := h.gr k (by omega)
  have ht := h.tall
  refine shV_mono g3.2 h.hi ?_ ?_ (gap_pos hp h1 (by omega)) (gap_pos hp h2 hM)
  · show (p.g _).1 + p.tall ≤ (q.g _).1 + q.tall; omega
  · show (p.g _).1 + p.tall ≤ (q.g _).1 + q.tall; omega
theorem Nar.can {p q : Pf} (hp : p.Ok) (h : Nar p q) (ht : q.tall = p.tall) {i j : Nat} (hi : i < p.n) (hj : j < p.n) (hs : q.sees true false i j = true) : p.sees true false i j = true := by
  refine open_mono (fun k h1 h2 => ?_) hs
  rw [short_eq, short_eq, h.a, h.a, h.a]
  have hM : max i j < p.n := by omega
  have hm : min i j < p.n := by omega
  have g1 := h.gr (min i j) hm
  have g2 := h.gr (max i j) hM
  have g3 := h.gr k (by omega)
  refine shV_mono g3.1 h.lo ?_ ?_ (gap_pos hp h1 (by omega)) (gap_pos hp h2 hM)
  · show (q.g _).2 + q.tall ≤ (p.g _).2 + p.tall; omega
  · show (q.g _).2 + q.tall ≤ (p.g _).2 + p.tall; omega
theorem Ch.mono {n : Nat} {S S' : Nat → Nat → Bool} {w : Int} {t i : Nat} {L : List Nat} (h : Ch n S w t i L) (hS : ∀ a b, a < b → b < n → S a b = true → S' a b = true) : Ch n S' w t i L := by
  induction h with
  | one => exact .one
  | cons h1 h2 h3 h4 _ ih => exact .cons h1 h2 (hS _ _ h1 h2 h3) h4 ih
end Go.Proofs.Ytohjinbgbfggcaa
