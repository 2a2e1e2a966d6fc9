/-
  Parts of the proof, in the order in which they build: SiK.
-/
import Derived.Test.YtiacgaplhndlnaaF31
import Derived.Test.YtiacgaplhndlnaaF19
import Derived.Test.YtiacgaplhndlnaaF30
set_option linter.unusedVariables false
set_option linter.unusedSimpArgs false
namespace Go.Proofs.Ytiacgaplhndlnaa
open Lim

section
variable {os : List Int} {r : Nat → Nat} {k : Nat}
/-- the four regions beside the middle are one, and it has another owner -/
def amid (os : List Int) (r : Nat → Nat) : Bool := decide (r 1 = r 3) && decide (r 1 = r 5) && decide (r 1 = r 7) && decide (os.getD 4 0 ≠ os.getD 1 0)
theorem m3_ok (h : os.length = 9) : Mp.Ok ⟨3, os⟩ := ⟨by show 0 < 3; omega, by show 0 < os.length; omega, by show os.length ≤ 100; omega, by show os.length % 3 = 0; omega⟩
theorem rim3 (h : os.length = 9) {p : Nat} (hp : p < 9) (h4 : p ≠ 4) : rimB ⟨3, os⟩ p = true := by
  unfold rimB Mp.n
  simp only [Bool.or_eq_true, decide_eq_true_eq]
  omega
theorem mid3 (h : os.length = 9) : rimB ⟨3, os⟩ 4 = false := by
  unfold rimB Mp.n
  simp only [Bool.or_eq_false_iff, decide_eq_false_iff_not]
  omega
theorem nb3 (h : os.length = 9) {x : Nat} : nb ⟨3, os⟩ 4 x ↔ x = 1 ∨ x = 3 ∨ x = 5 ∨ x = 7 := by
  unfold nb Mp.n
  rw [mem_nbr, h]
  dsimp only
  omega
theorem outer3 (h : os.length = 9) {p : Nat} (hp : p < 9) (h4 : p ≠ 4) : Outer ⟨3, os⟩ r (r p) := fun j hj => hj.2 ⟨p, p, rfl, .refl ⟨by show p < os.length; omega, hj.1⟩, rim3 h hp h4⟩
/-- a way out of the middle's region without j -/
theorem mid_out (h : os.length = 9) {j q : Nat} (hj : r 4 ≠ j) (hq : q = 1 ∨ q = 3 ∨ q = 5 ∨ q = 7) (hqj : r q ≠ j) : OutW ⟨3, os⟩ r (r 4) j :=
  ⟨4, q, rfl, .step ⟨by show 4 < os.length; omega, hj⟩ ((nb3 h).2 hq) (.refl ⟨by show q < os.length; omega, hqj⟩), rim3 h (by omega) (by omega)⟩
theorem mid_in (h : os.length = 9) (hr : IsReg ⟨3, os⟩ r) {j : Nat} (hi : In ⟨3, os⟩ r (r 4) j) : amid os r = true ∧ j = r 1 := by
  have hq : ∀ q, (q = 1 ∨ q = 3 ∨ q = 5 ∨ q = 7) → r q = j := fun q hq => Classical.byContradiction fun hne => hi.2 (mid_out h hi.1 hq hne)
  have h1 := hq 1 (by omega)
  have h3 := hq 3 (by omega)
  have h5 := hq 5 (by omega)
  have h7 := hq 7 (by omega)
  refine ⟨?_, h1.symm⟩
  have ho : os.getD 4 0 ≠ os.getD 1 0 := fun e => hi.1 (by
    rw [← h1]
    exact (hr.same 4 1 (by show 4 < os.length; omega) (by show 1 < os.length; omega)).2 (.step ⟨by show 4 < os.length; omega, rfl⟩ ((nb3 h).2 (by omega)) (.refl ⟨by show 1 < os.length; omega, e.symm⟩)))
  simp only [amid, Bool.and_eq_true, decide_eq_true_eq]
  exact ⟨⟨⟨by omega, by omega⟩, by omega⟩, ho⟩
theorem amid_in (h : os.length = 9) (hr : IsReg ⟨3, os⟩ r) (ha : amid os r = true) : In ⟨3, os⟩ r (r 4) (r 1) := by
  simp only [amid, Bool.and_eq_true, decide_eq_true_eq] at ha
  obtain ⟨⟨⟨h3, h5⟩, h7⟩, ho⟩ := ha
  have hne : r 4 ≠ r 1 := fun e => ho (hr.own (by show 4 < os.length; omega) (by show 1 < os.length; omega) e)
  have hq : ∀ x, nb ⟨3, os⟩ 4 x → r x = r 1 := fun x hx => by
    rcases (nb3 h).1 hx with rfl | rfl | rfl | rfl <;> omega
  refine ⟨hne, ?_⟩
  rintro ⟨p, q, hp, hc, hrim⟩
  have hp4 : p = 4 := by
    have hs := (hr.same 4 p (by show 4 < os.length; omega) hc.left.1).1 hp.symm
    cases hs with
    | refl _ => rfl
    | step h1 h2 h3 =>
      have e := hq _ h2
      have : r 4 = r _ := (hr.same 4 _ (by show 4 < os.length; omega) h3.left.1).2 (.step h1 h2 (.refl h3.left))
      exact absurd (this.trans e) hne
  subst hp4
  cases hc with
  | refl _ => rw [mid3 h] at hrim; cases hrim
  | step h1 h2 h3 => exact h3.left.2 (hq _ h2)
/-- who has which depth -/
theorem dep3 (h : os.length = 9) (hr : IsReg ⟨3, os⟩ r) (hk : IsMany ⟨3, os⟩ r k) {p : Nat} (hp : p < 9) : decide (0 < inCount ⟨3, os⟩ r (r p) k) = (decide (p = 4) && amid os r) := by
  rw [Bool.eq_iff_iff]
  simp only [Bool.and_eq_true, decide_eq_true_eq, inCount_pos]
  constructor
  · rintro ⟨j, hj, hi⟩
    have h4 : p = 4 := Classical.byContradiction fun h4 => outer3 h hp h4 j hi
    subst h4
    exact ⟨rfl, (mid_in h hr hi).1⟩
  · rintro ⟨rfl, ha⟩
    exact ⟨r 1, hk.lt 1 (by show 1 < os.length; omega), amid_in h hr ha⟩
/-- what Clear leaves -/
theorem clr3 (h : os.length = 9) (hr : IsReg ⟨3, os⟩ r) (hk : IsMany ⟨3, os⟩ r k) {T O : Nat → Int} (hT : ∀ j, j < k → IsOutm ⟨3, os⟩ r k T j) (hO : IsGiv ⟨3, os⟩ r T O os.length) {p : Nat} (hp : p < 9) : O p = if p = 4 ∧ amid os r = true then os.getD 1 0 else os.getD p 0 := by
  have hpl : p < os.length := by omega
  have hout : Outer ⟨3, os⟩ r (r p) → O p = os.getD p 0 := fun ho => by
    rcases hT (r p) (hk.lt p hpl) with ⟨e, -⟩ | ⟨y, -, -, hi, -⟩
    · exact hO.1 p hpl e
    · exact absurd hi (ho y)
  by_cases h4 : p = 4
  · subst h4
    by_cases ha : amid os r = true
    · rw [if_pos ⟨rfl, ha⟩]
      rcases hT (r 4) (hk.lt 4 hpl) with ⟨-, ho⟩ | ⟨y, e, -, hi, -⟩
      · exact absurd (amid_in h hr ha) (ho _)
      · have h1 := (mid_in h hr hi).2
        subst h1
        exact hO.2.1 4 hpl 1 (by show 1 < os.length; omega) e
    · rw [if_neg (fun e => ha e.2)]
      exact hout fun j hj => ha (mid_in h hr hj).1
  · rw [if_neg (fun e => h4 e.1)]
    exact hout (outer3 h hp h4)
theorem plot3 (h : os.length = 9) (hr : IsReg ⟨3, os⟩ r) (hk : IsMany ⟨3, os⟩ r k) {T O : Nat → Int} (hT : ∀ j, j < k → IsOutm ⟨3, os⟩ r k T j) (hO : IsGiv ⟨3, os⟩ r T O os.length) : (plotL O (fun p => os.getD p 0) os.length).map Int.ofNat = if amid os r = true then [4] else [] := by
  have e : ∀ p, p < 9 → p ≠ 4 → ¬ O p ≠ os.getD p 0 := fun p hp h4 => by rw [clr3 h hr hk hT hO hp, if_neg (fun e => h4 e.1)]; exact fun e => e rfl
  have e4 : (O 4 ≠ os.getD 4 0) ↔ amid os r = true := by
    rw [clr3 h hr hk hT hO (by omega)]
    by_cases ha : amid os r = true
    · rw [if_pos ⟨rfl, ha⟩]
      have h2 := ha
      simp only [amid, Bool.and_eq_true, decide_eq_true_eq] at h2
      exact ⟨fun _ => ha, fun _ e => h2.2 e.symm⟩
    · rw [if_neg (fun e => ha e.2)]
      exact ⟨fun e => absurd rfl e, fun e => absurd e ha⟩
  rw [h]
  simp only [plotL, if_neg (e 0 (by omega) (by omega)), if_neg (e 1 (by omega) (by omega)), if_neg (e 2 (by omega) (by omega)), if_neg (e 3 (by omega) (by omega)), if_neg (e 5 (by omega) (by omega)), if_neg (e 6 (by omega) (by omega)), if_neg (e 7 (by omega) (by omega)), if_neg (e 8 (by omega) (by omega)), List.append_nil, List.nil_append]
  by_cases ha : amid os r = true
  · rw [if_pos (e4.2 ha), if_pos ha]; rfl
  · rw [if_neg (fun e => ha (e4.1 e)), if_neg ha]; rfl
end
end Go.Proofs.Ytiacgaplhndlnaa
