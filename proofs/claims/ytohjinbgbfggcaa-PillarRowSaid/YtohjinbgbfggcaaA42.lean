/-
  Parts of the proof, in the order in which they build: PoB.
-/
import Derived.Test.YtohjinbgbfggcaaC42
import Derived.Test.YtohjinbgbfggcaaA28
import Derived.Test.YtohjinbgbfggcaaA18
import Derived.Test.YtohjinbgbfggcaaA17
import Derived.Test.YtohjinbgbfggcaaA41
set_option linter.unusedVariables false
set_option linter.unusedSimpArgs false
namespace Go.Proofs.Ytohjinbgbfggcaa
open Go.RowKit Go.Shelf
open Lim

theorem twoS_of {n i j : Nat} (hi : i < n) (hj : j < n) (hij : i ≠ j) : twoS n (i : Int) (j : Int) = true := by
  unfold twoS
  simp only [Bool.and_eq_true, inR_iff, decide_eq_true_eq]
  omega
theorem sees_ok {p : Pf} (hp : p.Ok) {i j : Nat} (hi : i < p.n) (hj : j < p.n) (hij : i ≠ j) : seesAns p (i : Int) (j : Int) = .tuple #[.bool (p.sees true false i j), .bool (p.sure i j), .int .i64 0] := by
  unfold seesAns
  rw [if_neg (by rw [hp.err]; decide), if_pos (twoS_of hi hj hij)]
  rfl
/-- heights of a profile, and a bend, that are true -/
structure TruB (p : Pf) (xs : List Int) (bd : Int) : Prop where
  len : xs.length = p.n
  h : ∀ k, k < p.n → (p.g k).1 ≤ xs.getD k 0 ∧ xs.getD k 0 ≤ (p.g k).2
  b : p.lo ≤ bd ∧ bd ≤ p.hi
theorem TruB.tr {p : Pf} {xs : List Int} {bd : Int} (h : TruB p xs bd) : truthB p xs = true := by
  unfold truthB
  rw [List.all_eq_true]
  intro k hk
  rw [inR_iff]
  exact h.h k (List.mem_range.1 hk)
theorem real_ok {p : Pf} (hp : p.Ok) {xs : List Int} {bd : Int} (h : TruB p xs bd) {i j : Nat} (hi : i < p.n) (hj : j < p.n) (hij : i ≠ j) : realAns p xs bd (i : Int) (j : Int) = .tuple #[.bool ((p.own xs bd).sure i j), .int .i64 0] := by
  unfold realAns
  rw [if_neg (by rw [hp.err]; decide), if_pos ⟨h.len, twoS_of hi hj hij⟩, if_pos ⟨h.tr, inR_iff.2 h.b⟩]
  rfl
theorem TruB.nar {p : Pf} {xs : List Int} {bd : Int} (hp : p.Ok) (h : TruB p xs bd) : Nar p (p.own xs bd) :=
  ⟨rfl, by show (xs.map _).length = _; rw [List.length_map, h.len, hp.gn], Int.le_refl _, h.b.1, h.b.2, fun k hk => by
    rw [own_g k (by rw [h.len]; exact hk)]
    exact h.h k hk⟩
theorem own_short {p : Pf} {xs : List Int} {bd : Int} {hh bh : Bool} {i j k : Nat} (hi : i < xs.length) (hj : j < xs.length) (hk : k < xs.length) :
    (p.own xs bd).short hh bh i j k = shV (xs.getD k 0) bd (xs.getD i 0 + p.tall) (xs.getD j 0 + p.tall) (p.a k - p.a i) (p.a j - p.a k) := by
  rw [short_eq, own_g i hi, own_g j hj, own_g k hk]
  cases hh <;> cases bh <;> rfl
theorem own_can {p : Pf} {xs : List Int} {bd : Int} {i j : Nat} (hi : i < xs.length) (hj : j < xs.length) : (p.own xs bd).sees true false i j = (p.own xs bd).sure i j := by
  refine open_same (fun k h1 h2 => ?_)
  rw [own_short (by omega) (by omega) (by omega), own_short (by omega) (by omega) (by omega)]
/-- who surely sees, sees in each truth; who sees in a truth, can see -/
theorem real_le {p : Pf} (hp : p.Ok) {xs : List Int} {bd : Int} (h : TruB p xs bd) {i j : Nat} (hi : i < p.n) (hj : j < p.n) :
    (p.sure i j = true → (p.own xs bd).sure i j = true) ∧ ((p.own xs bd).sure i j = true → p.sees true false i j = true) :=
  ⟨(h.nar hp).sure hp hi hj, fun hs => (h.nar hp).can hp rfl hi hj (by rw [own_can (by rw [h.len]; exact hi) (by rw [h.len]; exact hj)]; exact hs)⟩
/-- the worst heights for two places, of the first k places -/
structure WorTo (p : Pf) (a b k : Nat) (A B : List Int) : Prop where
  la : A.length = p.n
  lb : B.length = p.n
  h : ∀ x, x < k → A.getD x 0 = (if x = a ∨ x = b then (p.g x).1 else (p.g x).2) ∧ B.getD x 0 = (if x = a ∨ x = b then (p.g x).2 else (p.g x).1)
theorem WorTo.set {p : Pf} {a b k : Nat} {A B : List Int} (H : WorTo p a b k A B) (hk : k < p.n) {x y : Int} (hx : x = if k = a ∨ k = b then (p.g k).1 else (p.g k).2) (hy : y = if k = a ∨ k = b then (p.g k).2 else (p.g k).1) : WorTo p a b (k + 1) (A.set k x) (B.set k y) := by
  refine ⟨by rw [List.length_set]; exact H.la, by rw [List.length_set]; exact H.lb, fun c hc => ?_⟩
  have hla := H.la
  have hlb := H.lb
  rw [lev_get, lev_get]
  by_cases e : k = c
  · subst e
    rw [if_pos (show k = k ∧ k < A.length from ⟨rfl, by omega⟩), if_pos (show k = k ∧ k < B.length from ⟨rfl, by omega⟩)]
    exact ⟨hx, hy⟩
  · rw [if_neg (fun h : k = c ∧ k < A.length => e h.1), if_neg (fun h : k = c ∧ k < B.length => e h.1)]
    exact H.h c (by omega)
/-- a profile that is made is right -/
theorem MadeP.ok {M : Nat} {p : Pf} {T : List Int} (h : MadeP M p T) (hM : M ≤ 12) : p.Ok := by
  have hn := h.n
  have ht := h.tall
  have hb := h.bd
  refine ⟨hn.1, by show p.ats.length ≤ 40; omega, h.gl, fun i hi => ?_, fun i hi => ?_, by omega, by omega, fun i hi => h.a1 i hi⟩
  · have hi' : i < p.ats.length := hi
    have := h.a0 i hi
    show 0 ≤ p.ats.getD i 0 ∧ p.ats.getD i 0 ≤ 20000
    omega
  · have := h.h i hi
    show 0 ≤ (p.gr.getD i (0, 0)).1 ∧ (p.gr.getD i (0, 0)).1 ≤ (p.gr.getD i (0, 0)).2 ∧ (p.gr.getD i (0, 0)).2 ≤ 1000000
    omega
end Go.Proofs.Ytohjinbgbfggcaa
