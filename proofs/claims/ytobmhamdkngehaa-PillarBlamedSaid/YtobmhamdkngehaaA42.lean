/-
  Parts of the proof, in the order in which they build: PoB.
-/
import Derived.Test.YtobmhamdkngehaaC42
import Derived.Test.YtobmhamdkngehaaA28
import Derived.Test.YtobmhamdkngehaaA18
import Derived.Test.YtobmhamdkngehaaA17
import Derived.Test.YtobmhamdkngehaaA41
set_option linter.unusedVariables false
set_option linter.unusedSimpArgs false
namespace Go.Proofs.Ytobmhamdkngehaa
open Go.RowKit Go.Shelf
open Lim

/-- heights of a profile, and a bend, that are true -/
structure TruB (p : Pf) (xs : List Int) (bd : Int) : Prop where
  len : xs.length = p.n
  h : ∀ k, k < p.n → (p.g k).1 ≤ xs.getD k 0 ∧ xs.getD k 0 ≤ (p.g k).2
  b : p.lo ≤ bd ∧ bd ≤ p.hi
theorem TruB.tr {p : Pf} {xs : List Int} {bd : Int} (h : TruB p xs bd) : truthB p xs = true := by
  unfold truthB
  rw [List.all_eq_true]
  intro k hk
  rw [inR_iff]
  exact h.h k (List.mem_range.1 hk)
theorem TruB.ok {p : Pf} (hp : p.Ok) {xs : List Int} {bd : Int} (h : TruB p xs bd) : (p.own xs bd).Ok := own_ok hp h.len h.tr (inR_iff.2 h.b)
/-- the worst heights for two places, of the first k places -/
structure WorTo (p : Pf) (a b k : Nat) (A B : List Int) : Prop where
  la : A.length = p.n
  lb : B.length = p.n
  h : ∀ x, x < k → A.getD x 0 = (if x = a ∨ x = b then (p.g x).1 else (p.g x).2) ∧ B.getD x 0 = (if x = a ∨ x = b then (p.g x).2 else (p.g x).1)
theorem WorTo.set {p : Pf} {a b k : Nat} {A B : List Int} (H : WorTo p a b k A B) (hk : k < p.n) {x y : Int} (hx : x = if k = a ∨ k = b then (p.g k).1 else (p.g k).2) (hy : y = if k = a ∨ k = b then (p.g k).2 else (p.g k).1) : WorTo p a b (k + 1) (A.set k x) (B.set k y) := by
  refine ⟨by rw [List.length_set]; exact H.la, by rw [List.length_set]; exact H.lb, fun c hc => ?_⟩
  have hla := H.la
  have hlb := H.lb
  rw [lev_get, lev_get]
  by_cases e : k = c
  · subst e
    rw [if_pos (show k = k ∧ k < A.length from ⟨rfl, by omega⟩), if_pos (show k = k ∧ k < B.length from ⟨rfl, by omega⟩)]
    exact ⟨hx, hy⟩
  · rw [if_neg (fun h : k = c ∧ k < A.length => e h.1), if_neg (fun h : k = c ∧ k < B.length => e h.1)]
    exact H.h c (by omega)
/-- a profile that is made is right -/
theorem MadeP.ok {M : Nat} {p : Pf} {T : List Int} (h : MadeP M p T) (hM : M ≤ 12) : p.Ok := by
  have hn := h.n
  have ht := h.tall
  have hb := h.bd
  refine ⟨hn.1, by show p.ats.length ≤ 40; omega, h.gl, fun i hi => ?_, fun i hi => ?_, by omega, by omega, fun i hi => h.a1 i hi⟩
  · have hi' : i < p.ats.length := hi
    have := h.a0 i hi
    show 0 ≤ p.ats.getD i 0 ∧ p.ats.getD i 0 ≤ 20000
    omega
  · have := h.h i hi
    show 0 ≤ (p.gr.getD i (0, 0)).1 ∧ (p.gr.getD i (0, 0)).1 ≤ (p.gr.getD i (0, 0)).2 ∧ (p.gr.getD i (0, 0)).2 ≤ 1000000
    omega
end Go.Proofs.Ytobmhamdkngehaa
