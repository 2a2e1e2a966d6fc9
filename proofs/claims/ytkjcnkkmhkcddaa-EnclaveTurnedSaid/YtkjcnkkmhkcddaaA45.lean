/-
  Parts of the proof, in the order in which they build: EwS.
-/
import Derived.Test.YtkjcnkkmhkcddaaA22
import Derived.Test.YtkjcnkkmhkcddaaA35
import Derived.Test.YtkjcnkkmhkcddaaA27
import Derived.Test.YtkjcnkkmhkcddaaC1
set_option linter.unusedVariables false
set_option linter.unusedSimpArgs false
namespace Go.Proofs.Ytkjcnkkmhkcddaa
open Go.RowKit Go.Shelf
open Lim

attribute [local go_sem] Oper.semAt_some

/-- how many regions a list of their numbers has -/
def manyL : List Int → Int → Int
  | [], n => n
  | x :: l, n => manyL l (max n (x + 1))
theorem manyL_snoc (x : Int) : ∀ (l : List Int) (n : Int), manyL (l ++ [x]) n = max (manyL l n) (x + 1)
  | [], _ => rfl
  | y :: l, n => manyL_snoc x l _
theorem manyL_range : ∀ (l : List Int) (n : Int), (∀ x ∈ l, 0 ≤ x ∧ x ≤ 1000) → 0 ≤ n → n ≤ 1001 → 0 ≤ manyL l n ∧ manyL l n ≤ 1001
  | [], n, _, h1, h2 => ⟨h1, h2⟩
  | x :: l, n, h, h1, h2 => manyL_range l _ (fun y hy => h y (List.mem_cons_of_mem _ hy)) (by omega) (by have := h x List.mem_cons_self; omega)
theorem many_reg {m : Mp} (hm : m.Ok) {r : Nat → Nat} {k : Nat} (hk : IsMany m r k) : manyL (regL r m.n) 0 = k := by
  have hle : ∀ t, t ≤ m.n → manyL (regL r t) 0 ≤ k ∧ ∀ p, p < t → (r p : Int) + 1 ≤ manyL (regL r t) 0 := by
    intro t
    induction t with
    | zero => intro _; exact ⟨by show (0 : Int) ≤ k; omega, fun p hp => by omega⟩
    | succ t ih =>
      intro ht
      have h := ih (by omega)
      have e : regL r (t + 1) = regL r t ++ [(r t : Int)] := by unfold regL; rw [List.range_succ, List.map_append]; rfl
      rw [e, manyL_snoc]
      have h2 := hk.lt t (by omega)
      refine ⟨by omega, fun p hp => ?_⟩
      by_cases ep : p = t
      · subst ep; omega
      · have := h.2 p (by omega); omega
  have h := hle m.n (Nat.le_refl _)
  have hk0 : 0 < k := Nat.lt_of_le_of_lt (Nat.zero_le _) (hk.lt 0 hm.n0)
  obtain ⟨p, h1, h2⟩ := hk.ex (k - 1) (by omega)
  have := h.2 p h1
  omega
end Go.Proofs.Ytkjcnkkmhkcddaa
