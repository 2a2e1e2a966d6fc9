/-
  Parts of the proof, in the order in which they build: EnD.
-/
import Derived.Test.YtiacgaplhndlnaaN8
set_option linter.unusedVariables false
set_option linter.unusedSimpArgs false
namespace Go.Proofs.Ytiacgaplhndlnaa

section
variable {m : Mp} {r : Nat → Nat} {i j : Nat} {M : Nat → Bool} {F : Int → Int} {rk : Nat → Nat} {t : Nat}
theorem Free.lt {k : Nat} (h : Free m r j k) : k < m.n := h.1
/-- the search that ends without a plot of the rim finds that there is no way -/
theorem out_none (hm : m.Ok) (h : BInv m (Free m r j) (fun k => r k = i) (rimB m) M F rk t []) : ¬ OutW m r i j := by
  rintro ⟨p, q, hp, hc, hq⟩
  have h1 := h.none hm (fun _ h => h.1) q ((hc.symm hm fun _ h => h.1).re hp)
  rw [hq] at h1; cases h1
/-- a list is a way out of region i without region j -/
structure Leads (m : Mp) (r : Nat → Nat) (i j : Nat) (L : List Nat) : Prop where
  lt : ∀ p ∈ L, p < m.n
  free : ∀ p ∈ L, r p ≠ j
  adj : ∀ l a b s, L = l ++ a :: b :: s → nb m a b
  first : ∃ b s, L = b :: s ∧ r b = i
  last : ∃ l b, L = l ++ [b] ∧ rimB m b = true
theorem Leads.ne {L : List Nat} (h : Leads m r i j L) : L ≠ [] := by
  obtain ⟨b, s, e, -⟩ := h.first
  rw [e]; simp
theorem way_leads {L : List Nat} (h : IsWay m (Free m r j) (fun k => r k = i) (rimB m) L) : Leads m r i j L :=
  ⟨fun p hp => (h.cells p hp).1, fun p hp => (h.cells p hp).2, h.adj, h.first, h.last⟩
/-- along a list one comes from its first plot to its last one -/
theorem adj_cn {A : Nat → Prop} : ∀ {L : List Nat} {a b : Nat} {l s : List Nat}, L = a :: s → L = l ++ [b] → (∀ p ∈ L, A p) → (∀ l a b s, L = l ++ a :: b :: s → nb m a b) → Cn m A a b
  | [], a, b, l, s, h1, _, _, _ => by cases h1
  | [x], a, b, l, s, h1, h2, hA, _ => by
    cases h1
    have e : b = x := by
      have := congrArg List.getLast? h2
      simpa using this.symm
    rw [e]; exact .refl (hA x (by simp))
  | x :: y :: L, a, b, l, s, h1, h2, hA, hadj => by
    cases h1
    have hl : l ≠ [] := fun e => by rw [e] at h2; simp at h2
    obtain ⟨z, l', rfl⟩ := List.exists_cons_of_ne_nil hl
    have h3 : y :: L = l' ++ [b] := by
      have := List.cons.inj h2; exact this.2
    exact .step (hA x (by simp)) (hadj [] x y L rfl) (adj_cn (s := L) rfl h3 (fun p hp => hA p (by simp [hp])) (fun l2 a2 b2 s2 e => hadj (x :: l2) a2 b2 s2 (by rw [e]; rfl)))
/-- a way out is one -/
theorem Leads.out {L : List Nat} (h : Leads m r i j L) : OutW m r i j := by
  obtain ⟨b, s, e1, h1⟩ := h.first
  obtain ⟨l, c, e2, h2⟩ := h.last
  exact ⟨b, c, h1, adj_cn e1 e2 (fun p hp => ⟨h.lt p hp, h.free p hp⟩) h.adj, h2⟩
end
end Go.Proofs.Ytiacgaplhndlnaa
