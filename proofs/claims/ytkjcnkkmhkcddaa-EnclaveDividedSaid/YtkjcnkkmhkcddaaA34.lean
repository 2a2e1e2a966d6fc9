/-
  Parts of the proof, in the order in which they build: EwG, EwH.
-/
import Derived.Test.YtkjcnkkmhkcddaaA33
import Derived.Test.YtkjcnkkmhkcddaaA27
set_option linter.unusedVariables false
set_option linter.unusedSimpArgs false
/-
  What a division cuts is what the plots' list says.
-/
namespace Go.Proofs.Ytkjcnkkmhkcddaa

theorem hsF_parts {n wd : Nat} {E S : Nat → Int} (hw : 0 < wd) (a b : Nat) : (hsF n wd E S a b).getD 0 = ((if eas n wd a b then E a else 0) + (if sou n wd a b then S a else 0)) + ((if eas n wd b a then E b else 0) + (if sou n wd b a then S b else 0)) := by
  unfold hsF
  by_cases h1 : eas n wd a b
  · have n0 : ¬ sou n wd a b := fun h => eas_sou h1 h
    have n1 : ¬ eas n wd b a := fun h => by have := eas_lt h1; have := eas_lt h; omega
    have n2 : ¬ sou n wd b a := fun h => by have := eas_lt h1; have := sou_lt hw h; omega
    simp [h1, n0, n1, n2]
  · by_cases h2 : sou n wd a b
    · have n1 : ¬ eas n wd b a := fun h => by have := sou_lt hw h2; have := eas_lt h; omega
      have n2 : ¬ sou n wd b a := fun h => by have := sou_lt hw h2; have := sou_lt hw h; omega
      simp [h1, h2, n1, n2]
    · by_cases h3 : eas n wd b a
      · have n0 : ¬ sou n wd b a := fun h => eas_sou h3 h
        simp [h1, h2, h3, n0]
      · by_cases h4 : sou n wd b a <;> simp [h1, h2, h3, h4]
theorem cut_parts {n wd : Nat} {E S : Nat → Int} {D : Nat → Bool} (hw : 0 < wd) :
    cutOf n (fun a b => (hsF n wd E S a b).getD 0) D = sm n fun a => sm n fun b => if D a = D b then 0 else (if eas n wd a b then E a else 0) + (if sou n wd a b then S a else 0) := by
  have h1 : cutOf n (fun a b => (hsF n wd E S a b).getD 0) D = (sm n fun a => sm n fun b => if D a = false ∧ D b = true then (if eas n wd a b then E a else 0) + (if sou n wd a b then S a else 0) else 0) +
      sm n fun a => sm n fun b => if D a = false ∧ D b = true then (if eas n wd b a then E b else 0) + (if sou n wd b a then S b else 0) else 0 := by
    unfold cutOf
    rw [← sm_add]
    refine sm_congr n fun a _ => ?_
    rw [← sm_add]
    refine sm_congr n fun b _ => ?_
    by_cases h : D a = false ∧ D b = true
    · rw [if_pos h, if_pos h, if_pos h]; exact hsF_parts hw a b
    · rw [if_neg h, if_neg h, if_neg h]; rfl
  rw [h1, sm_swap (fun a b => if D a = false ∧ D b = true then (if eas n wd b a then E b else 0) + (if sou n wd b a then S b else 0) else 0) n n, ← sm_add]
  refine sm_congr n fun a _ => ?_
  rw [← sm_add]
  refine sm_congr n fun b _ => ?_
  cases ha : D a <;> cases hb : D b <;> simp
theorem sm_pick (n k : Nat) (c : Nat → Int) : sm n (fun b => if b = k then c b else 0) = if k < n then c k else 0 := by
  rw [← sm_one k (c k) n]
  exact sm_congr n fun b _ => by
    by_cases e : b = k
    · rw [if_pos e, if_pos e, e]
    · rw [if_neg e, if_neg e]
theorem cutL_sum {n wd : Nat} {o E S : Nat → Int} : ∀ p, (cutL n wd o E S p).sum = sm p fun a => (if a % wd + 1 < wd ∧ o (a + 1) ≠ o a then E a else 0) + (if a + wd < n ∧ o (a + wd) ≠ o a then S a else 0)
  | 0 => rfl
  | p + 1 => by
    rw [cutL, sm, ← cutL_sum p, List.sum_append, List.sum_append]
    by_cases h1 : p % wd + 1 < wd ∧ o (p + 1) ≠ o p <;> by_cases h2 : p + wd < n ∧ o (p + wd) ≠ o p <;> simp [h1, h2] <;> omega
theorem eas_iff {n wd a : Nat} (hw : 0 < wd) (hd : n % wd = 0) (ha : a < n) : eas n wd a (a + 1) ↔ a % wd + 1 < wd := by
  have hm := Nat.mod_lt a hw
  constructor
  · intro h
    apply Classical.byContradiction
    intro h2
    apply h.2.1
    rw [Nat.add_mod]
    by_cases e : wd = 1
    · subst e; exact Nat.mod_one _
    · rw [Nat.mod_eq_of_lt (show 1 < wd by omega), show a % wd + 1 = wd by omega, Nat.mod_self]
  · intro h
    refine ⟨rfl, ?_, next_lt hd ha h⟩
    rw [Nat.add_mod, Nat.mod_eq_of_lt (show 1 < wd by omega), Nat.mod_eq_of_lt h]
    omega
/-- the list's sum is what the division cuts -/
theorem cutL_cut {n wd : Nat} {o E S : Nat → Int} {D : Nat → Bool} (hw : 0 < wd) (hd : n % wd = 0) (ho : ∀ a b, a < n → b < n → (o a = o b ↔ D a = D b)) : (cutL n wd o E S n).sum = cutOf n (fun a b => (hsF n wd E S a b).getD 0) D := by
  rw [cut_parts hw, cutL_sum]
  refine sm_congr n fun a ha => ?_
  have h1 : sm n (fun b => if D a = D b then 0 else (if eas n wd a b then E a else 0) + (if sou n wd a b then S a else 0)) = sm n (fun b => if b = a + 1 then (if a % wd + 1 < wd ∧ o (a + 1) ≠ o a then E a else 0) else 0) + sm n (fun b => if b = a + wd then (if a + wd < n ∧ o (a + wd) ≠ o a then S a else 0) else 0) := by
    rw [← sm_add]
    refine sm_congr n fun b hb => ?_
    have hsplit : (if D a = D b then (0 : Int) else (if eas n wd a b then E a else 0) + (if sou n wd a b then S a else 0)) = (if D a = D b then 0 else if eas n wd a b then E a else 0) + (if D a = D b then 0 else if sou n wd a b then S a else 0) := by
      by_cases h : D a = D b
      · rw [if_pos h, if_pos h, if_pos h]; rfl
      · rw [if_neg h, if_neg h, if_neg h]
    rw [hsplit]
    have p1 : (if D a = D b then (0 : Int) else if eas n wd a b then E a else 0) = if b = a + 1 then (if a % wd + 1 < wd ∧ o (a + 1) ≠ o a then E a else 0) else 0 := by
      by_cases c1 : b = a + 1
      · subst c1
        have hab := ho (a + 1) a hb ha
        have hE := eas_iff (n := n) hw hd ha
        rw [if_pos rfl]
        by_cases hD : D a = D (a + 1)
        · rw [if_pos hD, if_neg (fun h => h.2 (hab.2 hD.symm))]
        · rw [if_neg hD]
          by_cases hq : a % wd + 1 < wd
          · rw [if_pos (hE.2 hq), if_pos ⟨hq, fun e => hD (hab.1 e).symm⟩]
          · rw [if_neg (fun h => hq (hE.1 h)), if_neg (fun h => hq h.1)]
      · rw [if_neg c1, if_neg (fun h : eas n wd a b => c1 h.1.symm)]
        split <;> rfl
    have p2 : (if D a = D b then (0 : Int) else if sou n wd a b then S a else 0) = if b = a + wd then (if a + wd < n ∧ o (a + wd) ≠ o a then S a else 0) else 0 := by
      by_cases c1 : b = a + wd
      · subst c1
        have hab := ho (a + wd) a hb ha
        rw [if_pos rfl, if_pos (show sou n wd a (a + wd) from ⟨rfl, hb⟩)]
        by_cases hD : D a = D (a + wd)
        · rw [if_pos hD, if_neg (fun h => h.2 (hab.2 hD.symm))]
        · rw [if_neg hD, if_pos ⟨hb, fun e => hD (hab.1 e).symm⟩]
      · rw [if_neg c1, if_neg (fun h : sou n wd a b => c1 h.1.symm)]
        split <;> rfl
    rw [p1, p2]
  rw [h1, sm_pick n (a + 1) (fun _ => if a % wd + 1 < wd ∧ o (a + 1) ≠ o a then E a else 0), sm_pick n (a + wd) (fun _ => if a + wd < n ∧ o (a + wd) ≠ o a then S a else 0)]
  have q1 : (if a + 1 < n then (if a % wd + 1 < wd ∧ o (a + 1) ≠ o a then E a else 0) else 0) = if a % wd + 1 < wd ∧ o (a + 1) ≠ o a then E a else 0 := by
    by_cases c : a + 1 < n
    · rw [if_pos c]
    · rw [if_neg c, if_neg (fun h => c (next_lt hd ha h.1))]
  have q2 : (if a + wd < n then (if a + wd < n ∧ o (a + wd) ≠ o a then S a else 0) else 0) = if a + wd < n ∧ o (a + wd) ≠ o a then S a else 0 := by
    by_cases c : a + wd < n
    · rw [if_pos c]
    · rw [if_neg c, if_neg (fun h => c h.1)]
  rw [q1, q2]
end Go.Proofs.Ytkjcnkkmhkcddaa
/-
  What a land without error is.
-/
namespace Go.Proofs.Ytkjcnkkmhkcddaa

theorem errL_ok {wd : Int} {os es ss : List Int} (h : errL wd os es ss = 0) : Mp.Ok ⟨wd.toNat, os⟩ ∧ wd = (wd.toNat : Int) ∧ es.length = os.length ∧ ss.length = os.length ∧ (∀ k, k < os.length → -1 ≤ os.getD k 0 ∧ os.getD k 0 ≤ 1) ∧ (∀ k, k < os.length → 0 ≤ es.getD k 0 ∧ es.getD k 0 ≤ 1000) ∧ (∀ k, k < os.length → 0 ≤ ss.getD k 0 ∧ ss.getD k 0 ≤ 1000) ∧
    (∀ k, k < os.length → badL wd.toNat es ss os.length k = false) ∧ 0 ∈ os ∧ 1 ∈ os := by
  unfold errL at h
  by_cases h1 : sizL wd os es ss = true
  · rw [if_pos h1] at h
    by_cases h2 : valL os es ss = true
    · rw [if_pos h2] at h
      by_cases h3 : ((List.range os.length).any fun q => badL wd.toNat es ss os.length q) = true
      · rw [if_pos h3] at h; cases h
      · rw [if_neg h3] at h
        by_cases h4 : 0 ∈ os ∧ 1 ∈ os
        · simp only [sizL, Bool.and_eq_true, decide_eq_true_eq] at h1
          simp only [valL, Bool.and_eq_true, List.all_eq_true, List.mem_range, inB_iff] at h2
          obtain ⟨⟨c1, c2⟩, c3⟩ := h1
          obtain ⟨o1, o2⟩ := countB_ok c1
          refine ⟨o1, o2, c2, c3, h2.1.1, fun k hk => h2.1.2 k (by omega), fun k hk => h2.2 k (by omega), fun k hk => ?_, h4.1, h4.2⟩
          have h5 := h3
          rw [Bool.not_eq_true, List.any_eq_false] at h5
          have := h5 k (by simpa using hk)
          simpa using this
        · rw [if_neg h4] at h; cases h
    · rw [if_neg h2] at h; cases h
  · rw [if_neg h1] at h; cases h
/-- houses stand between neighbours alone -/
theorem hsF_nb {m : Mp} (hm : m.Ok) {E S : Nat → Int} {a b : Nat} (h : (hsF m.n m.wd E S a b).isSome = true) : nb m a b := by
  have one : ∀ {x y : Nat}, (eas m.n m.wd x y ∨ sou m.n m.wd x y) → nb m x y ∧ x < m.n := fun {x y} h => by
    rcases h with h | h
    · have hx : x < m.n := by have := eas_lt h; have := h.2.2; omega
      have e : y = x + 1 := h.1.symm
      subst e
      exact ⟨mem_nbr.2 (.inr (.inl ⟨(eas_iff hm.w0 hm.dv hx).1 h, by omega⟩)), hx⟩
    · have hx : x < m.n := by have := sou_lt hm.w0 h; have := h.2; omega
      have e : y = x + m.wd := h.1.symm
      subst e
      exact ⟨mem_nbr.2 (.inr (.inr (.inr ⟨h.2, by omega⟩))), hx⟩
  unfold hsF at h
  by_cases h1 : eas m.n m.wd a b
  · exact (one (.inl h1)).1
  · rw [if_neg h1] at h
    by_cases h2 : sou m.n m.wd a b
    · exact (one (.inr h2)).1
    · rw [if_neg h2] at h
      by_cases h3 : eas m.n m.wd b a
      · exact nb_symm hm (one (.inl h3)).2 (one (.inl h3)).1
      · rw [if_neg h3] at h
        by_cases h4 : sou m.n m.wd b a
        · exact nb_symm hm (one (.inr h4)).2 (one (.inr h4)).1
        · rw [if_neg h4] at h; cases h
end Go.Proofs.Ytkjcnkkmhkcddaa
