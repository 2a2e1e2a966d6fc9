/-
  Parts of the proof, in the order in which they build: EwE.
-/
import Derived.Test.YtkjcnkkmhkcddaaA32
set_option linter.unusedVariables false
set_option linter.unusedSimpArgs false
namespace Go.Proofs.Ytkjcnkkmhkcddaa

theorem hsF_symm {n wd : Nat} {E S : Nat → Int} (hw : 0 < wd) (a b : Nat) : hsF n wd E S a b = hsF n wd E S b a := by
  unfold hsF
  by_cases h1 : eas n wd a b
  · have n1 : ¬ eas n wd b a := fun h => by have := eas_lt h1; have := eas_lt h; omega
    have n2 : ¬ sou n wd b a := fun h => by have := eas_lt h1; have := sou_lt hw h; omega
    simp [h1, n1, n2]
  · by_cases h2 : sou n wd a b
    · have n1 : ¬ eas n wd b a := fun h => by have := sou_lt hw h2; have := eas_lt h; omega
      have n2 : ¬ sou n wd b a := fun h => by have := sou_lt hw h2; have := sou_lt hw h; omega
      simp [h1, h2, n1, n2]
    · simp [h1, h2]
theorem hsF_range {n wd : Nat} {E S : Nat → Int} (hE : ∀ k, k < n → 0 ≤ E k ∧ E k ≤ 1000) (hS : ∀ k, k < n → 0 ≤ S k ∧ S k ≤ 1000) (a b : Nat) : 0 ≤ (hsF n wd E S a b).getD 0 ∧ (hsF n wd E S a b).getD 0 ≤ 1000 := by
  unfold hsF
  by_cases h1 : eas n wd a b
  · rw [if_pos h1]; exact hE a (by have := eas_lt h1; have := h1.2.2; omega)
  · rw [if_neg h1]
    by_cases h2 : sou n wd a b
    · rw [if_pos h2]; exact hS a (by have := h2.1; have := h2.2; omega)
    · rw [if_neg h2]
      by_cases h3 : eas n wd b a
      · rw [if_pos h3]; exact hE b (by have := eas_lt h3; have := h3.2.2; omega)
      · rw [if_neg h3]
        by_cases h4 : sou n wd b a
        · rw [if_pos h4]; exact hS b (by have := h4.1; have := h4.2; omega)
        · rw [if_neg h4]; simp
/-- g goes, and R is what more can go -/
structure Full (n : Nat) (own : Nat → Int) (h : Nat → Nat → Option Int) (R : Nat → Nat → Option Int) (g : Nat → Nat → Int) : Prop where
  fl : Flow n own (fun a b => (h a b).getD 0) g
  rm : ∀ a b, a < n → b < n → (R a b).getD 0 = (h a b).getD 0 - g a b
  so : ∀ a b, (R a b).isSome = (h a b).isSome
theorem Full.start {n : Nat} {own : Nat → Int} {h : Nat → Nat → Option Int} (h0 : ∀ a b, 0 ≤ (h a b).getD 0) : Full n own h h (fun _ _ => 0) :=
  ⟨⟨fun _ _ => rfl, fun a b _ _ => h0 a b, fun _ _ _ => sm_zero n⟩, fun a b _ _ => by omega, fun _ _ => rfl⟩
theorem Full.range {n : Nat} {own : Nat → Int} {h R : Nat → Nat → Option Int} {g : Nat → Nat → Int} (H : Full n own h R g) (hs : ∀ a b, h a b = h b a) (h1 : ∀ a b, (h a b).getD 0 ≤ 1000) {a b : Nat} (ha : a < n) (hb : b < n) : 0 ≤ (R a b).getD 0 ∧ (R a b).getD 0 ≤ 2000 := by
  rw [H.rm a b ha hb]
  have c1 : g a b ≤ (h a b).getD 0 := H.fl.cap a b ha hb
  have c2 : g b a ≤ (h b a).getD 0 := H.fl.cap b a hb ha
  have c3 := H.fl.anti a b
  rw [← hs a b] at c2
  have := h1 a b
  omega
theorem along_snoc (b x y : Nat) : ∀ (L : List Nat) (a : Nat), L.getLast? = some a → along (L ++ [b]) x y = along L x y + ((if x = a ∧ y = b then 1 else 0) - (if x = b ∧ y = a then 1 else 0))
  | [], a, h => by cases h
  | [p], a, h => by
    have e : p = a := by simpa using h
    subst e
    show (if x = p ∧ y = b then 1 else 0) - (if x = b ∧ y = p then 1 else 0) + 0 = 0 + _
    omega
  | p :: q :: L, a, h => by
    have ih := along_snoc b x y (q :: L) a (by rw [← h]; simp)
    rw [show (p :: q :: L) ++ [b] = p :: q :: (L ++ [b]) from rfl, along, along, show q :: (L ++ [b]) = (q :: L) ++ [b] from rfl, ih]
    omega
/-- the rooms while a way is gone -/
def rmP (R : Nat → Nat → Option Int) (c : Int) (L : List Nat) (i x y : Nat) : Option Int := (R x y).map (fun v => v - c * along (L.take (i + 1)) x y)
theorem rmP_zero (R : Nat → Nat → Option Int) (c : Int) {L : List Nat} : rmP R c L 0 = R := by
  funext x y
  have : along (L.take 1) x y = 0 := by
    cases L with
    | nil => rfl
    | cons a L => rfl
  simp [rmP, this]
theorem rmP_some (R : Nat → Nat → Option Int) (c : Int) (L : List Nat) (i x y : Nat) : (rmP R c L i x y).isSome = (R x y).isSome := by simp [rmP]
theorem rmP_getD (R : Nat → Nat → Option Int) (c : Int) (L : List Nat) (i x y : Nat) (h : (R x y).isSome = true) : (rmP R c L i x y).getD 0 = (R x y).getD 0 - c * along (L.take (i + 1)) x y := by
  obtain ⟨v, hv⟩ := Option.isSome_iff_exists.1 h
  simp [rmP, hv]
theorem rmP_step {R : Nat → Nat → Option Int} {c : Int} {L : List Nat} {i a b : Nat} (ha : L[i]? = some a) (hb : L[i + 1]? = some b) (hab : a ≠ b) (h1 : (R a b).isSome = true) (h2 : (R b a).isSome = true) :
    (fun u v => if u = b ∧ v = a then some ((rmP R c L i b a).getD 0 + c) else if u = a ∧ v = b then some ((rmP R c L i a b).getD 0 - c) else rmP R c L i u v) = rmP R c L (i + 1) := by
  have ht : L.take (i + 1 + 1) = L.take (i + 1) ++ [b] := by rw [List.take_add_one, hb]; rfl
  have hl : (L.take (i + 1)).getLast? = some a := by
    rw [List.take_add_one, ha]; simp
  have hs : ∀ x y, along (L.take (i + 1 + 1)) x y = along (L.take (i + 1)) x y + ((if x = a ∧ y = b then 1 else 0) - (if x = b ∧ y = a then 1 else 0)) := fun x y => by rw [ht]; exact along_snoc b x y _ a hl
  obtain ⟨v1, e1⟩ := Option.isSome_iff_exists.1 h1
  obtain ⟨v2, e2⟩ := Option.isSome_iff_exists.1 h2
  funext x y
  by_cases c1 : x = b ∧ y = a
  · obtain ⟨rfl, rfl⟩ := c1
    rw [if_pos ⟨rfl, rfl⟩]
    simp [rmP, e2, hs, hab, Ne.symm hab, Int.mul_add]
    omega
  · rw [if_neg c1]
    by_cases c2 : x = a ∧ y = b
    · obtain ⟨rfl, rfl⟩ := c2
      rw [if_pos ⟨rfl, rfl⟩]
      simp [rmP, e1, hs, hab, Ne.symm hab, Int.mul_add]
      omega
    · rw [if_neg c2]
      simp only [rmP, hs]
      rw [if_neg c2, if_neg c1]
      simp
/-- a way is gone: more goes -/
theorem Full.more {m : Mp} {h R : Nat → Nat → Option Int} {g : Nat → Nat → Int} (H : Full m.n m.own h R g) (hsy : ∀ a b, h a b = h b a) {M : Nat → Bool} {rk : Nat → Nat} {t last a : Nat} {L : List Nat} {c : Int} (W : WayM m R M rk t last a L c) (hM : ∀ k, M k = true → k < m.n) (ha : m.own a = 0) (hz : m.own last = 1) :
    Full m.n m.own h (rmP R c L (L.length - 1)) (fun x y => g x y + c * along L x y) ∧ value m.n m.own (fun x y => g x y + c * along L x y) = value m.n m.own g + c := by
  obtain ⟨s, hs⟩ := W.bk.head
  have hL : ∀ p ∈ L, p < m.n := fun p hp => hM p (W.bk.met p hp)
  have ht : L.take (L.length - 1 + 1) = L := by
    rw [show L.length - 1 + 1 = L.length by rw [hs]; simp, List.take_length]
  have hroom := fun x y hx hy => along_room (n := m.n) (g := g) (hs := fun a b => (h a b).getD 0) (c := c) W.bk.nodup (fun x y hx hy => H.fl.cap x y hx hy) (by have := W.c0; omega) (fun l u v r e => by
    have h1 := W.le l u v r e
    have hu : u < m.n := hL u (by rw [e]; simp)
    have hv : v < m.n := hL v (by rw [e]; simp)
    rw [H.rm u v hu hv] at h1
    exact h1) x y hx hy
  obtain ⟨F, hval⟩ := H.fl.more (L := L) (a := a) (z := last) (c := c) (by rw [hs]; rfl) W.bk.tail hL ha hz hroom
  refine ⟨⟨F, fun x y hx hy => ?_, fun x y => by rw [rmP_some]; exact H.so x y⟩, hval⟩
  by_cases e : (R x y).isSome = true
  · rw [rmP_getD _ _ _ _ _ _ e, ht, H.rm x y hx hy]; omega
  · have e2 : R x y = none := by cases hr : R x y with
      | none => rfl
      | some v => rw [hr] at e; exact absurd rfl e
    have e3 : along L x y = 0 := by
      by_cases d1 : dirc L x y = 0
      · by_cases d2 : dirc L y x = 0
        · rw [along_dirc, d1, d2]; rfl
        · obtain ⟨l, r, e4⟩ := dirc_pos d2
          have h1 := W.le l y x r e4
          have h2 := W.c0
          have hyx : (R y x).isSome = true := by cases hr : R y x with
            | none => rw [hr] at h1; simp at h1; omega
            | some v => rfl
          have h3 := H.so y x
          have h4 := H.so x y
          rw [hyx, hsy y x, ← h4, e2] at h3
          cases h3
      · obtain ⟨l, r, e4⟩ := dirc_pos d1
        have h1 := W.le l x y r e4
        rw [e2] at h1
        have h2 := W.c0
        simp at h1; omega
    have h4 := H.rm x y hx hy
    rw [e2] at h4
    simp only [rmP, e2, Option.map_none, Option.getD_none, e3] at h4 ⊢
    omega
/-- behind the last search: the division that it names cuts as many as go -/
theorem Full.done {m : Mp} {h R : Nat → Nat → Option Int} {g : Nat → Nat → Int} (H : Full m.n m.own h R g) (hnb : ∀ a b, (h a b).isSome = true → nb m a b) {M : Nat → Bool} {Fr : Nat → Int} {rk : Nat → Nat} {t : Nat}
    (D : DInv m.n (edR m R) (fun k => m.own k = 0) (fun k => m.own k = 1) M Fr rk t []) (hown : ∀ k, k < m.n → m.own k = -1 ∨ m.own k = 0 ∨ m.own k = 1) :
    Keeps m.n m.own (fun k => !M k) ∧ value m.n m.own g = cutOf m.n (fun a b => (h a b).getD 0) (fun k => !M k) := by
  obtain ⟨h1, h2, h3⟩ := D.closed
  have K : Keeps m.n m.own (fun k => !M k) := fun k hk => by
    rcases hown k hk with e | e | e
    · exact .inl e
    · exact .inr (.inl ⟨e, by simp [h3 k hk e]⟩)
    · refine .inr (.inr ⟨e, ?_⟩)
      cases hm : M k with
      | false => simp [hm]
      | true => exact absurd e (h2 k hm)
  refine ⟨K, H.fl.eq K fun a b ha hb hDa hDb => ?_⟩
  have hMa : M a = true := by simpa using hDa
  have hMb : M b = false := by simpa using hDb
  have hne := h1 a b ha hb hMa hMb
  have hr := H.rm a b ha hb
  have hz : (R a b).getD 0 = 0 := by
    cases hR : R a b with
    | none => rfl
    | some v =>
      apply Classical.byContradiction
      intro hv
      refine hne ⟨hnb a b (by rw [← H.so a b, hR]; rfl), ?_⟩
      rw [hR]; exact hv
  show g a b = (h a b).getD 0
  omega
end Go.Proofs.Ytkjcnkkmhkcddaa
