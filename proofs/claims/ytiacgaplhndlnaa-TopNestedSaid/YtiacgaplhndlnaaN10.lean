/-
  Parts of the proof, in the order in which they build: EnE.
-/
import Derived.Test.YtiacgaplhndlnaaN9
set_option linter.unusedVariables false
set_option linter.unusedSimpArgs false
namespace Go.Proofs.Ytiacgaplhndlnaa

/-! The least plot that each plot comes to. -/
/-- f has, for each plot, a plot of its region that is no greater -/
def FInv (m : Mp) (f : Nat → Nat) : Prop := ∀ a : Nat, a < m.n → f a ≤ a ∧ Sm m a (f a)
/-- nothing changes any more -/
def FFix (m : Mp) (f : Nat → Nat) : Prop := ∀ a b, a < m.n → b < m.n → nb m a b → m.own a = m.own b → ¬ f b < f a
section
variable {m : Mp} {f : Nat → Nat} {a b p q : Nat}
theorem FInv.begin (m : Mp) : FInv m (fun p => p) := fun _ ha => ⟨Nat.le_refl _, Sm.refl ha⟩
theorem FInv.take (h : FInv m f) (ha : a < m.n) (hb : b < m.n) (hn : nb m a b) (ho : m.own a = m.own b) (hlt : f b < f a) : FInv m (fun x => if x = a then f b else f x) := fun x hx => by
  show (if x = a then f b else f x) ≤ x ∧ Sm m x (if x = a then f b else f x)
  by_cases e : x = a
  · subst e
    rw [if_pos rfl]
    have h1 := h x ha
    have h2 := h b hb
    exact ⟨by omega, Sm.trans (Cn.step ⟨ha, rfl⟩ hn (.refl ⟨hb, ho.symm⟩)) h2.2⟩
  · rw [if_neg e]; exact h x hx
theorem FFix.eq (hm : m.Ok) (hf : FFix m f) (h : Sm m p q) : f p = f q := by
  unfold Sm at h
  have : ∀ x y, Cn m (OfO m (m.own p)) x y → f x = f y := by
    intro x y hxy
    induction hxy with
    | refl _ => rfl
    | @step x y z hx hn hyz ih =>
      have hy := Cn.left hyz
      have h1 := hf x y hx.1 hy.1 hn (by rw [hx.2, hy.2])
      have h2 := hf y x hy.1 hx.1 (nb_symm hm hx.1 hn) (by rw [hx.2, hy.2])
      omega
  exact this _ _ h
theorem FFix.first (hm : m.Ok) (hf : FFix m f) (h : FInv m f) (hp : p < m.n) : f (f p) = f p := (hf.eq hm (h p hp).2).symm
theorem FFix.same (hm : m.Ok) (hf : FFix m f) (h : FInv m f) (hp : p < m.n) (hq : q < m.n) : f p = f q ↔ Sm m p q :=
  ⟨fun e => (h p hp).2.trans (by rw [e]; exact ((h q hq).2).symm hm), hf.eq hm⟩
/-- how many of the first t plots are the least ones of their regions -/
def num (f : Nat → Nat) : Nat → Nat
  | 0 => 0
  | t + 1 => num f t + if f t = t then 1 else 0
theorem num_add {t : Nat} (h : f t = t) : num f (t + 1) = num f t + 1 := by rw [num, if_pos h]
theorem num_skip {t : Nat} (h : f t ≠ t) : num f (t + 1) = num f t := by rw [num, if_neg h]; rfl
theorem num_mono {s : Nat} : ∀ {t : Nat}, s ≤ t → num f s ≤ num f t
  | 0, h => by rw [show s = 0 by omega]; exact Nat.le_refl _
  | t + 1, h => by
    by_cases e : s = t + 1
    · rw [e]; exact Nat.le_refl _
    · have ih := num_mono (show s ≤ t by omega)
      rw [num]; omega
theorem num_lt {s t : Nat} (h : f s = s) (hs : s < t) : num f s < num f t := by
  have h1 := num_add h
  have h2 : num f (s + 1) ≤ num f t := num_mono (by omega)
  omega
theorem num_ex : ∀ {t j : Nat}, j < num f t → ∃ s, s < t ∧ f s = s ∧ num f s = j
  | 0, j, h => absurd h (Nat.not_lt_zero _)
  | t + 1, j, h => by
    by_cases e : f t = t
    · rw [num_add e] at h
      by_cases e2 : j = num f t
      · exact ⟨t, by omega, e, e2.symm⟩
      · obtain ⟨s, h1, h2⟩ := num_ex (show j < num f t by omega)
        exact ⟨s, by omega, h2⟩
    · rw [num_skip e] at h
      obtain ⟨s, h1, h2⟩ := num_ex h
      exact ⟨s, by omega, h2⟩
theorem num_le : ∀ t, num f t ≤ t
  | 0 => Nat.le_refl _
  | t + 1 => by have := num_le t; rw [num]; split <;> omega
/-- numbered by their first plots -/
theorem num_reg (hm : m.Ok) (hf : FFix m f) (h : FInv m f) : IsReg m (fun p => num f (f p)) ∧ IsMany m (fun p => num f (f p)) (num f m.n) := by
  have inj : ∀ p q, p < m.n → q < m.n → num f (f p) = num f (f q) → f p = f q := fun p q hp hq e => by
    rcases Nat.lt_trichotomy (f p) (f q) with h1 | h1 | h1
    · have := num_lt (hf.first hm h hp) h1; omega
    · exact h1
    · have := num_lt (hf.first hm h hq) h1; omega
  refine ⟨⟨fun p q hp hq => ?_, fun p hp j hj => ?_⟩, ⟨fun p hp => ?_, fun j hj => ?_⟩⟩
  · rw [← hf.same hm h hp hq]
    exact ⟨inj p q hp hq, fun e => by show num f (f p) = num f (f q); rw [e]⟩
  · obtain ⟨s, h1, h2, h3⟩ := num_ex hj
    have := (h p hp).1
    exact ⟨s, by omega, by show num f (f s) = j; rw [h2]; exact h3⟩
  · have h1 := (h p hp).1
    exact num_lt (hf.first hm h hp) (by omega)
  · obtain ⟨s, h1, h2, h3⟩ := num_ex hj
    exact ⟨s, h1, by show num f (f s) = j; rw [h2]; exact h3⟩
end
/-! What one comes to from outside. -/
/-- the plots that are filled in from the rim, without region j -/
structure Fil (m : Mp) (r : Nat → Nat) (j : Nat) (B : Nat → Bool) : Prop where
  sound : ∀ p, p < m.n → B p = true → ∃ q, Cn m (Free m r j) p q ∧ rimB m q = true
  start : ∀ p, p < m.n → rimB m p = true → r p ≠ j → B p = true
section
variable {m : Mp} {r : Nat → Nat} {i j a b : Nat} {B : Nat → Bool}
theorem Fil.begin : Fil m r j (fun p => rimB m p && decide (r p ≠ j)) :=
  ⟨fun p hp h => by
    rw [Bool.and_eq_true, decide_eq_true_eq] at h
    exact ⟨p, .refl ⟨hp, h.2⟩, h.1⟩, fun p _ h1 h2 => by rw [Bool.and_eq_true, decide_eq_true_eq]; exact ⟨h1, h2⟩⟩
theorem Fil.add (hm : m.Ok) (h : Fil m r j B) (ha : a < m.n) (hb : b < m.n) (hB : B a = true) (hn : nb m a b) (hj : r b ≠ j) : Fil m r j (fun x => if x = b then true else B x) := by
  refine ⟨fun p hp h1 => ?_, fun p hp h1 h2 => ?_⟩
  · have h1 : (if p = b then true else B p) = true := h1
    by_cases e : p = b
    · subst e
      obtain ⟨q, h2, h3⟩ := h.sound a ha hB
      exact ⟨q, .step ⟨hb, hj⟩ (nb_symm hm ha hn) h2, h3⟩
    · rw [if_neg e] at h1; exact h.sound p hp h1
  · show (if p = b then true else B p) = true
    by_cases e : p = b
    · rw [if_pos e]
    · rw [if_neg e]; exact h.start p hp h1 h2
/-- when nothing changes any more, all is filled in -/
theorem Fil.done (hm : m.Ok) (h : Fil m r j B) (hx : ∀ a b, a < m.n → b < m.n → B a = true → nb m a b → r b ≠ j → B b = true) {p : Nat} (hp : p < m.n) : B p = true ↔ ∃ q, Cn m (Free m r j) p q ∧ rimB m q = true := by
  refine ⟨h.sound p hp, ?_⟩
  rintro ⟨q, hc, hq⟩
  have : ∀ x y, Cn m (Free m r j) x y → B y = true → B x = true := by
    intro x y hxy
    induction hxy with
    | refl _ => exact fun h => h
    | @step x y z hx1 hn hyz ih =>
      intro hz
      have hy := Cn.left hyz
      exact hx y x hy.1 hx1.1 (ih hz) (nb_symm hm hx1.1 hn) hx1.2
  exact this p q hc (h.start q (Cn.right hc).1 hq (Cn.right hc).2)
theorem Fil.out (hm : m.Ok) (h : Fil m r j B) (hx : ∀ a b, a < m.n → b < m.n → B a = true → nb m a b → r b ≠ j → B b = true) : OutW m r i j ↔ ∃ p, p < m.n ∧ r p = i ∧ B p = true := by
  constructor
  · rintro ⟨p, q, h1, h2, h3⟩
    have hp := (Cn.left h2).1
    exact ⟨p, hp, h1, (h.done hm hx hp).2 ⟨q, h2, h3⟩⟩
  · rintro ⟨p, hp, h1, h2⟩
    obtain ⟨q, h3, h4⟩ := (h.done hm hx hp).1 h2
    exact ⟨p, q, h1, h3, h4⟩
end
/-! The deepest of those that a region lies within. -/
section
variable {m : Mp} {r : Nat → Nat} {i T : Nat}
theorem In.deeper (hm : m.Ok) (hT : ∀ k, k < T → ∃ p, p < m.n ∧ r p = k) {a k : Nat} (ha : a < T) (h : In m r a k) (hk : k < T) : inCount m r k T < inCount m r a T := by
  -- what k lies within a lies within, too; and k itself
  have hkk : ¬ In m r k k := fun h => h.1 rfl
  have sub : ∀ x, In m r k x → In m r a x := fun x hx => h.trans hx fun e => by subst e; exact In.asymm hm (hT a ha) h hx
  have : ∀ t, inCount m r k t + (if k < t then 1 else 0) ≤ inCount m r a t := by
    intro t
    induction t with
    | zero => simp [inCount]
    | succ t ih =>
      by_cases e : k = t
      · subst e
        rw [inCount_add h, inCount_skip hkk, if_pos (by omega)]
        rw [if_neg (by omega)] at ih
        omega
      · by_cases h1 : In m r k t
        · rw [inCount_add h1, inCount_add (sub t h1)]
          by_cases h2 : k < t
          · rw [if_pos h2] at ih; rw [if_pos (by omega)]; omega
          · rw [if_neg h2] at ih; rw [if_neg (by omega)]; omega
        · rw [inCount_skip h1]
          have h3 : inCount m r a t ≤ inCount m r a (t + 1) := by
            by_cases h4 : In m r a t
            · rw [inCount_add h4]; omega
            · rw [inCount_skip h4]; exact Nat.le_refl _
          by_cases h2 : k < t
          · rw [if_pos h2] at ih; rw [if_pos (by omega)]; omega
          · rw [if_neg h2] at ih; rw [if_neg (by omega)]; omega
  have := this T
  rw [if_pos hk] at this
  omega
/-- the reference's loop: the first of the deepest ones -/
def Dp (m : Mp) (r : Nat → Nat) (T i t : Nat) (x : Int) : Prop :=
  (x = -1 ∧ ∀ k, k < t → ¬ In m r i k) ∨ ∃ a : Nat, x = (a : Int) ∧ a < t ∧ In m r i a ∧ ∀ k, k < t → In m r i k → inCount m r k T ≤ inCount m r a T
theorem Dp.ar (hm : m.Ok) (hr : IsReg m r) (hT : ∀ k, k < T → ∃ p, p < m.n ∧ r p = k) (hi : i < T) {x : Int} (h : Dp m r T i T x) : IsAr m r i T x := by
  rcases h with h | ⟨a, h1, h2, h3, h4⟩
  · exact .inl h
  · refine .inr ⟨a, h1, h2, h3, fun k hk hka hik => ?_⟩
    rcases In.tree hm hr (hT i hi) h3 hik (fun e => hka e.symm) with h5 | h5
    · exact h5
    · have h6 := In.deeper hm hT hk h5 h2
      have h7 := h4 k hk hik
      omega
theorem IsAr.unique {x y : Int} (hm : m.Ok) (hT : ∀ k, k < T → ∃ p, p < m.n ∧ r p = k) (h : IsAr m r i T x) (h' : IsAr m r i T y) : x = y := by
  rcases h with ⟨h1, h2⟩ | ⟨a, h1, h2, h3, h4⟩
  · rcases h' with ⟨h5, -⟩ | ⟨b, -, h6, h7, -⟩
    · rw [h1, h5]
    · exact absurd h7 (h2 b h6)
  · rcases h' with ⟨-, h6⟩ | ⟨b, h5, h6, h7, h8⟩
    · exact absurd h3 (h6 a h2)
    · by_cases e : a = b
      · rw [h1, h5, e]
      · exact absurd (h8 a h2 e h3) (In.asymm hm (hT a h2) (h4 b h6 (fun e' => e e'.symm) h7))
end
end Go.Proofs.Ytiacgaplhndlnaa
