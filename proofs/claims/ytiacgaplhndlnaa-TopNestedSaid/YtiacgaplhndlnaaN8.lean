/-
  Parts of the proof, in the order in which they build: EnC.
-/
import Derived.Test.YtiacgaplhndlnaaN7
set_option linter.unusedVariables false
set_option linter.unusedSimpArgs false
namespace Go.Proofs.Ytiacgaplhndlnaa

/-- the numbers R of the plots' regions (-1: none yet), behind the plots ahead of first; c regions are numbered -/
structure Lab (m : Mp) (R : Nat → Int) (first c : Nat) : Prop where
  rng : ∀ p, p < m.n → R p = -1 ∨ (0 ≤ R p ∧ R p < c)
  same : ∀ p q, p < m.n → q < m.n → R p ≠ -1 → (R p = R q ↔ Sm m p q)
  all : ∀ p, p < first → p < m.n → R p ≠ -1
  used : ∀ j : Nat, j < c → ∃ q, q < first ∧ q < m.n ∧ R q = j
  grow : ∀ p, p < m.n → R p ≠ -1 → ∀ j : Nat, (j : Int) < R p → ∃ q, q < p ∧ R q = j
/-- .. while region c is filled from plot first; R0 is what was there, q waits -/
structure FBase (m : Mp) (R0 R : Nat → Int) (first c : Nat) (q : List Nat) : Prop where
  old : ∀ p, p < m.n → R0 p ≠ -1 → R p = R0 p
  new : ∀ p, p < m.n → R0 p = -1 → R p = -1 ∨ (R p = c ∧ Sm m first p)
  here : R first = c
  wait : ∀ k ∈ q, k < m.n ∧ R k = c
structure Fill (m : Mp) (R0 R : Nat → Int) (first c : Nat) (q : List Nat) : Prop extends FBase m R0 R first c q where
  shut : ∀ k, k < m.n → R k = c → k ∉ q → ∀ j, nb m k j → m.own j = m.own k → R j = c
structure FMid (m : Mp) (R0 R : Nat → Int) (first c : Nat) (q : List Nat) (at_ : Nat) (pre : List Int) : Prop extends FBase m R0 R first c q where
  shut : ∀ k, k < m.n → R k = c → k ∉ q → k ≠ at_ → ∀ j, nb m k j → m.own j = m.own k → R j = c
  cur : at_ < m.n ∧ R at_ = c
  seen : ∀ j : Nat, (j : Int) ∈ pre → m.own j = m.own at_ → R j = c
section
variable {m : Mp} {R0 R : Nat → Int} {first c a : Nat} {q : List Nat} {pre : List Int}
theorem Lab.begin (m : Mp) : Lab m (fun _ => -1) 0 0 :=
  ⟨fun _ _ => .inl rfl, fun _ _ _ _ h => absurd rfl h, fun _ h => absurd h (Nat.not_lt_zero _), fun _ h => absurd h (Nat.not_lt_zero _), fun _ _ h => absurd rfl h⟩
theorem Lab.skip (h : Lab m R first c) (hf : R first ≠ -1) : Lab m R (first + 1) c :=
  ⟨h.rng, h.same, fun p hp hpn => by
    by_cases e : p = first
    · rw [e]; exact hf
    · exact h.all p (by omega) hpn, fun j hj => by obtain ⟨q, h1, h2⟩ := h.used j hj; exact ⟨q, by omega, h2⟩, h.grow⟩
theorem Fill.begin (h : Lab m R first c) (hf : first < m.n) (hR : R first = -1) : Fill m R (upd R first c) first c [first] := by
  have hne : ∀ p, p < m.n → R p ≠ -1 → p ≠ first := fun p _ h1 e => h1 (by rw [e]; exact hR)
  refine ⟨⟨fun p hp h1 => upd_ne R _ (hne p hp h1), fun p hp h1 => ?_, upd_same _ _ _, fun k hk => ?_⟩, fun k hk h1 h2 => ?_⟩
  · by_cases e : p = first
    · rw [e]; exact .inr ⟨upd_same _ _ _, Sm.refl hf⟩
    · rw [upd_ne R _ e]; exact .inl h1
  · rw [List.mem_singleton] at hk; rw [hk]; exact ⟨hf, upd_same _ _ _⟩
  · have e : k ≠ first := fun e => h2 (by simp [e])
    rw [upd_ne R _ e] at h1
    rcases h.rng k hk with h3 | h3 <;> omega
theorem Fill.pop (h : Fill m R0 R first c (q ++ [a])) : FMid m R0 R first c q a [] :=
  ⟨⟨h.old, h.new, h.here, fun k hk => h.wait k (by simp [hk])⟩, fun k hk h1 h2 h3 => h.shut k hk h1 (by simp [h2, h3]), h.wait a (by simp), fun j hj => by cases hj⟩
theorem FMid.done (h : FMid m R0 R first c q a (nbrL m.wd m.n a)) : Fill m R0 R first c q :=
  ⟨h.toFBase, fun k hk h1 h2 j hn ho => by
    by_cases e : k = a
    · subst e; exact h.seen j hn ho
    · exact h.shut k hk h1 h2 e j hn ho⟩
/-- a neighbour of another owner, or one that is numbered -/
theorem FMid.skip {k : Nat} (h : FMid m R0 R first c q a pre) (hk : m.own k = m.own a → R k = c) : FMid m R0 R first c q a (pre ++ [(k : Int)]) :=
  ⟨h.toFBase, h.shut, h.cur, fun j hj ho => by
    rcases List.mem_append.1 hj with hj | hj
    · exact h.seen j hj ho
    · have e : j = k := by simp at hj; omega
      subst e; exact hk ho⟩
theorem FMid.sm (h0 : Lab m R0 first c) (h : FMid m R0 R first c q a pre) : Sm m first a ∧ R0 a = -1 := by
  have h1 : R0 a = -1 := by
    rcases h0.rng a h.cur.1 with h1 | h1
    · exact h1
    · have := h.old a h.cur.1 (by omega)
      have := h.cur.2
      omega
  refine ⟨?_, h1⟩
  rcases h.new a h.cur.1 h1 with h2 | h2
  · have := h.cur.2; omega
  · exact h2.2
theorem Sm.snoc {p k : Nat} (h : Sm m p a) (hn : nb m a k) (hk : k < m.n) (ho : m.own k = m.own a) : Sm m p k :=
  Cn.snoc h hn ⟨hk, by rw [ho]; exact h.own⟩
/-- a neighbour of the same owner that is numbered is of this region -/
theorem FMid.old_same (hm : m.Ok) (h0 : Lab m R0 first c) (hf : R0 first = -1) (h : FMid m R0 R first c q a pre) {k : Nat} (hn : nb m a k) (ho : m.own k = m.own a) (hk : R k ≠ -1) : R k = c := by
  have hkn := nb_lt hm h.cur.1 hn
  obtain ⟨hs, -⟩ := h.sm h0
  have hsk := hs.snoc hn hkn ho
  rcases h0.rng k hkn with h1 | h1
  · rcases h.new k hkn h1 with h2 | h2
    · exact absurd h2 hk
    · exact h2.1
  · have := (h0.same k first hkn hs.lt.1 (by omega)).2 (hsk.symm hm)
    omega
theorem FMid.add (hm : m.Ok) (h0 : Lab m R0 first c) (h : FMid m R0 R first c q a pre) {k : Nat} (hn : nb m a k) (ho : m.own k = m.own a) (hk : R k = -1) : FMid m R0 (upd R k c) first c (q ++ [k]) a (pre ++ [(k : Int)]) := by
  have hkn := nb_lt hm h.cur.1 hn
  obtain ⟨hs, -⟩ := h.sm h0
  have hsk := hs.snoc hn hkn ho
  have hne : ∀ {x}, R x = c → x ≠ k := fun {x} hx e => by rw [e, hk] at hx; omega
  have keep : ∀ {x}, R x = c → upd R k c x = c := fun {x} hx => by rw [upd_ne R _ (hne hx)]; exact hx
  refine ⟨⟨fun p hp h1 => ?_, fun p hp h1 => ?_, keep h.here, fun x hx => ?_⟩, fun x hx h1 h2 h3 j hnj hoj => ?_, ⟨h.cur.1, keep h.cur.2⟩, fun j hj hoj => ?_⟩
  · have e := h.old p hp h1
    by_cases ep : p = k
    · rw [ep] at e h1; rw [hk] at e; exact absurd e.symm h1
    · rw [upd_ne R _ ep]; exact e
  · by_cases ep : p = k
    · rw [ep]; exact .inr ⟨upd_same _ _ _, hsk⟩
    · rw [upd_ne R _ ep]; exact h.new p hp h1
  · rcases List.mem_append.1 hx with hx | hx
    · exact ⟨(h.wait x hx).1, keep (h.wait x hx).2⟩
    · rw [List.mem_singleton] at hx; rw [hx]; exact ⟨hkn, upd_same _ _ _⟩
  · have e : x ≠ k := fun e => h2 (by simp [e])
    rw [upd_ne R _ e] at h1
    exact keep (h.shut x hx h1 (fun hm => h2 (by simp [hm])) h3 j hnj hoj)
  · rcases List.mem_append.1 hj with hj | hj
    · exact keep (h.seen j hj hoj)
    · have e : j = k := by simp at hj; omega
      rw [e]; exact upd_same _ _ _
/-- the region is whole -/
theorem Fill.done (hm : m.Ok) (h0 : Lab m R0 first c) (hf : first < m.n) (h : Fill m R0 R first c []) : Lab m R (first + 1) (c + 1) := by
  have old0 : ∀ p, p < m.n → R p ≠ -1 → R0 p ≠ -1 ∨ (R p = c ∧ Sm m first p) := fun p hp h1 => by
    by_cases e : R0 p = -1
    · rcases h.new p hp e with h2 | h2
      · exact absurd h2 h1
      · exact .inr h2
    · exact .inl e
  have lt0 : ∀ p, p < m.n → R0 p ≠ -1 → 0 ≤ R p ∧ R p < c := fun p hp h1 => by
    rw [h.old p hp h1]
    rcases h0.rng p hp with h2 | h2
    · exact absurd h2 h1
    · exact h2
  have whole : ∀ x y, Cn m (OfO m (m.own first)) x y → R x = c → R y = c := by
    intro x y hxy
    induction hxy with
    | refl _ => exact fun h => h
    | @step x y z hx hn hyz ih =>
      intro hc
      exact ih (h.shut x hx.1 hc (by simp) y hn (by rw [(Cn.left hyz).2, hx.2]))
  have all : ∀ p, Sm m first p → R p = c := fun p hp => whole _ _ hp h.here
  refine ⟨fun p hp => ?_, fun p q hp hq h1 => ?_, fun p hp hpn => ?_, fun j hj => ?_, fun p hp h1 j hj => ?_⟩
  · by_cases e : R p = -1
    · exact .inl e
    · rcases old0 p hp e with h2 | h2
      · have := lt0 p hp h2; exact .inr ⟨this.1, by omega⟩
      · right; omega
  · rcases old0 p hp h1 with h2 | ⟨h2, h3⟩
    · have hl := lt0 p hp h2
      rw [h.old p hp h2] at hl ⊢
      by_cases e : R0 q = -1
      · constructor
        · intro he
          rcases h.new q hq e with h4 | h4 <;> omega
        · intro hs
          have := (h0.same p q hp hq h2).2 hs
          rw [e] at this; exact absurd this h2
      · rw [h.old q hq e]; exact h0.same p q hp hq h2
    · rw [h2]
      constructor
      · intro he
        have hq1 : R q ≠ -1 := by omega
        rcases old0 q hq hq1 with h4 | h4
        · have := lt0 q hq h4; omega
        · exact (h3.symm hm).trans h4.2
      · intro hs; exact (all q (h3.trans hs)).symm
  · by_cases e : p = first
    · rw [e, h.here]; omega
    · have h1 := h0.all p (by omega) hpn
      rw [h.old p hpn h1]; exact h1
  · by_cases e : j = c
    · exact ⟨first, by omega, hf, by rw [e]; exact h.here⟩
    · obtain ⟨q, h1, h2, h3⟩ := h0.used j (by omega)
      exact ⟨q, by omega, h2, by rw [h.old q h2 (by omega)]; exact h3⟩
  · rcases old0 p hp h1 with h2 | ⟨h2, h3⟩
    · rw [h.old p hp h2] at hj
      obtain ⟨q, h4, h5⟩ := h0.grow p hp h2 j hj
      exact ⟨q, h4, by rw [h.old q (by omega) (by omega)]; exact h5⟩
    · have hpf : first ≤ p := by
        rcases Nat.lt_or_ge p first with h4 | h4
        · have h5 := h0.all p h4 hp
          have := lt0 p hp h5
          omega
        · exact h4
      obtain ⟨q, h4, h5, h6⟩ := h0.used j (by omega)
      exact ⟨q, by omega, by rw [h.old q h5 (by omega)]; exact h6⟩
/-- all plots are numbered -/
theorem Lab.reg (h : Lab m R m.n c) : IsReg m (fun p => (R p).toNat) ∧ IsMany m (fun p => (R p).toNat) c ∧ ∀ p, p < m.n → 0 ≤ R p := by
  have h0 : ∀ p, p < m.n → 0 ≤ R p ∧ R p < c := fun p hp => by
    rcases h.rng p hp with h1 | h1
    · exact absurd h1 (h.all p hp hp)
    · exact h1
  refine ⟨⟨fun p q hp hq => ?_, fun p hp j hj => ?_⟩, ⟨fun p hp => ?_, fun j hj => ?_⟩, fun p hp => (h0 p hp).1⟩
  · have h1 := h0 p hp
    have h2 := h0 q hq
    rw [← h.same p q hp hq (by omega)]
    constructor
    · intro e; have e : (R p).toNat = (R q).toNat := e; omega
    · intro e; show (R p).toNat = (R q).toNat; rw [e]
  · have h1 := h0 p hp
    have hj : j < (R p).toNat := hj
    obtain ⟨q, h2, h3⟩ := h.grow p hp (by omega) j (by omega)
    exact ⟨q, h2, by show (R q).toNat = j; omega⟩
  · have := h0 p hp; show (R p).toNat < c; omega
  · obtain ⟨q, -, h2, h3⟩ := h.used j hj
    exact ⟨q, h2, by show (R q).toNat = j; omega⟩
end
end Go.Proofs.Ytiacgaplhndlnaa
