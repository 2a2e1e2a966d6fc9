/-
  Parts of the proof, in the order in which they build: Plain.
-/
set_option linter.unusedVariables false
set_option linter.unusedSimpArgs false
namespace Go.Proofs.Ytohjinbgbfggcaa.Rg

def nA (col c : Nat) : List Int := if 0 < col then [(c : Int) - 1] else []
def nB (wd col c : Nat) : List Int := if col + 1 < wd then [(c : Int) + 1] else []
def nC (wd c : Nat) : List Int := if wd ≤ c then [(c : Int) - wd] else []
def nD (wd N c : Nat) : List Int := if c + wd < N then [(c : Int) + wd] else []
def nbrK (wd N c col : Nat) : List Int := nA col c ++ nB wd col c ++ nC wd c ++ nD wd N c
/-- the neighbours of cell c, in the iterator's order -/
def nbrL (wd N c : Nat) : List Int := nbrK wd N c (c % wd)

/-- a ground as data: columns, spans of heights, seas -/
structure Gd where
  wd : Nat
  hs : List (Int × Int)
  ss : List Int
/-- what of a ground the walks lean on -/
structure Gd.Ok (g : Gd) : Prop where
  w0 : 0 < g.wd
  w1 : g.wd ≤ 100
  n1 : g.ss.length ≤ 100
  hn : g.hs.length = g.ss.length
  dv : g.ss.length % g.wd = 0
def Gd.n (g : Gd) : Nat := g.ss.length
/-- whether a cell has a neighbour of a sea -/
def atB (g : Gd) (c : Nat) (s : Int) : Bool := (nbrL g.wd g.ss.length c).any fun x => g.ss.getD x.toNat 0 == s

theorem mod_succ {wd N c : Nat} (hd : N % wd = 0) (hc : c < N) (h : c % wd + 1 < wd) : c + 1 < N ∧ (c + 1) % wd = c % wd + 1 := by
  have h3 : (c + 1) % wd = c % wd + 1 := by
    rw [Nat.add_mod]
    rcases Nat.lt_or_ge 1 wd with h4 | h4
    · rw [Nat.mod_eq_of_lt h4, Nat.mod_eq_of_lt h]
    · omega
  refine ⟨?_, h3⟩
  rcases Nat.lt_or_ge (c + 1) N with h2 | h2
  · exact h2
  · have e : c + 1 = N := by omega
    rw [e, hd] at h3; omega
theorem mod_pred {wd c : Nat} (hw : 0 < wd) (h : 0 < c % wd) : (c - 1) % wd + 1 = c % wd ∧ 0 < c := by
  have hlt := Nat.mod_lt c hw
  have e := Nat.div_add_mod c wd
  have hc : 0 < c := Nat.lt_of_lt_of_le h (Nat.mod_le _ _)
  have e2 : c - 1 = wd * (c / wd) + (c % wd - 1) := by omega
  have : (c - 1) % wd = c % wd - 1 := by
    rw [e2, Nat.mul_add_mod, Nat.mod_eq_of_lt (by omega)]
  omega

theorem mem_nbr {wd N c : Nat} {x : Int} : x ∈ nbrL wd N c ↔ (0 < c % wd ∧ x = (c : Int) - 1) ∨ (c % wd + 1 < wd ∧ x = (c : Int) + 1) ∨ (wd ≤ c ∧ x = (c : Int) - wd) ∨ (c + wd < N ∧ x = (c : Int) + wd) := by
  simp only [nbrL, nbrK, nA, nB, nC, nD, List.mem_append]
  constructor
  · intro h
    rcases h with ((h | h) | h) | h <;> split at h <;> simp_all
  · intro h
    rcases h with h | h | h | h <;> simp [h]

theorem mem_nbrL {wd N c : Nat} {x : Int} (hw : 0 < wd) (hd : N % wd = 0) (hc : c < N) (h : x ∈ nbrL wd N c) : ∃ k : Nat, x = k ∧ k < N := by
  rcases mem_nbr.1 h with h | h | h | h
  · have := (mod_pred hw h.1).2; exact ⟨c - 1, by omega, by omega⟩
  · have := (mod_succ hd hc h.1).1; exact ⟨c + 1, by omega, by omega⟩
  · exact ⟨c - wd, by omega, by omega⟩
  · exact ⟨c + wd, by omega, by omega⟩

/-- cells k and c are neighbours -/
def nb (g : Gd) (c k : Nat) : Prop := (k : Int) ∈ nbrL g.wd g.n c
theorem nb_lt {g : Gd} (hg : g.Ok) {c k : Nat} (hc : c < g.n) (h : nb g c k) : k < g.n := by
  obtain ⟨j, hj, hlt⟩ := mem_nbrL (N := g.n) hg.w0 hg.dv hc h
  have : j = k := by omega
  omega
theorem nb_symm {g : Gd} (hg : g.Ok) {c k : Nat} (hc : c < g.n) (h : nb g c k) : nb g k c := by
  have hk := nb_lt hg hc h
  have hdv : g.n % g.wd = 0 := hg.dv
  rcases mem_nbr.1 h with h | h | h | h
  · have h1 := mod_pred hg.w0 h.1
    have e : k = c - 1 := by omega
    subst e
    have hlt := Nat.mod_lt c hg.w0
    exact mem_nbr.2 (.inr (.inl ⟨by omega, by omega⟩))
  · have h1 := mod_succ hdv hc h.1
    have e : k = c + 1 := by omega
    subst e
    exact mem_nbr.2 (.inl ⟨by omega, by omega⟩)
  · have e : k = c - g.wd := by omega
    subst e
    exact mem_nbr.2 (.inr (.inr (.inr ⟨by omega, by omega⟩)))
  · have e : k = c + g.wd := by omega
    subst e
    exact mem_nbr.2 (.inr (.inr (.inl ⟨by omega, by omega⟩)))

theorem atB_true {g : Gd} {c : Nat} {s : Int} {pre : List Int} {x : Int} (hp : pre <+: nbrL g.wd g.ss.length c) (hx : x ∈ pre) (h : g.ss.getD x.toNat 0 = s) : atB g c s = true := by
  unfold atB; rw [List.any_eq_true]; exact ⟨x, hp.subset hx, by simpa using h⟩
theorem atB_false {g : Gd} {c : Nat} {s : Int} (h : ∀ x ∈ nbrL g.wd g.ss.length c, g.ss.getD x.toNat 0 ≠ s) : atB g c s = false := by
  unfold atB; rw [List.any_eq_false]; intro x hx; simpa using h x hx

/-- land: a cell of the ground that is of no sea -/
def land (g : Gd) (c : Nat) : Prop := c < g.n ∧ g.ss.getD c 0 = 0

/-- cell c comes to a cell of S by cells of A -/
inductive Re (g : Gd) (A S : Nat → Prop) : Nat → Prop
  | base {c : Nat} : A c → S c → Re g A S c
  | step {c k : Nat} : A c → nb g c k → Re g A S k → Re g A S c
theorem Re.in_A {g : Gd} {A S : Nat → Prop} {c : Nat} (h : Re g A S c) : A c := by cases h <;> assumption
theorem Re.mono {g : Gd} {A A' S S' : Nat → Prop} (hA : ∀ c, A c → A' c) (hS : ∀ c, A c → S c → S' c) {c : Nat} (h : Re g A S c) : Re g A' S' c := by
  induction h with
  | base ha hs => exact .base (hA _ ha) (hS _ ha hs)
  | step ha hn _ ih => exact .step (hA _ ha) hn ih

/-- the cells of a way in truth t that is no higher than h -/
def Low (g : Gd) (t : Nat → Int) (h : Int) (c : Nat) : Prop := land g c ∧ t c ≤ h
/-- from c a sea is reached by cells that are no higher than h -/
def R (g : Gd) (t : Nat → Int) (s h : Int) (c : Nat) : Prop := Re g (Low g t h) (fun c => atB g c s = true) c
theorem R.mono {g : Gd} {t t' : Nat → Int} {s h h' : Int} {c : Nat} (hh : ∀ c, land g c → t c ≤ h → t' c ≤ h') (hr : R g t s h c) : R g t' s h' c :=
  Re.mono (fun _ ha => ⟨ha.1, hh _ ha.1 ha.2⟩) (fun _ _ hs => hs) hr
theorem R.le {g : Gd} {t : Nat → Int} {s h h' : Int} {c : Nat} (hh : h ≤ h') (hr : R g t s h c) : R g t s h' c := hr.mono (fun _ _ h => by omega)

/-- p is the pass from each cell to sea s, in truth t: the least height of a way there; 10001 if there is none -/
structure IsPass (g : Gd) (t : Nat → Int) (s : Int) (p : Nat → Int) : Prop where
  top : ∀ c, c < g.n → p c ≤ 10001
  sound : ∀ c, c < g.n → p c < 10001 → R g t s (p c) c
  least : ∀ c, c < g.n → ∀ h, R g t s h c → p c ≤ h

/-- what is sound and closed is the pass -/
theorem IsPass.of_closed {g : Gd} (hg : g.Ok) {t : Nat → Int} {s : Int} {p : Nat → Int} (htop : ∀ c, c < g.n → p c ≤ 10001) (hs : ∀ c, c < g.n → p c < 10001 → R g t s (p c) c)
    (h0 : ∀ c, land g c → atB g c s = true → p c ≤ t c) (h1 : ∀ c k, land g c → land g k → nb g c k → p k ≤ max (p c) (t k)) : IsPass g t s p := by
  refine ⟨htop, hs, fun c hc h hr => ?_⟩
  induction hr with
  | base ha hb => have := h0 _ ha.1 hb; have := ha.2; omega
  | @step c k ha hn hr ih =>
    have hk := nb_lt hg hc hn
    have hkl := (Re.in_A hr).1
    have := ih hk
    have := h1 k c hkl ha.1 (nb_symm hg hc hn)
    have := ha.2
    omega

end Go.Proofs.Ytohjinbgbfggcaa.Rg
