/-
  Parts of the proof, in the order in which they build: EnA, EnB, EnC, EnD, EnE, EwK, EnF, EnG, EnL, EnM, EnN, EnH, EnI, EnJ, EnK, EzF.
-/
set_option linter.unusedVariables false
set_option linter.unusedSimpArgs false
/-
  Maps in plain words: neighbours, connected plots, regions, what lies within what. No program in sight.
-/
namespace Go.Proofs.Ytkjcnkkmhkcddaa

def nA (col c : Nat) : List Int := if 0 < col then [(c : Int) - 1] else []
def nB (wd col c : Nat) : List Int := if col + 1 < wd then [(c : Int) + 1] else []
def nC (wd c : Nat) : List Int := if wd ≤ c then [(c : Int) - wd] else []
def nD (wd N c : Nat) : List Int := if c + wd < N then [(c : Int) + wd] else []
def nbrK (wd N c col : Nat) : List Int := nC wd c ++ nA col c ++ nB wd col c ++ nD wd N c
/-- the neighbours of plot c, in the iterator's order -/
def nbrL (wd N c : Nat) : List Int := nbrK wd N c (c % wd)
/-- a map as data: columns, owners -/
structure Mp where
  wd : Nat
  os : List Int
def Mp.n (m : Mp) : Nat := m.os.length
structure Mp.Ok (m : Mp) : Prop where
  w0 : 0 < m.wd
  n0 : 0 < m.n
  n1 : m.n ≤ 100
  dv : m.n % m.wd = 0
theorem Mp.Ok.wn {m : Mp} (h : m.Ok) : m.wd ≤ m.n := Nat.le_of_dvd h.n0 (Nat.dvd_of_mod_eq_zero h.dv)
def Mp.own (m : Mp) (p : Nat) : Int := m.os.getD p 0
theorem mod_succ {wd N c : Nat} (hd : N % wd = 0) (hc : c < N) (h : c % wd + 1 < wd) : c + 1 < N ∧ (c + 1) % wd = c % wd + 1 := by
  have h3 : (c + 1) % wd = c % wd + 1 := by
    rw [Nat.add_mod]
    rcases Nat.lt_or_ge 1 wd with h4 | h4
    · rw [Nat.mod_eq_of_lt h4, Nat.mod_eq_of_lt h]
    · omega
  refine ⟨?_, h3⟩
  rcases Nat.lt_or_ge (c + 1) N with h2 | h2
  · exact h2
  · have e : c + 1 = N := by omega
    rw [e, hd] at h3; omega
theorem mod_pred {wd c : Nat} (hw : 0 < wd) (h : 0 < c % wd) : (c - 1) % wd + 1 = c % wd ∧ 0 < c := by
  have hlt := Nat.mod_lt c hw
  have e := Nat.div_add_mod c wd
  have hc : 0 < c := Nat.lt_of_lt_of_le h (Nat.mod_le _ _)
  have e2 : c - 1 = wd * (c / wd) + (c % wd - 1) := by omega
  have : (c - 1) % wd = c % wd - 1 := by
    rw [e2, Nat.mul_add_mod, Nat.mod_eq_of_lt (by omega)]
  omega
theorem mem_nbr {wd N c : Nat} {x : Int} : x ∈ nbrL wd N c ↔ (0 < c % wd ∧ x = (c : Int) - 1) ∨ (c % wd + 1 < wd ∧ x = (c : Int) + 1) ∨ (wd ≤ c ∧ x = (c : Int) - wd) ∨ (c + wd < N ∧ x = (c : Int) + wd) := by
  simp only [nbrL, nbrK, nA, nB, nC, nD, List.mem_append]
  constructor
  · intro h
    rcases h with ((h | h) | h) | h <;> split at h <;> simp_all
  · intro h
    rcases h with h | h | h | h <;> simp [h]
theorem mem_nbrL {wd N c : Nat} {x : Int} (hw : 0 < wd) (hd : N % wd = 0) (hc : c < N) (h : x ∈ nbrL wd N c) : ∃ k : Nat, x = k ∧ k < N := by
  rcases mem_nbr.1 h with h | h | h | h
  · have := (mod_pred hw h.1).2; exact ⟨c - 1, by omega, by omega⟩
  · have := (mod_succ hd hc h.1).1; exact ⟨c + 1, by omega, by omega⟩
  · exact ⟨c - wd, by omega, by omega⟩
  · exact ⟨c + wd, by omega, by omega⟩
/-- plots k and c are neighbours -/
def nb (m : Mp) (c k : Nat) : Prop := (k : Int) ∈ nbrL m.wd m.n c
theorem nb_lt {m : Mp} (hm : m.Ok) {c k : Nat} (hc : c < m.n) (h : nb m c k) : k < m.n := by
  obtain ⟨j, hj, hlt⟩ := mem_nbrL (N := m.n) hm.w0 hm.dv hc h
  have : j = k := by omega
  omega
theorem nb_symm {m : Mp} (hm : m.Ok) {c k : Nat} (hc : c < m.n) (h : nb m c k) : nb m k c := by
  have hk := nb_lt hm hc h
  rcases mem_nbr.1 h with h | h | h | h
  · have h1 := mod_pred hm.w0 h.1
    have e : k = c - 1 := by omega
    subst e
    have hlt := Nat.mod_lt c hm.w0
    exact mem_nbr.2 (.inr (.inl ⟨by omega, by omega⟩))
  · have h1 := mod_succ hm.dv hc h.1
    have e : k = c + 1 := by omega
    subst e
    exact mem_nbr.2 (.inl ⟨by omega, by omega⟩)
  · have e : k = c - m.wd := by omega
    subst e
    exact mem_nbr.2 (.inr (.inr (.inr ⟨by omega, by omega⟩)))
  · have e : k = c + m.wd := by omega
    subst e
    exact mem_nbr.2 (.inr (.inr (.inl ⟨by omega, by omega⟩)))
/-! Connected plots. -/
/-- from a one comes to b by plots of A -/
inductive Cn (m : Mp) (A : Nat → Prop) : Nat → Nat → Prop
  | refl {a : Nat} : A a → Cn m A a a
  | step {a b c : Nat} : A a → nb m a b → Cn m A b c → Cn m A a c
section
variable {m : Mp} {A B : Nat → Prop} {a b c : Nat}
theorem Cn.left (h : Cn m A a b) : A a := by cases h <;> assumption
theorem Cn.right (h : Cn m A a b) : A b := by
  induction h with
  | refl h => exact h
  | step _ _ _ ih => exact ih
theorem Cn.trans (h : Cn m A a b) (h' : Cn m A b c) : Cn m A a c := by
  induction h with
  | refl _ => exact h'
  | step ha hn _ ih => exact .step ha hn (ih h')
theorem Cn.mono (hA : ∀ k, A k → B k) (h : Cn m A a b) : Cn m B a b := by
  induction h with
  | refl h => exact .refl (hA _ h)
  | step ha hn _ ih => exact .step (hA _ ha) hn ih
theorem Cn.snoc (h : Cn m A a b) (hn : nb m b c) (hc : A c) : Cn m A a c := h.trans (.step h.right hn (.refl hc))
theorem Cn.symm (hm : m.Ok) (hA : ∀ k, A k → k < m.n) (h : Cn m A a b) : Cn m A b a := by
  induction h with
  | refl h => exact .refl h
  | step ha hn _ ih => exact ih.snoc (nb_symm hm (hA _ ha) hn) ha
/-- the way to b either keeps away from S, or there is a last plot of S on it -/
theorem Cn.last (S : Nat → Prop) (h : Cn m A a b) : Cn m (fun k => A k ∧ ¬ S k) a b ∨ ∃ k, S k ∧ Cn m A a k ∧ (k = b ∨ ∃ j, nb m k j ∧ Cn m (fun k => A k ∧ ¬ S k) j b) := by
  induction h with
  | @refl a h =>
    by_cases hs : S a
    · exact .inr ⟨a, hs, .refl h, .inl rfl⟩
    · exact .inl (.refl ⟨h, hs⟩)
  | @step a b c ha hn _ ih =>
    rcases ih with ih | ⟨k, h1, h2, h3⟩
    · by_cases hs : S a
      · exact .inr ⟨a, hs, .refl ha, .inr ⟨b, hn, ih⟩⟩
      · exact .inl (.step ⟨ha, hs⟩ hn ih)
    · exact .inr ⟨k, h1, .step ha hn h2, h3⟩
/-- .. or a first one -/
theorem Cn.first (S : Nat → Prop) (h : Cn m A a b) : Cn m (fun k => A k ∧ ¬ S k) a b ∨ ∃ k, S k ∧ A k ∧ Cn m A k b ∧ (k = a ∨ ∃ j, nb m j k ∧ Cn m (fun k => A k ∧ ¬ S k) a j) := by
  induction h with
  | @refl a h =>
    by_cases hs : S a
    · exact .inr ⟨a, hs, h, .refl h, .inl rfl⟩
    · exact .inl (.refl ⟨h, hs⟩)
  | @step a b c ha hn hbc ih =>
    by_cases hs : S a
    · exact .inr ⟨a, hs, ha, .step ha hn hbc, .inl rfl⟩
    · rcases ih with ih | ⟨k, h1, h2, h3, h4⟩
      · exact .inl (.step ⟨ha, hs⟩ hn ih)
      · refine .inr ⟨k, h1, h2, h3, .inr ?_⟩
        rcases h4 with rfl | ⟨j, h5, h6⟩
        · exact ⟨a, hn, .refl ⟨ha, hs⟩⟩
        · exact ⟨j, h5, .step ⟨ha, hs⟩ hn h6⟩
end
/-! Regions. -/
/-- the plots of an owner -/
def OfO (m : Mp) (o : Int) (p : Nat) : Prop := p < m.n ∧ m.own p = o
/-- two plots are in one region -/
def Sm (m : Mp) (p q : Nat) : Prop := Cn m (OfO m (m.own p)) p q
theorem Sm.refl {m : Mp} {p : Nat} (hp : p < m.n) : Sm m p p := Cn.refl ⟨hp, rfl⟩
theorem Sm.own {m : Mp} {p q : Nat} (h : Sm m p q) : m.own q = m.own p := (Cn.right h).2
theorem Sm.lt {m : Mp} {p q : Nat} (h : Sm m p q) : p < m.n ∧ q < m.n := ⟨(Cn.left h).1, (Cn.right h).1⟩
theorem Sm.symm {m : Mp} (hm : m.Ok) {p q : Nat} (h : Sm m p q) : Sm m q p := by
  unfold Sm; rw [h.own]; exact Cn.symm hm (fun _ h => h.1) h
theorem Sm.trans {m : Mp} {p q r : Nat} (h : Sm m p q) (h' : Sm m q r) : Sm m p r := by
  unfold Sm at h' ⊢; rw [h.own] at h'; exact Cn.trans h h'
/-- the numbers of the regions, by their first plots -/
structure IsReg (m : Mp) (r : Nat → Nat) : Prop where
  same : ∀ p q, p < m.n → q < m.n → (r p = r q ↔ Sm m p q)
  grow : ∀ p, p < m.n → ∀ j, j < r p → ∃ q, q < p ∧ r q = j
theorem IsReg.unique {m : Mp} {r r' : Nat → Nat} (h : IsReg m r) (h' : IsReg m r') : ∀ p, p < m.n → r p = r' p := by
  intro p
  induction p using Nat.strongRecOn with
  | ind p ih =>
    intro hp
    have key : ∀ {s s' : Nat → Nat}, IsReg m s → IsReg m s' → (∀ q, q < p → s q = s' q) → ¬ s p < s' p := by
      intro s s' hs hs' he hlt
      obtain ⟨q, hq, e⟩ := hs'.grow p hp (s p) hlt
      have h1 : s q = s p := by rw [he q hq, e]
      have h2 := (hs.same q p (by omega) hp).1 h1
      have h3 := (hs'.same q p (by omega) hp).2 h2
      omega
    have e : ∀ q, q < p → r q = r' q := fun q hq => ih q hq (by omega)
    have h1 := key h h' e
    have h2 := key h' h (fun q hq => (e q hq).symm)
    omega
/-- how many regions there are -/
structure IsMany (m : Mp) (r : Nat → Nat) (k : Nat) : Prop where
  lt : ∀ p, p < m.n → r p < k
  ex : ∀ j, j < k → ∃ p, p < m.n ∧ r p = j
/-! What lies within what. -/
/-- a plot of the first or last row or column -/
def rimB (m : Mp) (p : Nat) : Bool := decide (p < m.wd) || decide (m.n ≤ p + m.wd) || decide (p % m.wd = 0) || decide (p % m.wd + 1 = m.wd)
/-- the plots that are not of region j -/
def Free (m : Mp) (r : Nat → Nat) (j p : Nat) : Prop := p < m.n ∧ r p ≠ j
/-- there is a way out of region i without region j -/
def OutW (m : Mp) (r : Nat → Nat) (i j : Nat) : Prop := ∃ p q, r p = i ∧ Cn m (Free m r j) p q ∧ rimB m q = true
def In (m : Mp) (r : Nat → Nat) (i j : Nat) : Prop := i ≠ j ∧ ¬ OutW m r i j
section
variable {m : Mp} {r : Nat → Nat} {i j k : Nat}
/-- within a region one goes without any other one -/
theorem IsReg.go (h : IsReg m r) {p q : Nat} (hp : p < m.n) (hq : q < m.n) (e : r p = r q) (hj : r p ≠ j) : Cn m (Free m r j) p q := by
  have hs := (h.same p q hp hq).1 e
  have : ∀ a b, Cn m (OfO m (m.own p)) a b → Cn m (OfO m (m.own p)) p a → Cn m (Free m r j) a b := by
    intro a b hab
    induction hab with
    | @refl a ha => intro hpa; exact .refl ⟨ha.1, by rw [← (h.same p a hp ha.1).2 hpa]; exact hj⟩
    | @step a b c ha hn _ ih =>
      intro hpa
      exact .step ⟨ha.1, by rw [← (h.same p a hp ha.1).2 hpa]; exact hj⟩ hn (ih (hpa.snoc hn (Cn.left (by assumption))))
  exact this p q hs (.refl ⟨hp, rfl⟩)
/-- from any plot of a region without a way out, none -/
theorem In.all (h : In m r i j) {p q : Nat} (hp : r p = i) (hc : Cn m (Free m r j) p q) : rimB m q = false := by
  cases e : rimB m q with
  | false => rfl
  | true => exact absurd ⟨p, q, hp, hc, e⟩ h.2
/-- from each plot one comes to the rim -/
theorem to_rim (hm : m.Ok) : ∀ (d p : Nat), p < m.n → p % m.wd = d → ∃ q, Cn m (fun k => k < m.n) p q ∧ rimB m q = true
  | 0, p, hp, h => ⟨p, .refl hp, by unfold rimB; simp [h]⟩
  | d + 1, p, hp, h => by
    have h1 := mod_pred hm.w0 (show 0 < p % m.wd by omega)
    obtain ⟨q, h2, h3⟩ := to_rim hm d (p - 1) (by omega) (by omega)
    exact ⟨q, .step hp (mem_nbr.2 (.inl ⟨by omega, by omega⟩)) h2, h3⟩
/-- two regions never lie within each other -/
theorem In.asymm (hm : m.Ok) (hi : ∃ p, p < m.n ∧ r p = i) (h : In m r i j) : ¬ In m r j i := fun h' => by
  obtain ⟨p, hp, hpi⟩ := hi
  obtain ⟨q, hc, hq⟩ := to_rim hm _ p hp rfl
  rcases Cn.last (fun k => r k = i ∨ r k = j) hc with h1 | ⟨k, hk, hpk, h2⟩
  · exact (Cn.left h1).2 (.inl hpi)
  · have hkn : k < m.n := Cn.right (A := fun k => k < m.n) hpk
    have tail : ∀ x : Nat, r k ≠ x → (x = i ∨ x = j) → Cn m (Free m r x) k q := fun x hx hxx => by
      rcases h2 with rfl | ⟨l, hn, hl⟩
      · exact .refl ⟨hkn, hx⟩
      · exact .step ⟨hkn, hx⟩ hn (hl.mono fun y hy => ⟨hy.1, fun e => hy.2 (by rcases hxx with rfl | rfl <;> simp [e])⟩)
    rcases hk with hk | hk
    · exact h.2 ⟨k, q, hk, tail j (by rw [hk]; exact h.1) (.inr rfl), hq⟩
    · exact h'.2 ⟨k, q, hk, tail i (by rw [hk]; exact h'.1) (.inl rfl), hq⟩
/-- what lies within something that lies within another thing lies within that, too -/
theorem In.trans (h : In m r i j) (h' : In m r j k) (hik : i ≠ k) : In m r i k := by
  refine ⟨hik, ?_⟩
  rintro ⟨p, q, hp, hc, hq⟩
  rcases Cn.first (fun x => r x = j) hc with h1 | ⟨x, hx, -, h2, -⟩
  · exact h.2 ⟨p, q, hp, h1.mono fun y hy => ⟨hy.1.1, hy.2⟩, hq⟩
  · exact h'.2 ⟨x, q, hx, h2, hq⟩
/-- of two regions within which one lies the one lies within the other -/
theorem In.tree (hm : m.Ok) (hr : IsReg m r) (hi : ∃ p, p < m.n ∧ r p = i) (h : In m r i j) (h' : In m r i k) (hjk : j ≠ k) : In m r j k ∨ In m r k j := by
  apply Classical.byContradiction
  intro hno
  have o1 : OutW m r j k := Classical.byContradiction fun h => hno (.inl ⟨hjk, h⟩)
  have o2 : OutW m r k j := Classical.byContradiction fun h => hno (.inr ⟨hjk.symm, h⟩)
  obtain ⟨p, hp, hpi⟩ := hi
  obtain ⟨q, hc, hq⟩ := to_rim hm _ p hp rfl
  rcases Cn.first (fun x => r x = j ∨ r x = k) hc with h1 | ⟨x, hx, hxn, -, h2⟩
  · exact h.2 ⟨p, q, hpi, h1.mono fun y hy => ⟨hy.1, fun e => hy.2 (.inl e)⟩, hq⟩
  · have head : ∀ y : Nat, r x ≠ y → (y = j ∨ y = k) → Cn m (Free m r y) p x := fun y hy hyy => by
      rcases h2 with rfl | ⟨l, hn, hl⟩
      · exact .refl ⟨hxn, hy⟩
      · exact (hl.mono fun z hz => ⟨hz.1, fun e => hz.2 (by rcases hyy with rfl | rfl <;> simp [e])⟩).snoc hn ⟨hxn, hy⟩
    have fin : ∀ a b : Nat, r x = a → a ≠ b → (b = j ∨ b = k) → OutW m r a b → In m r i b → False := fun a b hxa hab hb ho hin => by
      obtain ⟨p', q', e, hc', hq'⟩ := ho
      exact hin.2 ⟨p, q', hpi, ((head b (by rw [hxa]; exact hab) hb).trans (hr.go hxn (Cn.left hc').1 (by rw [hxa, e]) (by rw [hxa]; exact hab))).trans hc', hq'⟩
    rcases hx with hx | hx
    · exact fin j k hx hjk (.inr rfl) o1 h'
    · exact fin k j hx hjk.symm (.inl rfl) o2 h
end
/-! The region around each region. -/
/-- the nearest of the first t regions that i lies within; none: -1 -/
def IsAr (m : Mp) (r : Nat → Nat) (i t : Nat) (x : Int) : Prop :=
  (x = -1 ∧ ∀ k, k < t → ¬ In m r i k) ∨ ∃ a : Nat, x = (a : Int) ∧ a < t ∧ In m r i a ∧ ∀ k, k < t → k ≠ a → In m r i k → In m r a k
section
variable {m : Mp} {r : Nat → Nat} {i t : Nat} {x : Int}
theorem IsAr.nil : IsAr m r i 0 (-1) := .inl ⟨rfl, fun _ hk => absurd hk (Nat.not_lt_zero _)⟩
theorem IsAr.skip (h : IsAr m r i t x) (hn : ¬ In m r i t) : IsAr m r i (t + 1) x := by
  rcases h with ⟨h1, h2⟩ | ⟨a, h1, h2, h3, h4⟩
  · refine .inl ⟨h1, fun k hk => ?_⟩
    by_cases e : k = t
    · rw [e]; exact hn
    · exact h2 k (by omega)
  · refine .inr ⟨a, h1, by omega, h3, fun k hk hka hik => ?_⟩
    by_cases e : k = t
    · rw [e] at hik; exact absurd hik hn
    · exact h4 k (by omega) hka hik
theorem IsAr.first (h : IsAr m r i t (-1)) (hn : In m r i t) : IsAr m r i (t + 1) t := by
  rcases h with ⟨-, h2⟩ | ⟨a, h1, -⟩
  · refine .inr ⟨t, rfl, by omega, hn, fun k hk _ hik => absurd hik (h2 k (by omega))⟩
  · omega
theorem IsAr.nearer {a : Nat} (h : IsAr m r i t (a : Int)) (hn : In m r i t) (hta : In m r t a) : IsAr m r i (t + 1) t := by
  rcases h with ⟨h1, -⟩ | ⟨b, h1, h2, h3, h4⟩
  · omega
  · obtain rfl : b = a := by omega
    refine .inr ⟨t, rfl, by omega, hn, fun k hk hkt hik => ?_⟩
    by_cases e : k = b
    · rw [e]; exact hta
    · exact hta.trans (h4 k (by omega) e hik) (fun e => hkt e.symm)
theorem IsAr.farther (hm : m.Ok) (hr : IsReg m r) (hi : ∃ p, p < m.n ∧ r p = i) {a : Nat} (h : IsAr m r i t (a : Int)) (hn : In m r i t) (hta : ¬ In m r t a) : IsAr m r i (t + 1) a := by
  rcases h with ⟨h1, -⟩ | ⟨b, h1, h2, h3, h4⟩
  · omega
  · obtain rfl : b = a := by omega
    refine .inr ⟨b, rfl, by omega, h3, fun k hk hkb hik => ?_⟩
    by_cases e : k = t
    · subst e
      rcases In.tree hm hr hi h3 hik (fun e => hkb e.symm) with h | h
      · exact h
      · exact absurd h hta
    · exact h4 k (by omega) hkb hik
/-- the number of the first t regions that i lies within -/
noncomputable def inCount (m : Mp) (r : Nat → Nat) (i : Nat) : Nat → Nat
  | 0 => 0
  | t + 1 => inCount m r i t + (open Classical in if In m r i t then 1 else 0)
theorem inCount_add (h : In m r i t) : inCount m r i (t + 1) = inCount m r i t + 1 := by rw [inCount, if_pos h]
theorem inCount_skip (h : ¬ In m r i t) : inCount m r i (t + 1) = inCount m r i t := by rw [inCount, if_neg h]; rfl
theorem inCount_le : ∀ t, inCount m r i t ≤ t
  | 0 => Nat.le_refl _
  | t + 1 => by
    by_cases h : In m r i t
    · rw [inCount_add h]; have := inCount_le t; omega
    · rw [inCount_skip h]; have := inCount_le t; omega
theorem inCount_zero : ∀ t, (inCount m r i t = 0 ↔ ∀ k, k < t → ¬ In m r i k)
  | 0 => ⟨fun _ k hk => absurd hk (Nat.not_lt_zero _), fun _ => rfl⟩
  | t + 1 => by
    have ih := inCount_zero t
    by_cases h : In m r i t
    · rw [inCount_add h]
      exact ⟨fun e => by omega, fun e => absurd h (e t (by omega))⟩
    · rw [inCount_skip h, ih]
      refine ⟨fun e k hk => ?_, fun e k hk => e k (by omega)⟩
      by_cases ek : k = t
      · rw [ek]; exact h
      · exact e k (by omega)
theorem inCount_same {j : Nat} : ∀ t, (∀ k, k < t → (In m r i k ↔ In m r j k)) → inCount m r i t = inCount m r j t
  | 0, _ => rfl
  | t + 1, h => by
    have ih := inCount_same t (fun k hk => h k (by omega))
    by_cases hi : In m r i t
    · rw [inCount_add hi, inCount_add ((h t (by omega)).1 hi), ih]
    · rw [inCount_skip hi, inCount_skip (fun hj => hi ((h t (by omega)).2 hj)), ih]
theorem inCount_one {a : Nat} (ha : In m r i a) (haa : ¬ In m r a a) : ∀ t, a < t → (∀ k, k < t → k ≠ a → (In m r i k ↔ In m r a k)) → inCount m r i t = inCount m r a t + 1
  | 0, h, _ => absurd h (Nat.not_lt_zero _)
  | t + 1, h, hk => by
    by_cases e : a = t
    · subst e
      rw [inCount_add ha, inCount_skip haa, inCount_same a fun k hk' => hk k (by omega) (by omega)]
    · have ih := inCount_one ha haa t (by omega) (fun k hk' => hk k (by omega))
      by_cases hi : In m r i t
      · rw [inCount_add hi, inCount_add ((hk t (by omega) (fun e' => e e'.symm)).1 hi), ih]
      · rw [inCount_skip hi, inCount_skip (fun hj => hi ((hk t (by omega) (fun e' => e e'.symm)).2 hj)), ih]
/-- the region around an enclave has a depth that is 1 less -/
theorem IsAr.depth (hm : m.Ok) {a T : Nat} (hT : ∀ k, k < T → ∃ p, p < m.n ∧ r p = k) (hiT : i < T) (h : IsAr m r i T (a : Int)) : inCount m r i T = inCount m r a T + 1 := by
  rcases h with ⟨h1, -⟩ | ⟨b, h1, h2, h3, h4⟩
  · omega
  · obtain rfl : b = a := by omega
    refine inCount_one h3 (fun h => h.1 rfl) T h2 fun k hk hkb => ⟨h4 k hk hkb, fun hbk => h3.trans hbk fun e => ?_⟩
    subst e
    exact In.asymm hm (hT i hiT) h3 hbk
end
end Go.Proofs.Ytkjcnkkmhkcddaa
/-
  Ways in plain words: what the search of enclave's method out keeps, and what it finds (as ridge's path: the texts are alike).
-/
namespace Go.Proofs.Ytkjcnkkmhkcddaa

def updB (M : Nat → Bool) (k : Nat) : Nat → Bool := fun c => if c = k then true else M c
def updF (F : Int → Int) (k : Int) (v : Int) : Int → Int := fun x => if x = k then v else F x
theorem updB_same (M : Nat → Bool) (k : Nat) : updB M k k = true := by simp [updB]
theorem updB_ne (M : Nat → Bool) {k c : Nat} (h : c ≠ k) : updB M k c = M c := by simp [updB, h]
theorem updB_mono {M : Nat → Bool} {k c : Nat} (h : M c = true) : updB M k c = true := by unfold updB; split <;> simp_all
theorem updF_same (F : Int → Int) (k v : Int) : updF F k v k = v := by simp [updF]
theorem updF_ne (F : Int → Int) {k c : Int} (v : Int) (h : c ≠ k) : updF F k v c = F c := by simp [updF, h]

/-- plot c comes to a plot of S by plots of A -/
inductive Re (g : Mp) (A S : Nat → Prop) : Nat → Prop
  | base {c : Nat} : A c → S c → Re g A S c
  | step {c k : Nat} : A c → nb g c k → Re g A S k → Re g A S c
theorem Cn.re {g : Mp} {A S : Nat → Prop} {a b : Nat} (h : Cn g A a b) (hs : S b) : Re g A S a := by
  induction h with
  | refl ha => exact .base ha hs
  | step ha hn _ ih => exact .step ha hn (ih hs)
/-- what the search keeps: M the marks, F from where, rk the order in which cells were met -/
structure BBase (g : Mp) (A Bg : Nat → Prop) (M : Nat → Bool) (F : Int → Int) (rk : Nat → Nat) (t : Nat) (q : List Nat) : Prop where
  ins : ∀ k, M k = true → k < g.n ∧ A k
  reach : ∀ k, M k = true → Re g A Bg k
  start : ∀ k, A k → Bg k → M k = true
  link : ∀ k : Nat, M k = true → (F k = -1 ∧ Bg k) ∨ ∃ p : Nat, F k = p ∧ M p = true ∧ nb g p k ∧ rk p < rk k
  rank : ∀ k, M k = true → rk k < t
  wait : ∀ k ∈ q, M k = true
structure BInv (g : Mp) (A Bg : Nat → Prop) (En : Nat → Bool) (M : Nat → Bool) (F : Int → Int) (rk : Nat → Nat) (t : Nat) (q : List Nat) : Prop extends BBase g A Bg M F rk t q where
  shut : ∀ k, M k = true → k ∉ q → En k = false ∧ ∀ j, A j → nb g k j → M j = true
structure BMid (g : Mp) (A Bg : Nat → Prop) (En : Nat → Bool) (M : Nat → Bool) (F : Int → Int) (rk : Nat → Nat) (t : Nat) (q : List Nat) (c : Nat) (pre : List Int) : Prop extends BBase g A Bg M F rk t q where
  shut : ∀ k, M k = true → k ∉ q → k ≠ c → En k = false ∧ ∀ j, A j → nb g k j → M j = true
  here : M c = true ∧ En c = false
  seen : ∀ j : Nat, (j : Int) ∈ pre → A j → M j = true

section
variable {g : Mp} {A Bg : Nat → Prop} {En : Nat → Bool} {M : Nat → Bool} {F : Int → Int} {rk : Nat → Nat} {t : Nat} {q : List Nat} {c : Nat} {pre : List Int}
theorem BInv.take (h : BInv g A Bg En M F rk t (c :: q)) (he : En c = false) : BMid g A Bg En M F rk t q c [] :=
  ⟨⟨h.ins, h.reach, h.start, h.link, h.rank, fun k hk => h.wait k (by simp [hk])⟩, fun k hk hq hc => h.shut k hk (by simp [hq, hc]), ⟨h.wait c (by simp), he⟩, by simp⟩
/-- the last one is taken -/
theorem BInv.pop (h : BInv g A Bg En M F rk t (q ++ [c])) (he : En c = false) : BMid g A Bg En M F rk t q c [] :=
  ⟨⟨h.ins, h.reach, h.start, h.link, h.rank, fun k hk => h.wait k (by simp [hk])⟩, fun k hk hq hc => h.shut k hk (by simp [hq, hc]), ⟨h.wait c (by simp), he⟩, by simp⟩
theorem BMid.done (h : BMid g A Bg En M F rk t q c (nbrL g.wd g.n c)) : BInv g A Bg En M F rk t q :=
  ⟨h.toBBase, fun k hk hq => by
    by_cases e : k = c
    · subst e; exact ⟨h.here.2, fun j hj hn => h.seen j hn hj⟩
    · exact h.shut k hk hq e⟩
theorem BMid.skip {k : Nat} (h : BMid g A Bg En M F rk t q c pre) (hk : A k → M k = true) : BMid g A Bg En M F rk t q c (pre ++ [(k : Int)]) :=
  ⟨h.toBBase, h.shut, h.here, fun j hj hA => by
    rcases List.mem_append.1 hj with hj | hj
    · exact h.seen j hj hA
    · have e : j = k := by simp at hj; omega
      subst e; exact hk hA⟩
theorem BMid.add {k : Nat} (hg : g.Ok) (h : BMid g A Bg En M F rk t q c pre) (hn : nb g c k) (hA : A k) (hM : M k = false) :
    BMid g A Bg En (updB M k) (updF F k c) (fun x => if x = k then t else rk x) (t + 1) (q ++ [k]) c (pre ++ [(k : Int)]) := by
  have hc := h.ins c h.here.1
  have hkn := nb_lt hg hc.1 hn
  have hck : c ≠ k := fun e => by have := h.here.1; rw [e, hM] at this; cases this
  have hne : ∀ {x}, M x = true → x ≠ k := fun hx e => by rw [e, hM] at hx; cases hx
  have old : ∀ {x}, updB M k x = true → x ≠ k → M x = true := fun hx e => by rwa [updB_ne _ e] at hx
  refine ⟨⟨fun x hx => ?_, fun x hx => ?_, fun x hx hb => updB_mono (h.start x hx hb), fun x hx => ?_, fun x hx => ?_, fun x hx => ?_⟩, fun x hx hq hxc => ?_, ⟨updB_mono h.here.1, h.here.2⟩, fun x hx hAx => ?_⟩
  · by_cases e : x = k
    · subst e; exact ⟨hkn, hA⟩
    · exact h.ins x (old hx e)
  · by_cases e : x = k
    · subst e; exact .step hA (nb_symm hg hc.1 hn) (h.reach c h.here.1)
    · exact h.reach x (old hx e)
  · by_cases e : x = k
    · subst e
      refine .inr ⟨c, updF_same _ _ _, updB_mono h.here.1, hn, ?_⟩
      simp only [if_neg hck]
      exact h.rank c h.here.1
    · rcases h.link x (old hx e) with ⟨h1, h2⟩ | ⟨p, h1, h2, h3, h4⟩
      · exact .inl ⟨by rw [updF_ne _ _ (by omega)]; exact h1, h2⟩
      · refine .inr ⟨p, by rw [updF_ne _ _ (by omega)]; exact h1, updB_mono h2, h3, ?_⟩
        simp only [if_neg e, if_neg (hne h2)]; exact h4
  · by_cases e : x = k
    · rw [if_pos e]; omega
    · rw [if_neg e]; have := h.rank x (old hx e); omega
  · rcases List.mem_append.1 hx with hx | hx
    · exact updB_mono (h.wait x hx)
    · have e : x = k := by simpa using hx
      rw [e]; exact updB_same _ _
  · have e : x ≠ k := fun e => hq (by simp [e])
    have := h.shut x (old hx e) (fun hm => hq (by simp [hm])) hxc
    exact ⟨this.1, fun j hj hn => updB_mono (this.2 j hj hn)⟩
  · rcases List.mem_append.1 hx with hx | hx
    · exact updB_mono (h.seen x hx hAx)
    · have e : x = k := by simp at hx; omega
      rw [e]; exact updB_same _ _

/-- behind the search all is met that comes to a beginning -/
theorem BInv.met (hg : g.Ok) (h : BInv g A Bg En M F rk t []) (hAn : ∀ c, A c → c < g.n) : ∀ c, M c = true ↔ Re g A Bg c := by
  intro c
  refine ⟨h.reach c, fun hr => ?_⟩
  induction hr with
  | base ha hs => exact h.start _ ha hs
  | @step c k ha hn _ ih => exact (h.shut k ih (by simp)).2 c ha (nb_symm hg (hAn c ha) hn)
theorem BInv.none (hg : g.Ok) (h : BInv g A Bg En M F rk t []) (hAn : ∀ c, A c → c < g.n) : ∀ c, Re g A Bg c → En c = false :=
  fun c hr => (h.shut c ((h.met hg hAn c).2 hr) (by simp)).1

/-- the way back from the last cell: L holds what was passed, x is next -/
structure Back (g : Mp) (Bg : Nat → Prop) (M : Nat → Bool) (rk : Nat → Nat) (last : Nat) (L : List Nat) (x : Int) : Prop where
  met : ∀ a ∈ L, M a = true
  falls : L.Pairwise (fun a b => rk b < rk a)
  next : (x = -1 ∧ ∃ l b, L = l ++ [b] ∧ Bg b) ∨ ∃ p : Nat, x = p ∧ M p = true ∧ (∀ a ∈ L, rk p < rk a) ∧ (∀ l b, L = l ++ [b] → nb g p b)
  adj : ∀ l a b r, L = l ++ a :: b :: r → nb g b a
  head : (L = [] ∧ x = last) ∨ ∃ r, L = last :: r
theorem Back.start {last : Nat} (hM : M last = true) : Back g Bg M rk last [] last :=
  ⟨by simp, .nil, .inr ⟨last, rfl, hM, by simp, by intro l b h; simp at h⟩, by intro l a b r h; simp at h, .inl ⟨rfl, rfl⟩⟩
theorem Back.step (h0 : BBase g A Bg M F rk t q) {last : Nat} {L : List Nat} {p : Nat} (h : Back g Bg M rk last L p) : Back g Bg M rk last (L ++ [p]) (F p) := by
  have hp : M p = true ∧ (∀ a ∈ L, rk p < rk a) ∧ (∀ l b, L = l ++ [b] → nb g p b) := by
    rcases h.next with ⟨h1, _⟩ | ⟨p', h1, h2, h3⟩
    · omega
    · have e : p' = p := by omega
      subst e; exact ⟨h2, h3⟩
  refine ⟨fun a ha => ?_, ?_, ?_, fun l a b r e => ?_, ?_⟩
  · rcases List.mem_append.1 ha with ha | ha
    · exact h.met a ha
    · have e : a = p := by simpa using ha
      rw [e]; exact hp.1
  · refine List.pairwise_append.2 ⟨h.falls, by simp, fun a ha b hb => ?_⟩
    have e : b = p := by simpa using hb
    rw [e]; exact hp.2.1 a ha
  · rcases h0.link p hp.1 with ⟨h1, h2⟩ | ⟨p', h1, h2, h3, h4⟩
    · exact .inl ⟨h1, L, p, rfl, h2⟩
    · refine .inr ⟨p', h1, h2, fun a ha => ?_, fun l b e => ?_⟩
      · rcases List.mem_append.1 ha with ha | ha
        · have := hp.2.1 a ha; omega
        · have e : a = p := by simpa using ha
          rw [e]; exact h4
      · have e2 : p = b := by have := List.append_inj' e rfl; simpa using this.2
        rw [← e2]; exact h3
  · rcases List.eq_nil_or_concat r with rfl | ⟨r', z, rfl⟩
    · have e1 : L ++ [p] = (l ++ [a]) ++ [b] := by rw [e]; simp
      have e2 := List.append_inj' e1 rfl
      have e3 : p = b := by simpa using e2.2
      rw [← e3]; exact hp.2.2 l a e2.1
    · have e1 : L ++ [p] = (l ++ a :: b :: r') ++ [z] := by rw [e]; simp
      have e2 := List.append_inj' e1 rfl
      exact h.adj l a b r' e2.1
  · rcases h.head with ⟨h1, h2⟩ | ⟨r, h1⟩
    · refine .inr ⟨[], ?_⟩
      have e : p = last := by omega
      rw [h1, e]; rfl
    · exact .inr ⟨r ++ [p], by rw [h1]; rfl⟩

/-- a way from a beginning to an end -/
structure IsWay (g : Mp) (A Bg : Nat → Prop) (En : Nat → Bool) (L : List Nat) : Prop where
  cells : ∀ a ∈ L, A a
  once : L.Nodup
  adj : ∀ l a b r, L = l ++ a :: b :: r → nb g a b
  first : ∃ b r, L = b :: r ∧ Bg b
  last : ∃ l b, L = l ++ [b] ∧ En b = true
theorem Back.way (h0 : BBase g A Bg M F rk t q) {last : Nat} {L : List Nat} (h : Back g Bg M rk last L (-1)) (he : En last = true) : IsWay g A Bg En L.reverse := by
  have hn : ∃ l b, L = l ++ [b] ∧ Bg b := by
    rcases h.next with ⟨_, h1⟩ | ⟨p, h1, _⟩
    · exact h1
    · omega
  obtain ⟨l, b, e, hb⟩ := hn
  refine ⟨fun a ha => (h0.ins a (h.met a (by simpa using ha))).2, ?_, fun l a b r e => ?_, ⟨b, l.reverse, by rw [e]; simp, hb⟩, ?_⟩
  · exact List.pairwise_reverse.2 (h.falls.imp (fun hab e => by rw [e] at hab; omega))
  · have e1 : L = r.reverse ++ b :: a :: l.reverse := by
      have := congrArg List.reverse e
      simpa using this
    exact h.adj _ _ _ _ e1
  · rcases h.head with ⟨h1, _⟩ | ⟨r, h1⟩
    · rw [h1] at e; simp at e
    · exact ⟨r.reverse, last, by rw [h1]; simp, he⟩
end

/-- the state behind k rounds of path's first loop: cells that st names are met, from nowhere, and wait -/
def met1 (st : Nat → Bool) (k : Nat) : Nat → Bool := fun c => decide (c < k) && st c
def from1 (st : Nat → Bool) (k : Nat) : Int → Int := fun x => if 0 ≤ x ∧ x < k ∧ st x.toNat = true then -1 else 0
def queue1 (st : Nat → Bool) (k : Nat) : List Nat := (List.range k).filter st
theorem met1_zero (st : Nat → Bool) : met1 st 0 = fun _ => false := by funext c; simp [met1]
theorem from1_zero (st : Nat → Bool) : from1 st 0 = fun _ => 0 := by
  funext x; unfold from1; rw [if_neg]; rintro ⟨h1, h2, _⟩; simp at h2; omega
theorem met1_add {st : Nat → Bool} {k : Nat} (h : st k = true) : updB (met1 st k) k = met1 st (k + 1) := by
  funext c
  by_cases e : c = k
  · subst e; rw [updB_same]; simp [met1, h]
  · rw [updB_ne _ e]; simp only [met1]
    by_cases h2 : c < k
    · simp [h2, show c < k + 1 from by omega]
    · simp [h2, show ¬ c < k + 1 from by omega]
theorem met1_skip {st : Nat → Bool} {k : Nat} (h : st k = false) : met1 st k = met1 st (k + 1) := by
  funext c
  simp only [met1]
  by_cases e : c = k
  · subst e; simp [h]
  · by_cases h2 : c < k
    · simp [h2, show c < k + 1 from by omega]
    · simp [h2, show ¬ c < k + 1 from by omega]
theorem from1_add {st : Nat → Bool} {k : Nat} (h : st k = true) : (fun x => if x = (k : Int) then -1 else from1 st k x) = from1 st (k + 1) := by
  funext x
  by_cases e : x = k
  · subst e; simp [from1, h]; omega
  · simp only [if_neg e, from1]
    by_cases h2 : 0 ≤ x ∧ x < k ∧ st x.toNat = true
    · rw [if_pos h2, if_pos ⟨h2.1, by omega, h2.2.2⟩]
    · rw [if_neg h2, if_neg (fun h3 => h2 ⟨h3.1, by omega, h3.2.2⟩)]
theorem from1_skip {st : Nat → Bool} {k : Nat} (h : st k = false) : from1 st k = from1 st (k + 1) := by
  funext x
  simp only [from1]
  by_cases h2 : 0 ≤ x ∧ x < k ∧ st x.toNat = true
  · rw [if_pos h2, if_pos ⟨h2.1, by omega, h2.2.2⟩]
  · rw [if_neg h2, if_neg (fun h3 => h2 ⟨h3.1, ?_, h3.2.2⟩)]
    have := h3.2.1
    have hne : x ≠ k := fun e => by subst e; rw [Int.toNat_natCast, h] at h3; exact absurd h3.2.2 (by simp)
    omega
theorem queue1_add {st : Nat → Bool} {k : Nat} (h : st k = true) : queue1 st (k + 1) = queue1 st k ++ [k] := by simp [queue1, List.range_succ, h]
theorem queue1_skip {st : Nat → Bool} {k : Nat} (h : st k = false) : queue1 st (k + 1) = queue1 st k := by simp [queue1, List.range_succ, h]
theorem queue1_length (st : Nat → Bool) (k : Nat) : (queue1 st k).length ≤ k := by
  have := List.length_filter_le st (List.range k)
  simpa [queue1] using this
theorem BInv.begin {g : Mp} {A Bg : Nat → Prop} {En : Nat → Bool} {st : Nat → Bool} (h1 : ∀ k, k < g.n → (st k = true ↔ A k ∧ Bg k)) (h2 : ∀ k, A k → k < g.n) :
    BInv g A Bg En (met1 st g.n) (from1 st g.n) (fun _ => 0) 1 (queue1 st g.n) := by
  have hm : ∀ k, met1 st g.n k = true → k < g.n ∧ st k = true := fun k hk => by simpa [met1] using hk
  refine ⟨⟨fun k hk => ?_, fun k hk => ?_, fun k hA hB => ?_, fun k hk => ?_, fun k hk => by omega, fun k hk => ?_⟩, fun k hk hq => absurd ?_ hq⟩
  · obtain ⟨h3, h4⟩ := hm k hk; exact ⟨h3, ((h1 k h3).1 h4).1⟩
  · obtain ⟨h3, h4⟩ := hm k hk; exact .base ((h1 k h3).1 h4).1 ((h1 k h3).1 h4).2
  · have := h2 k hA; simp [met1, this, (h1 k this).2 ⟨hA, hB⟩]
  · obtain ⟨h3, h4⟩ := hm k hk
    refine .inl ⟨?_, ((h1 k h3).1 h4).2⟩
    unfold from1
    rw [if_pos ⟨by omega, by omega, by simpa using h4⟩]
  · have : k < g.n ∧ st k = true := by simpa [queue1] using hk
    simp [met1, this.1, this.2]
  · obtain ⟨h3, h4⟩ := hm k hk; simp [queue1, h3, h4]
def upd (f : Nat → Int) (k : Nat) (v : Int) : Nat → Int := fun c => if c = k then v else f c
theorem upd_same (f : Nat → Int) (k : Nat) (v : Int) : upd f k v k = v := by simp [upd]
theorem upd_ne (f : Nat → Int) {k c : Nat} (v : Int) (h : c ≠ k) : upd f k v c = f c := by simp [upd, h]
/-- the measure of the search -/
def unmet (M : Nat → Bool) : Nat → Int := fun k => if M k = true then 0 else 1
end Go.Proofs.Ytkjcnkkmhkcddaa
/-
  Maps in plain words: how the regions are numbered.
-/
namespace Go.Proofs.Ytkjcnkkmhkcddaa

/-- the numbers R of the plots' regions (-1: none yet), behind the plots ahead of first; c regions are numbered -/
structure Lab (m : Mp) (R : Nat → Int) (first c : Nat) : Prop where
  rng : ∀ p, p < m.n → R p = -1 ∨ (0 ≤ R p ∧ R p < c)
  same : ∀ p q, p < m.n → q < m.n → R p ≠ -1 → (R p = R q ↔ Sm m p q)
  all : ∀ p, p < first → p < m.n → R p ≠ -1
  used : ∀ j : Nat, j < c → ∃ q, q < first ∧ q < m.n ∧ R q = j
  grow : ∀ p, p < m.n → R p ≠ -1 → ∀ j : Nat, (j : Int) < R p → ∃ q, q < p ∧ R q = j
/-- .. while region c is filled from plot first; R0 is what was there, q waits -/
structure FBase (m : Mp) (R0 R : Nat → Int) (first c : Nat) (q : List Nat) : Prop where
  old : ∀ p, p < m.n → R0 p ≠ -1 → R p = R0 p
  new : ∀ p, p < m.n → R0 p = -1 → R p = -1 ∨ (R p = c ∧ Sm m first p)
  here : R first = c
  wait : ∀ k ∈ q, k < m.n ∧ R k = c
structure Fill (m : Mp) (R0 R : Nat → Int) (first c : Nat) (q : List Nat) : Prop extends FBase m R0 R first c q where
  shut : ∀ k, k < m.n → R k = c → k ∉ q → ∀ j, nb m k j → m.own j = m.own k → R j = c
structure FMid (m : Mp) (R0 R : Nat → Int) (first c : Nat) (q : List Nat) (at_ : Nat) (pre : List Int) : Prop extends FBase m R0 R first c q where
  shut : ∀ k, k < m.n → R k = c → k ∉ q → k ≠ at_ → ∀ j, nb m k j → m.own j = m.own k → R j = c
  cur : at_ < m.n ∧ R at_ = c
  seen : ∀ j : Nat, (j : Int) ∈ pre → m.own j = m.own at_ → R j = c
section
variable {m : Mp} {R0 R : Nat → Int} {first c a : Nat} {q : List Nat} {pre : List Int}
theorem Lab.begin (m : Mp) : Lab m (fun _ => -1) 0 0 :=
  ⟨fun _ _ => .inl rfl, fun _ _ _ _ h => absurd rfl h, fun _ h => absurd h (Nat.not_lt_zero _), fun _ h => absurd h (Nat.not_lt_zero _), fun _ _ h => absurd rfl h⟩
theorem Lab.skip (h : Lab m R first c) (hf : R first ≠ -1) : Lab m R (first + 1) c :=
  ⟨h.rng, h.same, fun p hp hpn => by
    by_cases e : p = first
    · rw [e]; exact hf
    · exact h.all p (by omega) hpn, fun j hj => by obtain ⟨q, h1, h2⟩ := h.used j hj; exact ⟨q, by omega, h2⟩, h.grow⟩
theorem Fill.begin (h : Lab m R first c) (hf : first < m.n) (hR : R first = -1) : Fill m R (upd R first c) first c [first] := by
  have hne : ∀ p, p < m.n → R p ≠ -1 → p ≠ first := fun p _ h1 e => h1 (by rw [e]; exact hR)
  refine ⟨⟨fun p hp h1 => upd_ne R _ (hne p hp h1), fun p hp h1 => ?_, upd_same _ _ _, fun k hk => ?_⟩, fun k hk h1 h2 => ?_⟩
  · by_cases e : p = first
    · rw [e]; exact .inr ⟨upd_same _ _ _, Sm.refl hf⟩
    · rw [upd_ne R _ e]; exact .inl h1
  · rw [List.mem_singleton] at hk; rw [hk]; exact ⟨hf, upd_same _ _ _⟩
  · have e : k ≠ first := fun e => h2 (by simp [e])
    rw [upd_ne R _ e] at h1
    rcases h.rng k hk with h3 | h3 <;> omega
theorem Fill.pop (h : Fill m R0 R first c (q ++ [a])) : FMid m R0 R first c q a [] :=
  ⟨⟨h.old, h.new, h.here, fun k hk => h.wait k (by simp [hk])⟩, fun k hk h1 h2 h3 => h.shut k hk h1 (by simp [h2, h3]), h.wait a (by simp), fun j hj => by cases hj⟩
theorem FMid.done (h : FMid m R0 R first c q a (nbrL m.wd m.n a)) : Fill m R0 R first c q :=
  ⟨h.toFBase, fun k hk h1 h2 j hn ho => by
    by_cases e : k = a
    · subst e; exact h.seen j hn ho
    · exact h.shut k hk h1 h2 e j hn ho⟩
/-- a neighbour of another owner, or one that is numbered -/
theorem FMid.skip {k : Nat} (h : FMid m R0 R first c q a pre) (hk : m.own k = m.own a → R k = c) : FMid m R0 R first c q a (pre ++ [(k : Int)]) :=
  ⟨h.toFBase, h.shut, h.cur, fun j hj ho => by
    rcases List.mem_append.1 hj with hj | hj
    · exact h.seen j hj ho
    · have e : j = k := by simp at hj; omega
      subst e; exact hk ho⟩
theorem FMid.sm (h0 : Lab m R0 first c) (h : FMid m R0 R first c q a pre) : Sm m first a ∧ R0 a = -1 := by
  have h1 : R0 a = -1 := by
    rcases h0.rng a h.cur.1 with h1 | h1
    · exact h1
    · have := h.old a h.cur.1 (by omega)
      have := h.cur.2
      omega
  refine ⟨?_, h1⟩
  rcases h.new a h.cur.1 h1 with h2 | h2
  · have := h.cur.2; omega
  · exact h2.2
theorem Sm.snoc {p k : Nat} (h : Sm m p a) (hn : nb m a k) (hk : k < m.n) (ho : m.own k = m.own a) : Sm m p k :=
  Cn.snoc h hn ⟨hk, by rw [ho]; exact h.own⟩
/-- a neighbour of the same owner that is numbered is of this region -/
theorem FMid.old_same (hm : m.Ok) (h0 : Lab m R0 first c) (hf : R0 first = -1) (h : FMid m R0 R first c q a pre) {k : Nat} (hn : nb m a k) (ho : m.own k = m.own a) (hk : R k ≠ -1) : R k = c := by
  have hkn := nb_lt hm h.cur.1 hn
  obtain ⟨hs, -⟩ := h.sm h0
  have hsk := hs.snoc hn hkn ho
  rcases h0.rng k hkn with h1 | h1
  · rcases h.new k hkn h1 with h2 | h2
    · exact absurd h2 hk
    · exact h2.1
  · have := (h0.same k first hkn hs.lt.1 (by omega)).2 (hsk.symm hm)
    omega
theorem FMid.add (hm : m.Ok) (h0 : Lab m R0 first c) (h : FMid m R0 R first c q a pre) {k : Nat} (hn : nb m a k) (ho : m.own k = m.own a) (hk : R k = -1) : FMid m R0 (upd R k c) first c (q ++ [k]) a (pre ++ [(k : Int)]) := by
  have hkn := nb_lt hm h.cur.1 hn
  obtain ⟨hs, -⟩ := h.sm h0
  have hsk := hs.snoc hn hkn ho
  have hne : ∀ {x}, R x = c → x ≠ k := fun {x} hx e => by rw [e, hk] at hx; omega
  have keep : ∀ {x}, R x = c → upd R k c x = c := fun {x} hx => by rw [upd_ne R _ (hne hx)]; exact hx
  refine ⟨⟨fun p hp h1 => ?_, fun p hp h1 => ?_, keep h.here, fun x hx => ?_⟩, fun x hx h1 h2 h3 j hnj hoj => ?_, ⟨h.cur.1, keep h.cur.2⟩, fun j hj hoj => ?_⟩
  · have e := h.old p hp h1
    by_cases ep : p = k
    · rw [ep] at e h1; rw [hk] at e; exact absurd e.symm h1
    · rw [upd_ne R _ ep]; exact e
  · by_cases ep : p = k
    · rw [ep]; exact .inr ⟨upd_same _ _ _, hsk⟩
    · rw [upd_ne R _ ep]; exact h.new p hp h1
  · rcases List.mem_append.1 hx with hx | hx
    · exact ⟨(h.wait x hx).1, keep (h.wait x hx).2⟩
    · rw [List.mem_singleton] at hx; rw [hx]; exact ⟨hkn, upd_same _ _ _⟩
  · have e : x ≠ k := fun e => h2 (by simp [e])
    rw [upd_ne R _ e] at h1
    exact keep (h.shut x hx h1 (fun hm => h2 (by simp [hm])) h3 j hnj hoj)
  · rcases List.mem_append.1 hj with hj | hj
    · exact keep (h.seen j hj hoj)
    · have e : j = k := by simp at hj; omega
      rw [e]; exact upd_same _ _ _
/-- the region is whole -/
theorem Fill.done (hm : m.Ok) (h0 : Lab m R0 first c) (hf : first < m.n) (h : Fill m R0 R first c []) : Lab m R (first + 1) (c + 1) := by
  have old0 : ∀ p, p < m.n → R p ≠ -1 → R0 p ≠ -1 ∨ (R p = c ∧ Sm m first p) := fun p hp h1 => by
    by_cases e : R0 p = -1
    · rcases h.new p hp e with h2 | h2
      · exact absurd h2 h1
      · exact .inr h2
    · exact .inl e
  have lt0 : ∀ p, p < m.n → R0 p ≠ -1 → 0 ≤ R p ∧ R p < c := fun p hp h1 => by
    rw [h.old p hp h1]
    rcases h0.rng p hp with h2 | h2
    · exact absurd h2 h1
    · exact h2
  have whole : ∀ x y, Cn m (OfO m (m.own first)) x y → R x = c → R y = c := by
    intro x y hxy
    induction hxy with
    | refl _ => exact fun h => h
    | @step x y z hx hn hyz ih =>
      intro hc
      exact ih (h.shut x hx.1 hc (by simp) y hn (by rw [(Cn.left hyz).2, hx.2]))
  have all : ∀ p, Sm m first p → R p = c := fun p hp => whole _ _ hp h.here
  refine ⟨fun p hp => ?_, fun p q hp hq h1 => ?_, fun p hp hpn => ?_, fun j hj => ?_, fun p hp h1 j hj => ?_⟩
  · by_cases e : R p = -1
    · exact .inl e
    · rcases old0 p hp e with h2 | h2
      · have := lt0 p hp h2; exact .inr ⟨this.1, by omega⟩
      · right; omega
  · rcases old0 p hp h1 with h2 | ⟨h2, h3⟩
    · have hl := lt0 p hp h2
      rw [h.old p hp h2] at hl ⊢
      by_cases e : R0 q = -1
      · constructor
        · intro he
          rcases h.new q hq e with h4 | h4 <;> omega
        · intro hs
          have := (h0.same p q hp hq h2).2 hs
          rw [e] at this; exact absurd this h2
      · rw [h.old q hq e]; exact h0.same p q hp hq h2
    · rw [h2]
      constructor
      · intro he
        have hq1 : R q ≠ -1 := by omega
        rcases old0 q hq hq1 with h4 | h4
        · have := lt0 q hq h4; omega
        · exact (h3.symm hm).trans h4.2
      · intro hs; exact (all q (h3.trans hs)).symm
  · by_cases e : p = first
    · rw [e, h.here]; omega
    · have h1 := h0.all p (by omega) hpn
      rw [h.old p hpn h1]; exact h1
  · by_cases e : j = c
    · exact ⟨first, by omega, hf, by rw [e]; exact h.here⟩
    · obtain ⟨q, h1, h2, h3⟩ := h0.used j (by omega)
      exact ⟨q, by omega, h2, by rw [h.old q h2 (by omega)]; exact h3⟩
  · rcases old0 p hp h1 with h2 | ⟨h2, h3⟩
    · rw [h.old p hp h2] at hj
      obtain ⟨q, h4, h5⟩ := h0.grow p hp h2 j hj
      exact ⟨q, h4, by rw [h.old q (by omega) (by omega)]; exact h5⟩
    · have hpf : first ≤ p := by
        rcases Nat.lt_or_ge p first with h4 | h4
        · have h5 := h0.all p h4 hp
          have := lt0 p hp h5
          omega
        · exact h4
      obtain ⟨q, h4, h5, h6⟩ := h0.used j (by omega)
      exact ⟨q, by omega, by rw [h.old q h5 (by omega)]; exact h6⟩
/-- all plots are numbered -/
theorem Lab.reg (h : Lab m R m.n c) : IsReg m (fun p => (R p).toNat) ∧ IsMany m (fun p => (R p).toNat) c ∧ ∀ p, p < m.n → 0 ≤ R p := by
  have h0 : ∀ p, p < m.n → 0 ≤ R p ∧ R p < c := fun p hp => by
    rcases h.rng p hp with h1 | h1
    · exact absurd h1 (h.all p hp hp)
    · exact h1
  refine ⟨⟨fun p q hp hq => ?_, fun p hp j hj => ?_⟩, ⟨fun p hp => ?_, fun j hj => ?_⟩, fun p hp => (h0 p hp).1⟩
  · have h1 := h0 p hp
    have h2 := h0 q hq
    rw [← h.same p q hp hq (by omega)]
    constructor
    · intro e; have e : (R p).toNat = (R q).toNat := e; omega
    · intro e; show (R p).toNat = (R q).toNat; rw [e]
  · have h1 := h0 p hp
    have hj : j < (R p).toNat := hj
    obtain ⟨q, h2, h3⟩ := h.grow p hp (by omega) j (by omega)
    exact ⟨q, h2, by show (R q).toNat = j; omega⟩
  · have := h0 p hp; show (R p).toNat < c; omega
  · obtain ⟨q, -, h2, h3⟩ := h.used j hj
    exact ⟨q, h2, by show (R q).toNat = j; omega⟩
end
end Go.Proofs.Ytkjcnkkmhkcddaa
/-
  Maps in plain words: ways out of regions.
-/
namespace Go.Proofs.Ytkjcnkkmhkcddaa

section
variable {m : Mp} {r : Nat → Nat} {i j : Nat} {M : Nat → Bool} {F : Int → Int} {rk : Nat → Nat} {t : Nat}
theorem Free.lt {k : Nat} (h : Free m r j k) : k < m.n := h.1
/-- the search that ends without a plot of the rim finds that there is no way -/
theorem out_none (hm : m.Ok) (h : BInv m (Free m r j) (fun k => r k = i) (rimB m) M F rk t []) : ¬ OutW m r i j := by
  rintro ⟨p, q, hp, hc, hq⟩
  have h1 := h.none hm (fun _ h => h.1) q ((hc.symm hm fun _ h => h.1).re hp)
  rw [hq] at h1; cases h1
/-- a list is a way out of region i without region j -/
structure Leads (m : Mp) (r : Nat → Nat) (i j : Nat) (L : List Nat) : Prop where
  lt : ∀ p ∈ L, p < m.n
  free : ∀ p ∈ L, r p ≠ j
  adj : ∀ l a b s, L = l ++ a :: b :: s → nb m a b
  first : ∃ b s, L = b :: s ∧ r b = i
  last : ∃ l b, L = l ++ [b] ∧ rimB m b = true
theorem Leads.ne {L : List Nat} (h : Leads m r i j L) : L ≠ [] := by
  obtain ⟨b, s, e, -⟩ := h.first
  rw [e]; simp
theorem way_leads {L : List Nat} (h : IsWay m (Free m r j) (fun k => r k = i) (rimB m) L) : Leads m r i j L :=
  ⟨fun p hp => (h.cells p hp).1, fun p hp => (h.cells p hp).2, h.adj, h.first, h.last⟩
/-- along a list one comes from its first plot to its last one -/
theorem adj_cn {A : Nat → Prop} : ∀ {L : List Nat} {a b : Nat} {l s : List Nat}, L = a :: s → L = l ++ [b] → (∀ p ∈ L, A p) → (∀ l a b s, L = l ++ a :: b :: s → nb m a b) → Cn m A a b
  | [], a, b, l, s, h1, _, _, _ => by cases h1
  | [x], a, b, l, s, h1, h2, hA, _ => by
    cases h1
    have e : b = x := by
      have := congrArg List.getLast? h2
      simpa using this.symm
    rw [e]; exact .refl (hA x (by simp))
  | x :: y :: L, a, b, l, s, h1, h2, hA, hadj => by
    cases h1
    have hl : l ≠ [] := fun e => by rw [e] at h2; simp at h2
    obtain ⟨z, l', rfl⟩ := List.exists_cons_of_ne_nil hl
    have h3 : y :: L = l' ++ [b] := by
      have := List.cons.inj h2; exact this.2
    exact .step (hA x (by simp)) (hadj [] x y L rfl) (adj_cn (s := L) rfl h3 (fun p hp => hA p (by simp [hp])) (fun l2 a2 b2 s2 e => hadj (x :: l2) a2 b2 s2 (by rw [e]; rfl)))
/-- a way out is one -/
theorem Leads.out {L : List Nat} (h : Leads m r i j L) : OutW m r i j := by
  obtain ⟨b, s, e1, h1⟩ := h.first
  obtain ⟨l, c, e2, h2⟩ := h.last
  exact ⟨b, c, h1, adj_cn e1 e2 (fun p hp => ⟨h.lt p hp, h.free p hp⟩) h.adj, h2⟩
end
end Go.Proofs.Ytkjcnkkmhkcddaa
/-
  Maps in plain words: how the reference numbers regions, and what it fills in from outside.
-/
namespace Go.Proofs.Ytkjcnkkmhkcddaa

/-! The least plot that each plot comes to. -/
/-- f has, for each plot, a plot of its region that is no greater -/
def FInv (m : Mp) (f : Nat → Nat) : Prop := ∀ a : Nat, a < m.n → f a ≤ a ∧ Sm m a (f a)
/-- nothing changes any more -/
def FFix (m : Mp) (f : Nat → Nat) : Prop := ∀ a b, a < m.n → b < m.n → nb m a b → m.own a = m.own b → ¬ f b < f a
section
variable {m : Mp} {f : Nat → Nat} {a b p q : Nat}
theorem FInv.take (h : FInv m f) (ha : a < m.n) (hb : b < m.n) (hn : nb m a b) (ho : m.own a = m.own b) (hlt : f b < f a) : FInv m (fun x => if x = a then f b else f x) := fun x hx => by
  show (if x = a then f b else f x) ≤ x ∧ Sm m x (if x = a then f b else f x)
  by_cases e : x = a
  · subst e
    rw [if_pos rfl]
    have h1 := h x ha
    have h2 := h b hb
    exact ⟨by omega, Sm.trans (Cn.step ⟨ha, rfl⟩ hn (.refl ⟨hb, ho.symm⟩)) h2.2⟩
  · rw [if_neg e]; exact h x hx
theorem FFix.eq (hm : m.Ok) (hf : FFix m f) (h : Sm m p q) : f p = f q := by
  unfold Sm at h
  have : ∀ x y, Cn m (OfO m (m.own p)) x y → f x = f y := by
    intro x y hxy
    induction hxy with
    | refl _ => rfl
    | @step x y z hx hn hyz ih =>
      have hy := Cn.left hyz
      have h1 := hf x y hx.1 hy.1 hn (by rw [hx.2, hy.2])
      have h2 := hf y x hy.1 hx.1 (nb_symm hm hx.1 hn) (by rw [hx.2, hy.2])
      omega
  exact this _ _ h
theorem FFix.first (hm : m.Ok) (hf : FFix m f) (h : FInv m f) (hp : p < m.n) : f (f p) = f p := (hf.eq hm (h p hp).2).symm
theorem FFix.same (hm : m.Ok) (hf : FFix m f) (h : FInv m f) (hp : p < m.n) (hq : q < m.n) : f p = f q ↔ Sm m p q :=
  ⟨fun e => (h p hp).2.trans (by rw [e]; exact ((h q hq).2).symm hm), hf.eq hm⟩
/-- how many of the first t plots are the least ones of their regions -/
def num (f : Nat → Nat) : Nat → Nat
  | 0 => 0
  | t + 1 => num f t + if f t = t then 1 else 0
theorem num_add {t : Nat} (h : f t = t) : num f (t + 1) = num f t + 1 := by rw [num, if_pos h]
theorem num_skip {t : Nat} (h : f t ≠ t) : num f (t + 1) = num f t := by rw [num, if_neg h]; rfl
theorem num_mono {s : Nat} : ∀ {t : Nat}, s ≤ t → num f s ≤ num f t
  | 0, h => by rw [show s = 0 by omega]; exact Nat.le_refl _
  | t + 1, h => by
    by_cases e : s = t + 1
    · rw [e]; exact Nat.le_refl _
    · have ih := num_mono (show s ≤ t by omega)
      rw [num]; omega
theorem num_lt {s t : Nat} (h : f s = s) (hs : s < t) : num f s < num f t := by
  have h1 := num_add h
  have h2 : num f (s + 1) ≤ num f t := num_mono (by omega)
  omega
theorem num_ex : ∀ {t j : Nat}, j < num f t → ∃ s, s < t ∧ f s = s ∧ num f s = j
  | 0, j, h => absurd h (Nat.not_lt_zero _)
  | t + 1, j, h => by
    by_cases e : f t = t
    · rw [num_add e] at h
      by_cases e2 : j = num f t
      · exact ⟨t, by omega, e, e2.symm⟩
      · obtain ⟨s, h1, h2⟩ := num_ex (show j < num f t by omega)
        exact ⟨s, by omega, h2⟩
    · rw [num_skip e] at h
      obtain ⟨s, h1, h2⟩ := num_ex h
      exact ⟨s, by omega, h2⟩
/-- numbered by their first plots -/
theorem num_reg (hm : m.Ok) (hf : FFix m f) (h : FInv m f) : IsReg m (fun p => num f (f p)) ∧ IsMany m (fun p => num f (f p)) (num f m.n) := by
  have inj : ∀ p q, p < m.n → q < m.n → num f (f p) = num f (f q) → f p = f q := fun p q hp hq e => by
    rcases Nat.lt_trichotomy (f p) (f q) with h1 | h1 | h1
    · have := num_lt (hf.first hm h hp) h1; omega
    · exact h1
    · have := num_lt (hf.first hm h hq) h1; omega
  refine ⟨⟨fun p q hp hq => ?_, fun p hp j hj => ?_⟩, ⟨fun p hp => ?_, fun j hj => ?_⟩⟩
  · rw [← hf.same hm h hp hq]
    exact ⟨inj p q hp hq, fun e => by show num f (f p) = num f (f q); rw [e]⟩
  · obtain ⟨s, h1, h2, h3⟩ := num_ex hj
    have := (h p hp).1
    exact ⟨s, by omega, by show num f (f s) = j; rw [h2]; exact h3⟩
  · have h1 := (h p hp).1
    exact num_lt (hf.first hm h hp) (by omega)
  · obtain ⟨s, h1, h2, h3⟩ := num_ex hj
    exact ⟨s, h1, by show num f (f s) = j; rw [h2]; exact h3⟩
end
/-! What one comes to from outside. -/
/-- the plots that are filled in from the rim, without region j -/
structure Fil (m : Mp) (r : Nat → Nat) (j : Nat) (B : Nat → Bool) : Prop where
  sound : ∀ p, p < m.n → B p = true → ∃ q, Cn m (Free m r j) p q ∧ rimB m q = true
  start : ∀ p, p < m.n → rimB m p = true → r p ≠ j → B p = true
section
variable {m : Mp} {r : Nat → Nat} {i j a b : Nat} {B : Nat → Bool}
theorem Fil.begin : Fil m r j (fun p => rimB m p && decide (r p ≠ j)) :=
  ⟨fun p hp h => by
    rw [Bool.and_eq_true, decide_eq_true_eq] at h
    exact ⟨p, .refl ⟨hp, h.2⟩, h.1⟩, fun p _ h1 h2 => by rw [Bool.and_eq_true, decide_eq_true_eq]; exact ⟨h1, h2⟩⟩
theorem Fil.add (hm : m.Ok) (h : Fil m r j B) (ha : a < m.n) (hb : b < m.n) (hB : B a = true) (hn : nb m a b) (hj : r b ≠ j) : Fil m r j (fun x => if x = b then true else B x) := by
  refine ⟨fun p hp h1 => ?_, fun p hp h1 h2 => ?_⟩
  · have h1 : (if p = b then true else B p) = true := h1
    by_cases e : p = b
    · subst e
      obtain ⟨q, h2, h3⟩ := h.sound a ha hB
      exact ⟨q, .step ⟨hb, hj⟩ (nb_symm hm ha hn) h2, h3⟩
    · rw [if_neg e] at h1; exact h.sound p hp h1
  · show (if p = b then true else B p) = true
    by_cases e : p = b
    · rw [if_pos e]
    · rw [if_neg e]; exact h.start p hp h1 h2
/-- when nothing changes any more, all is filled in -/
theorem Fil.done (hm : m.Ok) (h : Fil m r j B) (hx : ∀ a b, a < m.n → b < m.n → B a = true → nb m a b → r b ≠ j → B b = true) {p : Nat} (hp : p < m.n) : B p = true ↔ ∃ q, Cn m (Free m r j) p q ∧ rimB m q = true := by
  refine ⟨h.sound p hp, ?_⟩
  rintro ⟨q, hc, hq⟩
  have : ∀ x y, Cn m (Free m r j) x y → B y = true → B x = true := by
    intro x y hxy
    induction hxy with
    | refl _ => exact fun h => h
    | @step x y z hx1 hn hyz ih =>
      intro hz
      have hy := Cn.left hyz
      exact hx y x hy.1 hx1.1 (ih hz) (nb_symm hm hx1.1 hn) hx1.2
  exact this p q hc (h.start q (Cn.right hc).1 hq (Cn.right hc).2)
theorem Fil.out (hm : m.Ok) (h : Fil m r j B) (hx : ∀ a b, a < m.n → b < m.n → B a = true → nb m a b → r b ≠ j → B b = true) : OutW m r i j ↔ ∃ p, p < m.n ∧ r p = i ∧ B p = true := by
  constructor
  · rintro ⟨p, q, h1, h2, h3⟩
    have hp := (Cn.left h2).1
    exact ⟨p, hp, h1, (h.done hm hx hp).2 ⟨q, h2, h3⟩⟩
  · rintro ⟨p, hp, h1, h2⟩
    obtain ⟨q, h3, h4⟩ := (h.done hm hx hp).1 h2
    exact ⟨p, q, h1, h3, h4⟩
end
/-! The deepest of those that a region lies within. -/
section
variable {m : Mp} {r : Nat → Nat} {i T : Nat}
theorem In.deeper (hm : m.Ok) (hT : ∀ k, k < T → ∃ p, p < m.n ∧ r p = k) {a k : Nat} (ha : a < T) (h : In m r a k) (hk : k < T) : inCount m r k T < inCount m r a T := by
  -- what k lies within a lies within, too; and k itself
  have hkk : ¬ In m r k k := fun h => h.1 rfl
  have sub : ∀ x, In m r k x → In m r a x := fun x hx => h.trans hx fun e => by subst e; exact In.asymm hm (hT a ha) h hx
  have : ∀ t, inCount m r k t + (if k < t then 1 else 0) ≤ inCount m r a t := by
    intro t
    induction t with
    | zero => simp [inCount]
    | succ t ih =>
      by_cases e : k = t
      · subst e
        rw [inCount_add h, inCount_skip hkk, if_pos (by omega)]
        rw [if_neg (by omega)] at ih
        omega
      · by_cases h1 : In m r k t
        · rw [inCount_add h1, inCount_add (sub t h1)]
          by_cases h2 : k < t
          · rw [if_pos h2] at ih; rw [if_pos (by omega)]; omega
          · rw [if_neg h2] at ih; rw [if_neg (by omega)]; omega
        · rw [inCount_skip h1]
          have h3 : inCount m r a t ≤ inCount m r a (t + 1) := by
            by_cases h4 : In m r a t
            · rw [inCount_add h4]; omega
            · rw [inCount_skip h4]; exact Nat.le_refl _
          by_cases h2 : k < t
          · rw [if_pos h2] at ih; rw [if_pos (by omega)]; omega
          · rw [if_neg h2] at ih; rw [if_neg (by omega)]; omega
  have := this T
  rw [if_pos hk] at this
  omega
theorem IsAr.unique {x y : Int} (hm : m.Ok) (hT : ∀ k, k < T → ∃ p, p < m.n ∧ r p = k) (h : IsAr m r i T x) (h' : IsAr m r i T y) : x = y := by
  rcases h with ⟨h1, h2⟩ | ⟨a, h1, h2, h3, h4⟩
  · rcases h' with ⟨h5, -⟩ | ⟨b, -, h6, h7, -⟩
    · rw [h1, h5]
    · exact absurd h7 (h2 b h6)
  · rcases h' with ⟨-, h6⟩ | ⟨b, h5, h6, h7, h8⟩
    · exact absurd h3 (h6 a h2)
    · by_cases e : a = b
      · rw [h1, h5, e]
      · exact absurd (h8 a h2 e h3) (In.asymm hm (hT a h2) (h4 b h6 (fun e' => e e'.symm) h7))
end
end Go.Proofs.Ytkjcnkkmhkcddaa
/-
  Closed maps: their regions, and what lies within what, are reckoned.
-/
namespace Go.Proofs.Ytkjcnkkmhkcddaa

/-! Regions. -/
/-- the least number of a neighbour of one's state, and of oneself -/
def cLeast (m : Mp) (f : Nat → Nat) (a : Nat) (l : List Int) : Nat :=
  l.foldl (fun acc x => if m.own x.toNat = m.own a ∧ f x.toNat < acc then f x.toNat else acc) (f a)
def cStep (m : Mp) (L : List Nat) : List Nat := (List.range m.n).map fun a => cLeast m (fun k => L.getD k 0) a (nbrL m.wd m.n a)
def cIter (m : Mp) : Nat → List Nat
  | 0 => List.range m.n
  | k + 1 => cStep m (cIter m k)
def cFix (m : Mp) (L : List Nat) : Bool := (List.range m.n).all fun a => (nbrL m.wd m.n a).all fun x => !(decide (m.own a = m.own x.toNat) && decide (L.getD x.toNat 0 < L.getD a 0))
theorem cLeast_ok {m : Mp} (hm : m.Ok) {f : Nat → Nat} (h : FInv m f) {a : Nat} (ha : a < m.n) : ∀ (l : List Int) (acc : Nat), (∀ x ∈ l, nb m a x.toNat) → acc ≤ a → Sm m a acc →
    l.foldl (fun acc x => if m.own x.toNat = m.own a ∧ f x.toNat < acc then f x.toNat else acc) acc ≤ a ∧ Sm m a (l.foldl (fun acc x => if m.own x.toNat = m.own a ∧ f x.toNat < acc then f x.toNat else acc) acc)
  | [], acc, _, h1, h2 => ⟨h1, h2⟩
  | x :: l, acc, hl, h1, h2 => by
    rw [List.foldl_cons]
    refine cLeast_ok hm h ha l _ (fun y hy => hl y (List.mem_cons_of_mem _ hy)) ?_ ?_
    · split
      · rename_i hc; omega
      · exact h1
    · split
      · rename_i hc
        have hn := hl x List.mem_cons_self
        have hx := nb_lt hm ha hn
        exact Sm.trans (Cn.step ⟨ha, rfl⟩ hn (.refl ⟨hx, hc.1⟩)) (h _ hx).2
      · exact h2
theorem cStep_inv {m : Mp} (hm : m.Ok) {L : List Nat} (h : FInv m (fun k => L.getD k 0)) : FInv m (fun k => (cStep m L).getD k 0) := by
  intro a ha
  have e : (cStep m L).getD a 0 = cLeast m (fun k => L.getD k 0) a (nbrL m.wd m.n a) := by
    simp [cStep, List.getD_eq_getElem?_getD, List.getElem?_range ha]
  show (cStep m L).getD a 0 ≤ a ∧ Sm m a ((cStep m L).getD a 0)
  rw [e]
  refine cLeast_ok hm h ha _ _ (fun x hx => ?_) (h a ha).1 (h a ha).2
  obtain ⟨k, rfl, -⟩ := mem_nbrL hm.w0 hm.dv ha hx
  exact hx
theorem cIter_inv {m : Mp} (hm : m.Ok) : ∀ k, FInv m (fun p => (cIter m k).getD p 0)
  | 0 => fun a ha => by
    have e : (cIter m 0).getD a 0 = a := by simp [cIter, List.getD_eq_getElem?_getD, List.getElem?_range ha]
    show (cIter m 0).getD a 0 ≤ a ∧ Sm m a ((cIter m 0).getD a 0)
    rw [e]; exact ⟨Nat.le_refl _, Sm.refl ha⟩
  | k + 1 => cStep_inv hm (cIter_inv hm k)
theorem cFix_ok {m : Mp} {L : List Nat} (h : cFix m L = true) : FFix m (fun p => L.getD p 0) := by
  intro a b ha hb hn ho hlt
  have h1 := List.all_eq_true.1 h a (List.mem_range.2 ha)
  have h2 := List.all_eq_true.1 h1 (b : Int) hn
  simp only [Int.toNat_natCast, Bool.not_eq_true', Bool.and_eq_false_iff, decide_eq_false_iff_not] at h2
  rcases h2 with h2 | h2
  · exact h2 ho
  · exact h2 hlt
/-- rl are the numbers of the regions, T of them -/
def cReg (m : Mp) (k : Nat) (rl : List Nat) (T : Nat) : Bool :=
  cFix m (cIter m k) && ((List.range m.n).all fun p => decide (num (fun p => (cIter m k).getD p 0) ((cIter m k).getD p 0) = rl.getD p 0)) && decide (num (fun p => (cIter m k).getD p 0) m.n = T)
theorem IsReg.congr {m : Mp} {r r' : Nat → Nat} (h : IsReg m r) (e : ∀ p, p < m.n → r p = r' p) : IsReg m r' :=
  ⟨fun p q hp hq => by rw [← e p hp, ← e q hq]; exact h.same p q hp hq, fun p hp j hj => by
    rw [← e p hp] at hj
    obtain ⟨q, h1, h2⟩ := h.grow p hp j hj
    exact ⟨q, h1, by rw [← e q (by omega)]; exact h2⟩⟩
theorem IsMany.congr {m : Mp} {r r' : Nat → Nat} {T : Nat} (h : IsMany m r T) (e : ∀ p, p < m.n → r p = r' p) : IsMany m r' T :=
  ⟨fun p hp => by rw [← e p hp]; exact h.lt p hp, fun j hj => by obtain ⟨p, h1, h2⟩ := h.ex j hj; exact ⟨p, h1, by rw [← e p h1]; exact h2⟩⟩
theorem IsMany.unique {m : Mp} {r : Nat → Nat} {T T' : Nat} (h : IsMany m r T) (h' : IsMany m r T') : T = T' := by
  have : ∀ {a b : Nat}, IsMany m r a → IsMany m r b → ¬ a < b := fun {a b} ha hb hlt => by
    obtain ⟨p, h1, h2⟩ := hb.ex a hlt
    have := ha.lt p h1
    omega
  have h1 := this h h'
  have h2 := this h' h
  omega
theorem cReg_ok {m : Mp} (hm : m.Ok) {k T : Nat} {rl : List Nat} (h : cReg m k rl T = true) : IsReg m (fun p => rl.getD p 0) ∧ IsMany m (fun p => rl.getD p 0) T := by
  rw [cReg, Bool.and_eq_true, Bool.and_eq_true, decide_eq_true_eq, List.all_eq_true] at h
  obtain ⟨⟨h1, h2⟩, h3⟩ := h
  obtain ⟨g1, g2⟩ := num_reg hm (cFix_ok h1) (cIter_inv hm k)
  have e : ∀ p, p < m.n → num (fun p => (cIter m k).getD p 0) ((cIter m k).getD p 0) = rl.getD p 0 := fun p hp => by
    have := h2 p (List.mem_range.2 hp)
    simpa using this
  rw [h3] at g2
  exact ⟨g1.congr e, g2.congr e⟩
/-! What lies within what. -/
theorem Free.congr {m : Mp} {r r' : Nat → Nat} (e : ∀ p, p < m.n → r p = r' p) {j p : Nat} (h : Free m r j p) : Free m r' j p := ⟨h.1, by rw [← e p h.1]; exact h.2⟩
theorem OutW.congr {m : Mp} {r r' : Nat → Nat} (e : ∀ p, p < m.n → r p = r' p) {i j : Nat} (h : OutW m r i j) : OutW m r' i j := by
  obtain ⟨p, q, h1, h2, h3⟩ := h
  exact ⟨p, q, by rw [← e p (Cn.left h2).1]; exact h1, h2.mono (fun _ hk => hk.congr e), h3⟩
theorem In.congr {m : Mp} {r r' : Nat → Nat} (e : ∀ p, p < m.n → r p = r' p) {i j : Nat} : In m r i j ↔ In m r' i j :=
  ⟨fun h => ⟨h.1, fun h' => h.2 (h'.congr fun p hp => (e p hp).symm)⟩, fun h => ⟨h.1, fun h' => h.2 (h'.congr e)⟩⟩
def cFrS (m : Mp) (r : Nat → Nat) (j : Nat) (L : List Bool) : List Bool :=
  (List.range m.n).map fun p => L.getD p false || (!decide (r p = j) && (nbrL m.wd m.n p).any fun x => L.getD x.toNat false)
def cFree (m : Mp) (r : Nat → Nat) (j : Nat) : Nat → List Bool
  | 0 => (List.range m.n).map fun p => rimB m p && decide (r p ≠ j)
  | k + 1 => cFrS m r j (cFree m r j k)
theorem cFree_fil {m : Mp} (hm : m.Ok) (r : Nat → Nat) (j : Nat) : ∀ k, Fil m r j (fun p => (cFree m r j k).getD p false)
  | 0 => by
    have h := Fil.begin (m := m) (r := r) (j := j)
    have e : ∀ p, p < m.n → (cFree m r j 0).getD p false = (rimB m p && decide (r p ≠ j)) := fun p hp => by simp [cFree, List.getD_eq_getElem?_getD, List.getElem?_range hp]
    exact ⟨fun p hp hB => h.sound p hp (by rw [← e p hp]; exact hB), fun p hp h1 h2 => by show (cFree m r j 0).getD p false = true; rw [e p hp]; exact h.start p hp h1 h2⟩
  | k + 1 => by
    have h := cFree_fil hm r j k
    have e : ∀ p, p < m.n → (cFree m r j (k + 1)).getD p false = ((cFree m r j k).getD p false || (!decide (r p = j) && (nbrL m.wd m.n p).any fun x => (cFree m r j k).getD x.toNat false)) := fun p hp => by
      simp only [cFree, cFrS, List.getD_eq_getElem?_getD, List.getElem?_map, List.getElem?_range hp, Option.map_some, Option.getD_some]
    refine ⟨fun p hp hB => ?_, fun p hp h1 h2 => ?_⟩
    · have hB : (cFree m r j (k + 1)).getD p false = true := hB
      rw [e p hp, Bool.or_eq_true, Bool.and_eq_true, List.any_eq_true] at hB
      rcases hB with hB | ⟨h1, x, hx, h2⟩
      · exact h.sound p hp hB
      · obtain ⟨q, rfl, hq⟩ := mem_nbrL hm.w0 hm.dv hp hx
        obtain ⟨z, h3, h4⟩ := h.sound q hq h2
        exact ⟨z, .step ⟨hp, by simpa using h1⟩ hx h3, h4⟩
    · show (cFree m r j (k + 1)).getD p false = true
      rw [e p hp, Bool.or_eq_true]; exact .inl (h.start p hp h1 h2)
def cShut (m : Mp) (r : Nat → Nat) (j : Nat) (L : List Bool) : Bool := (List.range m.n).all fun a => !L.getD a false || (nbrL m.wd m.n a).all fun x => decide (r x.toNat = j) || L.getD x.toNat false
/-- whether i lies within j, by the plots L that one comes to from outside without j -/
def cIn (m : Mp) (r : Nat → Nat) (i j : Nat) (L : List Bool) : Bool := !decide (i = j) && (List.range m.n).all fun p => !(decide (r p = i) && L.getD p false)
theorem cIn_ok {m : Mp} (hm : m.Ok) {r : Nat → Nat} {i j k : Nat} (h : cShut m r j (cFree m r j k) = true) : In m r i j ↔ cIn m r i j (cFree m r j k) = true := by
  have hx : ∀ a b, a < m.n → b < m.n → (cFree m r j k).getD a false = true → nb m a b → r b ≠ j → (cFree m r j k).getD b false = true := by
    intro a b ha hb hB hn hj
    have h1 := List.all_eq_true.1 h a (List.mem_range.2 ha)
    rw [hB, Bool.not_true, Bool.false_or] at h1
    have h2 := List.all_eq_true.1 h1 (b : Int) hn
    simp only [Int.toNat_natCast, Bool.or_eq_true, decide_eq_true_eq] at h2
    exact h2.resolve_left hj
  have ho := (cFree_fil hm r j k).out (i := i) hm hx
  rw [cIn, Bool.and_eq_true, List.all_eq_true]
  constructor
  · rintro ⟨h1, h2⟩
    refine ⟨by simpa using h1, fun p hp => ?_⟩
    have hp := List.mem_range.1 hp
    rw [Bool.not_eq_true', Bool.and_eq_false_iff, decide_eq_false_iff_not]
    by_cases e : r p = i
    · right
      cases hB : (cFree m r j k).getD p false with
      | false => rfl
      | true => exact absurd (ho.2 ⟨p, hp, e, hB⟩) h2
    · exact .inl e
  · rintro ⟨h1, h2⟩
    refine ⟨by simpa using h1, fun h3 => ?_⟩
    obtain ⟨p, hp, e, hB⟩ := ho.1 h3
    have h4 := h2 p (List.mem_range.2 hp)
    rw [hB, e] at h4
    simp at h4
/-- the table of what lies within what is tab -/
def cTab (m : Mp) (rl : List Nat) (T k : Nat) (tab : List (List Bool)) : Bool :=
  (List.range T).all fun j => cShut m (fun p => rl.getD p 0) j (cFree m (fun p => rl.getD p 0) j k) && (List.range T).all fun i => decide (cIn m (fun p => rl.getD p 0) i j (cFree m (fun p => rl.getD p 0) j k) = (tab.getD i []).getD j false)
theorem cTab_ok {m : Mp} (hm : m.Ok) {rl : List Nat} {T k : Nat} {tab : List (List Bool)} (h : cTab m rl T k tab = true) {i j : Nat} (hi : i < T) (hj : j < T) : In m (fun p => rl.getD p 0) i j ↔ (tab.getD i []).getD j false = true := by
  have h1 := List.all_eq_true.1 h j (List.mem_range.2 hj)
  rw [Bool.and_eq_true] at h1
  rw [cIn_ok hm h1.1]
  have h2 := List.all_eq_true.1 h1.2 i (List.mem_range.2 hi)
  rw [decide_eq_true_eq] at h2
  rw [h2]
def cCnt (row : List Bool) : Nat → Nat
  | 0 => 0
  | t + 1 => cCnt row t + if row.getD t false = true then 1 else 0
theorem cCnt_ok {m : Mp} {r : Nat → Nat} {i T : Nat} {row : List Bool} (h : ∀ j, j < T → (In m r i j ↔ row.getD j false = true)) : ∀ t, t ≤ T → inCount m r i t = cCnt row t
  | 0, _ => rfl
  | t + 1, ht => by
    rw [cCnt, ← cCnt_ok h t (by omega)]
    by_cases e : row.getD t false = true
    · rw [inCount_add ((h t (by omega)).2 e), if_pos e]
    · rw [inCount_skip (fun h' => e ((h t (by omega)).1 h')), if_neg e]; rfl
/-- x is the nearest one of row i -/
def cAr (tab : List (List Bool)) (i T : Nat) (x : Int) : Bool :=
  if x = -1 then (List.range T).all fun k => !(tab.getD i []).getD k false
  else decide (0 ≤ x ∧ x.toNat < T) && (tab.getD i []).getD x.toNat false && (List.range T).all fun k => decide (k = x.toNat) || !(tab.getD i []).getD k false || (tab.getD x.toNat []).getD k false
theorem cAr_ok {m : Mp} {r : Nat → Nat} {i T : Nat} {tab : List (List Bool)} {x : Int} (hi : i < T) (h : ∀ i j, i < T → j < T → (In m r i j ↔ (tab.getD i []).getD j false = true)) (hc : cAr tab i T x = true) : IsAr m r i T x := by
  unfold cAr at hc
  by_cases e : x = -1
  · rw [if_pos e, List.all_eq_true] at hc
    refine .inl ⟨e, fun k hk h' => ?_⟩
    have := hc k (List.mem_range.2 hk)
    rw [(h i k hi hk).1 h'] at this
    cases this
  · rw [if_neg e, Bool.and_eq_true, Bool.and_eq_true, decide_eq_true_eq, List.all_eq_true] at hc
    obtain ⟨⟨⟨h1, h2⟩, h3⟩, h4⟩ := hc
    refine .inr ⟨x.toNat, by omega, h2, (h i _ hi h2).2 h3, fun k hk hka hik => ?_⟩
    have h5 := h4 k (List.mem_range.2 hk)
    rw [(h i k hi hk).1 hik, Bool.or_eq_true, Bool.or_eq_true, decide_eq_true_eq] at h5
    rcases h5 with (h5 | h5) | h5
    · exact absurd h5 hka
    · cases h5
    · exact (h _ k h2 hk).2 h5
/-- what is reckoned holds for the numbers that a function gives -/
theorem closed_map {m : Mp} (hm : m.Ok) {rl : List Nat} {T k0 : Nat} {tab : List (List Bool)} (hreg : cReg m k0 rl T = true) (htab : cTab m rl T k0 tab = true) {r : Nat → Nat} {k : Nat} (hr : IsReg m r) (hk : IsMany m r k) :
    k = T ∧ (∀ p, p < m.n → r p = rl.getD p 0) ∧ (∀ i j, i < T → j < T → (In m r i j ↔ (tab.getD i []).getD j false = true)) ∧ (∀ i, i < T → inCount m r i T = cCnt (tab.getD i []) T) ∧ ∀ i x y, i < T → cAr tab i T x = true → IsAr m r i T y → y = x := by
  obtain ⟨g1, g2⟩ := cReg_ok hm hreg
  have e := hr.unique g1
  have hk' := hk.congr e
  have hT : k = T := hk'.unique g2
  have hin : ∀ i j, i < T → j < T → (In m r i j ↔ (tab.getD i []).getD j false = true) := fun i j hi hj => (In.congr e).trans (cTab_ok hm htab hi hj)
  refine ⟨hT, e, hin, fun i hi => cCnt_ok (fun j hj => hin i j hi hj) T (Nat.le_refl _), fun i x y hi hc hy => ?_⟩
  exact hy.unique hm (by rw [← hT]; exact hk.ex) (cAr_ok hi hin hc)
end Go.Proofs.Ytkjcnkkmhkcddaa
/-
  Maps in plain words: a deed of an outermost enclave leaves as it is who has what in the end.
-/
namespace Go.Proofs.Ytkjcnkkmhkcddaa

/-- a region that lies within none -/
def Outer (m : Mp) (r : Nat → Nat) (t : Nat) : Prop := ∀ k, ¬ In m r t k
section
variable {m m' : Mp} {r r' : Nat → Nat}
/-- m' is m behind the deed of region i, which lies within the outermost region x alone, and beside it -/
structure Deed (m m' : Mp) (r r' : Nat → Nat) (i x : Nat) : Prop where
  ok : m.Ok
  ok' : m'.Ok
  wd : m'.wd = m.wd
  n : m'.n = m.n
  reg : IsReg m r
  reg' : IsReg m' r'
  inx : In m r i x
  only : ∀ k, In m r i k → k = x
  out : Outer m r x
  side : ∃ p q, p < m.n ∧ q < m.n ∧ r p = i ∧ r q = x ∧ nb m p q
  own : ∀ p, p < m.n → r p ≠ i → m'.own p = m.own p
  give : ∀ p q, p < m.n → q < m.n → r p = i → r q = x → m'.own p = m.own q
section
variable {i x : Nat} {p q : Nat}
theorem Deed.nbs (D : Deed m m' r r' i x) : nb m' p q ↔ nb m p q := by unfold nb; rw [D.wd, D.n]
theorem Deed.rim (D : Deed m m' r r' i x) : rimB m' p = rimB m p := by unfold rimB; rw [D.wd, D.n]
end
end
end Go.Proofs.Ytkjcnkkmhkcddaa
/-
  Maps in plain words: the first region of depth 1 lies beside the one around it.
-/
namespace Go.Proofs.Ytkjcnkkmhkcddaa

section
variable {m : Mp} {r : Nat → Nat} {i k T : Nat}
/-- what lies around is a region -/
theorem In.lt (hm : m.Ok) (hT : IsMany m r T) (hi : ∃ p, p < m.n ∧ r p = i) (h : In m r i k) : k < T := by
  apply Classical.byContradiction
  intro hk
  obtain ⟨p, hp, hpi⟩ := hi
  obtain ⟨q, hc, hq⟩ := to_rim hm _ p hp rfl
  exact h.2 ⟨p, q, hpi, hc.mono fun y hy => ⟨hy, fun e => hk (by rw [← e]; exact hT.lt y hy)⟩, hq⟩
end
end Go.Proofs.Ytkjcnkkmhkcddaa
/-
  Maps in plain words: plots of the rim as the reference finds them, and the outermost region around one.
-/
namespace Go.Proofs.Ytkjcnkkmhkcddaa

section
variable {m : Mp} {r : Nat → Nat} {i x T : Nat}
/-- outwards: what lies around what lies around -/
theorem IsAr.outwards (hm : m.Ok) (hT : ∀ k, k < T → ∃ p, p < m.n ∧ r p = k) (hi : i < T) (hx : x < T) (h : In m r i x) {y : Nat} (hy : IsAr m r x T (y : Int)) : In m r i y ∧ y < T ∧ inCount m r y T < inCount m r x T := by
  rcases hy with ⟨h1, -⟩ | ⟨a, h1, h2, h3, h4⟩
  · omega
  · obtain rfl : a = y := by omega
    refine ⟨h.trans h3 fun e => by subst e; exact In.asymm hm (hT i hi) h h3, h2, In.deeper hm hT hx h3 h2⟩
theorem IsAr.outer (hm : m.Ok) (hT : IsMany m r T) (hx : x < T) (h : IsAr m r x T (-1)) : Outer m r x := by
  rcases h with ⟨-, h2⟩ | ⟨a, h1, -⟩
  · exact fun k hk => h2 k (hk.lt hm hT (hT.ex x hx)) hk
  · omega
end
end Go.Proofs.Ytkjcnkkmhkcddaa
/-
  Maps in plain words: a map that is looked at otherwise has the same regions, with the same depths.
-/
namespace Go.Proofs.Ytkjcnkkmhkcddaa

theorem nodup_length : ∀ {l l' : List Nat}, l.Nodup → (∀ x ∈ l, x ∈ l') → l.length ≤ l'.length
  | [], _, _, _ => Nat.zero_le _
  | a :: l, l', h, hs => by
    have hn := List.nodup_cons.1 h
    have ha := hs a List.mem_cons_self
    have h1 := nodup_length (l := l) (l' := l'.erase a) hn.2 (fun x hx => by
      have hxa : x ≠ a := fun e => hn.1 (e ▸ hx)
      exact (List.mem_erase_of_ne hxa).2 (hs x (List.mem_cons_of_mem _ hx)))
    have h2 := List.length_erase_of_mem ha
    have h3 := List.length_pos_of_mem ha
    rw [List.length_cons]; omega
section
open Classical
variable {m m' : Mp} {r r' : Nat → Nat} {i i' : Nat}
noncomputable def inList (m : Mp) (r : Nat → Nat) (i T : Nat) : List Nat := (List.range T).filter fun k => decide (In m r i k)
theorem mem_inList {T k : Nat} : k ∈ inList m r i T ↔ k < T ∧ In m r i k := by
  unfold inList; rw [List.mem_filter, List.mem_range, decide_eq_true_eq]
theorem inList_length : ∀ T, (inList m r i T).length = inCount m r i T
  | 0 => rfl
  | T + 1 => by
    have ih : (inList m r i T).length = inCount m r i T := inList_length T
    have e : inList m r i (T + 1) = inList m r i T ++ (if In m r i T then [T] else []) := by
      unfold inList
      rw [List.range_succ, List.filter_append]
      by_cases h : In m r i T <;> simp [h]
    rw [e, List.length_append, ih]
    by_cases h : In m r i T
    · rw [if_pos h, inCount_add h]; rfl
    · rw [if_neg h, inCount_skip h]; rfl
theorem inCount_inj {T T' : Nat} (f : Nat → Nat) (hf : ∀ k, k < T → In m r i k → f k < T' ∧ In m' r' i' (f k)) (hi : ∀ k l, k < T → l < T → In m r i k → In m r i l → f k = f l → k = l) : inCount m r i T ≤ inCount m' r' i' T' := by
  rw [← inList_length, ← inList_length, ← List.length_map (f := f)]
  refine nodup_length ?_ fun x hx => ?_
  · have hn : (inList m r i T).Nodup := List.Pairwise.filter _ List.nodup_range
    refine List.pairwise_map.2 (List.Pairwise.imp_of_mem (fun {a b} ha hb hab e => hab ?_) hn)
    have ha := mem_inList.1 ha
    have hb := mem_inList.1 hb
    exact hi a b ha.1 hb.1 ha.2 hb.2 e
  · obtain ⟨k, hk, rfl⟩ := List.mem_map.1 hx
    have hk := mem_inList.1 hk
    exact mem_inList.2 (hf k hk.1 hk.2)
end
/-- m' is m looked at otherwise: plot p lies at s p -/
structure Iso (m m' : Mp) (s t : Nat → Nat) : Prop where
  n : m'.n = m.n
  to : ∀ p, p < m.n → s p < m.n
  fro : ∀ p, p < m.n → t p < m.n
  ts : ∀ p, p < m.n → t (s p) = p
  st : ∀ p, p < m.n → s (t p) = p
  nbs : ∀ p q, p < m.n → q < m.n → nb m p q → nb m' (s p) (s q)
  nbt : ∀ p q, p < m.n → q < m.n → nb m' p q → nb m (t p) (t q)
  rim : ∀ p, p < m.n → rimB m' (s p) = rimB m p
  own : ∀ p q, p < m.n → q < m.n → (m.own p = m.own q ↔ m'.own (s p) = m'.own (s q))
section
variable {m m' : Mp} {s t r r' : Nat → Nat} {p q : Nat}
theorem Iso.symm (I : Iso m m' s t) : Iso m' m t s :=
  ⟨I.n.symm, fun p hp => by rw [I.n] at hp ⊢; exact I.fro p hp, fun p hp => by rw [I.n] at hp ⊢; exact I.to p hp, fun p hp => I.st p (by rw [← I.n]; exact hp), fun p hp => I.ts p (by rw [← I.n]; exact hp),
   fun p q hp hq => I.nbt p q (by rw [← I.n]; exact hp) (by rw [← I.n]; exact hq), fun p q hp hq => I.nbs p q (by rw [← I.n]; exact hp) (by rw [← I.n]; exact hq),
   fun p hp => by rw [I.n] at hp; rw [← I.rim (t p) (I.fro p hp), I.st p hp],
   fun p q hp hq => by rw [I.n] at hp hq; rw [I.own (t p) (t q) (I.fro p hp) (I.fro q hq), I.st p hp, I.st q hq]⟩
theorem Iso.cn (I : Iso m m' s t) {A B : Nat → Prop} (hA : ∀ k, A k → k < m.n) (hB : ∀ k, A k → B (s k)) {a b : Nat} (h : Cn m A a b) : Cn m' B (s a) (s b) := by
  induction h with
  | refl h => exact .refl (hB _ h)
  | step ha hn hbc ih => exact .step (hB _ ha) (I.nbs _ _ (hA _ ha) (hA _ (Cn.left hbc)) hn) ih
theorem Iso.sm (I : Iso m m' s t) (h : Sm m p q) : Sm m' (s p) (s q) := by
  have hp := h.lt.1
  exact I.cn (fun _ h => h.1) (fun k hk => ⟨by rw [I.n]; exact I.to k hk.1, ((I.own k p hk.1 hp).1 hk.2)⟩) h
theorem Iso.reg (I : Iso m m' s t) (hr : IsReg m r) (hr' : IsReg m' r') (hp : p < m.n) (hq : q < m.n) : r p = r q ↔ r' (s p) = r' (s q) := by
  have hsp := I.to p hp
  have hsq := I.to q hq
  rw [hr.same p q hp hq, hr'.same (s p) (s q) (by rw [I.n]; exact hsp) (by rw [I.n]; exact hsq)]
  refine ⟨I.sm, fun h => ?_⟩
  have := I.symm.sm h
  rwa [I.ts p hp, I.ts q hq] at this
theorem Iso.out (I : Iso m m' s t) (hr : IsReg m r) (hr' : IsReg m' r') (hp : p < m.n) (hq : q < m.n) (h : OutW m r (r p) (r q)) : OutW m' r' (r' (s p)) (r' (s q)) := by
  obtain ⟨a, b, ha, hab, hb⟩ := h
  have han := (Cn.left hab).1
  have hbn := (Cn.right hab).1
  exact ⟨s a, s b, (I.reg hr hr' han hp).1 ha, I.cn (fun _ h => h.1) (fun k hk => ⟨by rw [I.n]; exact I.to k hk.1, fun e => hk.2 ((I.reg hr hr' hk.1 hq).2 e)⟩) hab, by rw [I.rim b hbn]; exact hb⟩
theorem Iso.inn (I : Iso m m' s t) (hr : IsReg m r) (hr' : IsReg m' r') (hp : p < m.n) (hq : q < m.n) : In m r (r p) (r q) ↔ In m' r' (r' (s p)) (r' (s q)) := by
  constructor
  · rintro ⟨h1, h2⟩
    refine ⟨fun e => h1 ((I.reg hr hr' hp hq).2 e), fun h => h2 ?_⟩
    have := I.symm.out hr' hr (by rw [I.n]; exact I.to p hp) (by rw [I.n]; exact I.to q hq) h
    rwa [I.ts p hp, I.ts q hq] at this
  · rintro ⟨h1, h2⟩
    exact ⟨fun e => h1 ((I.reg hr hr' hp hq).1 e), fun h => h2 (I.out hr hr' hp hq h)⟩
theorem Iso.depth_le (I : Iso m m' s t) (hr : IsReg m r) (hr' : IsReg m' r') {T T' : Nat} (hT : IsMany m r T) (hT' : IsMany m' r' T') (hp : p < m.n) : inCount m r (r p) T ≤ inCount m' r' (r' (s p)) T' := by
  -- a plot of each region
  have ex : ∀ k, ∃ q, k < T → q < m.n ∧ r q = k := fun k => by
    by_cases hk : k < T
    · obtain ⟨q, h1, h2⟩ := hT.ex k hk; exact ⟨q, fun _ => ⟨h1, h2⟩⟩
    · exact ⟨0, fun h => absurd h hk⟩
  obtain ⟨f, hf⟩ := Classical.axiomOfChoice ex
  refine inCount_inj (fun k => r' (s (f k))) (fun k hk hin => ?_) fun k l hk hl _ _ e => ?_
  · obtain ⟨h1, h2⟩ := hf k hk
    refine ⟨hT'.lt _ (by rw [I.n]; exact I.to _ h1), ?_⟩
    rw [← I.inn hr hr' hp h1, h2]; exact hin
  · obtain ⟨h1, h2⟩ := hf k hk
    obtain ⟨h3, h4⟩ := hf l hl
    rw [← h2, ← h4]; exact (I.reg hr hr' h1 h3).2 e
/-- depths are the same -/
theorem Iso.depth (I : Iso m m' s t) (hr : IsReg m r) (hr' : IsReg m' r') {T T' : Nat} (hT : IsMany m r T) (hT' : IsMany m' r' T') (hp : p < m.n) : inCount m r (r p) T = inCount m' r' (r' (s p)) T' := by
  have h1 := I.depth_le hr hr' hT hT' hp
  have h2 := I.symm.depth_le hr' hr hT' hT (p := s p) (by rw [I.n]; exact I.to p hp)
  rw [I.ts p hp] at h2
  omega
/-- there are as many regions -/
theorem Iso.many (I : Iso m m' s t) (hr : IsReg m r) (hr' : IsReg m' r') {T T' : Nat} (hT : IsMany m r T) (hT' : IsMany m' r' T') : T ≤ T' := by
  have ex : ∀ k, ∃ q, k < T → q < m.n ∧ r q = k := fun k => by
    by_cases hk : k < T
    · obtain ⟨q, h1, h2⟩ := hT.ex k hk; exact ⟨q, fun _ => ⟨h1, h2⟩⟩
    · exact ⟨0, fun h => absurd h hk⟩
  obtain ⟨f, hf⟩ := Classical.axiomOfChoice ex
  have h := nodup_length (l := (List.range T).map fun k => r' (s (f k))) (l' := List.range T') ?_ ?_
  · simpa using h
  · refine List.pairwise_map.2 (List.Pairwise.imp_of_mem (fun {a b} ha hb hab e => hab ?_) List.nodup_range)
    obtain ⟨h1, h2⟩ := hf a (List.mem_range.1 ha)
    obtain ⟨h3, h4⟩ := hf b (List.mem_range.1 hb)
    rw [← h2, ← h4]; exact (I.reg hr hr' h1 h3).2 e
  · intro x hx
    obtain ⟨k, hk, rfl⟩ := List.mem_map.1 hx
    obtain ⟨h1, -⟩ := hf k (List.mem_range.1 hk)
    exact List.mem_range.2 (hT'.lt _ (by rw [I.n]; exact I.to _ h1))
end
end Go.Proofs.Ytkjcnkkmhkcddaa
/-
  Maps in plain words: columns and rows; from right to left, and rows that are columns.
-/
namespace Go.Proofs.Ytkjcnkkmhkcddaa

section
variable {m m' : Mp} {a b : Nat}
def Mp.high (m : Mp) : Nat := m.n / m.wd
theorem Mp.Ok.wh {m : Mp} (h : m.Ok) : m.n = m.high * m.wd := (Nat.div_mul_cancel (Nat.dvd_of_mod_eq_zero h.dv)).symm
theorem Mp.Ok.row {m : Mp} (h : m.Ok) {p : Nat} (hp : p < m.n) : p / m.wd < m.high := by
  rw [Nat.div_lt_iff_lt_mul h.w0, ← h.wh]; exact hp
theorem Mp.Ok.cell {m : Mp} (h : m.Ok) {x y : Nat} (hx : x < m.wd) (hy : y < m.high) : y * m.wd + x < m.n := by
  rw [h.wh]
  have : (y + 1) * m.wd ≤ m.high * m.wd := Nat.mul_le_mul_right _ hy
  rw [Nat.add_mul] at this
  omega
/-- rows that are columns -/
def place (wd hi p : Nat) : Nat := p % wd * hi + p / wd
end
end Go.Proofs.Ytkjcnkkmhkcddaa
/-
  Lands in plain words: what goes over sides, and what a division cuts.
-/
namespace Go.Proofs.Ytkjcnkkmhkcddaa

/-- the sum of f over the first n numbers -/
def sm (n : Nat) (f : Nat → Int) : Int := match n with
  | 0 => 0
  | n + 1 => sm n f + f n
section
variable {f g : Nat → Int}
theorem sm_congr : ∀ n, (∀ a, a < n → f a = g a) → sm n f = sm n g
  | 0, _ => rfl
  | n + 1, h => by rw [sm, sm, sm_congr n (fun a ha => h a (by omega)), h n (by omega)]
theorem sm_le : ∀ n, (∀ a, a < n → f a ≤ g a) → sm n f ≤ sm n g
  | 0, _ => Int.le_refl _
  | n + 1, h => by rw [sm, sm]; have h1 := sm_le n (fun a ha => h a (by omega)); have h2 := h n (by omega); omega
theorem sm_zero : ∀ n, sm n (fun _ => 0) = 0
  | 0 => rfl
  | n + 1 => by rw [sm, sm_zero n]; rfl
theorem sm_add (f g : Nat → Int) : ∀ n, sm n (fun a => f a + g a) = sm n f + sm n g
  | 0 => rfl
  | n + 1 => by rw [sm, sm, sm, sm_add f g n]; omega
theorem sm_neg (f : Nat → Int) : ∀ n, sm n (fun a => - f a) = - sm n f
  | 0 => rfl
  | n + 1 => by rw [sm, sm, sm_neg f n]; omega
theorem sm_mul (c : Int) (f : Nat → Int) : ∀ n, sm n (fun a => c * f a) = c * sm n f
  | 0 => by simp [sm]
  | n + 1 => by rw [sm, sm, sm_mul c f n, Int.mul_add]
theorem sm_swap (f : Nat → Nat → Int) (m : Nat) : ∀ n, sm n (fun a => sm m (f a)) = sm m fun b => sm n fun a => f a b
  | 0 => (sm_zero m).symm
  | n + 1 => by
    rw [sm, sm_swap f m n, ← sm_add]
    exact sm_congr m fun b _ => rfl
theorem sm_one (b : Nat) (c : Int) : ∀ n, sm n (fun x => if x = b then c else 0) = if b < n then c else 0
  | 0 => rfl
  | n + 1 => by
    rw [sm, sm_one b c n]
    by_cases h : n = b
    · subst h; rw [if_neg (by omega), if_pos rfl, if_pos (by omega)]; omega
    · rw [if_neg h]
      by_cases h2 : b < n
      · rw [if_pos h2, if_pos (by omega)]; omega
      · rw [if_neg h2, if_neg (by omega)]; rfl
end
/-- what goes from plot to plot: no more than h, the same back with the other sign, and at plots of nobody nothing is lost -/
structure Flow (n : Nat) (own : Nat → Int) (h g : Nat → Nat → Int) : Prop where
  anti : ∀ a b, g a b = - g b a
  cap : ∀ a b, a < n → b < n → g a b ≤ h a b
  cons : ∀ a, a < n → own a = -1 → sm n (g a) = 0
/-- how much goes out of state 0 -/
def value (n : Nat) (own : Nat → Int) (g : Nat → Nat → Int) : Int := sm n fun a => if own a = 0 then sm n (g a) else 0
/-- what a division cuts; the plots of D are of state 1 -/
def cutOf (n : Nat) (h : Nat → Nat → Int) (D : Nat → Bool) : Int := sm n fun a => sm n fun b => if D a = false ∧ D b = true then h a b else 0
/-- a division keeps what the states have -/
def Keeps (n : Nat) (own : Nat → Int) (D : Nat → Bool) : Prop := ∀ a, a < n → (own a = -1 ∨ (own a = 0 ∧ D a = false) ∨ (own a = 1 ∧ D a = true))
section
variable {n : Nat} {own : Nat → Int} {h g : Nat → Nat → Int} {D : Nat → Bool}
/-- within a set of plots all cancels out -/
theorem Flow.inner (F : Flow n own h g) (S : Nat → Bool) : (sm n fun a => sm n fun b => if S a = true ∧ S b = true then g a b else 0) = 0 := by
  have h1 : (sm n fun a => sm n fun b => if S a = true ∧ S b = true then g a b else 0) = - sm n fun a => sm n fun b => if S a = true ∧ S b = true then g a b else 0 := by
    rw [← sm_neg]
    rw [sm_swap (fun a b => if S a = true ∧ S b = true then g a b else 0) n n]
    refine sm_congr n fun b _ => ?_
    rw [← sm_neg]
    refine sm_congr n fun a _ => ?_
    by_cases hs : S a = true ∧ S b = true
    · rw [if_pos hs, if_pos ⟨hs.2, hs.1⟩]; exact F.anti a b
    · rw [if_neg hs, if_neg (fun h => hs ⟨h.2, h.1⟩)]; rfl
  omega
/-- the value is what goes over the border of a division -/
theorem Flow.border (F : Flow n own h g) (K : Keeps n own D) : value n own g = sm n fun a => sm n fun b => if D a = false ∧ D b = true then g a b else 0 := by
  have h1 : value n own g = sm n fun a => if D a = false then sm n (g a) else 0 := by
    refine sm_congr n fun a ha => ?_
    rcases K a ha with h | ⟨h, hd⟩ | ⟨h, hd⟩
    · rw [if_neg (by omega)]
      split
      · exact (F.cons a ha h).symm
      · rfl
    · rw [if_pos h, if_pos hd]
    · rw [if_neg (by omega), if_neg (by rw [hd]; decide)]
  have h2 := F.inner (fun a => !D a)
  rw [h1]
  have h3 : (sm n fun a => if D a = false then sm n (g a) else 0) = (sm n fun a => sm n fun b => if D a = false ∧ D b = true then g a b else 0) + sm n fun a => sm n fun b => if (!D a) = true ∧ (!D b) = true then g a b else 0 := by
    rw [← sm_add]
    refine sm_congr n fun a _ => ?_
    rw [← sm_add]
    by_cases hd : D a = false
    · rw [if_pos hd]
      refine sm_congr n fun b _ => ?_
      cases hb : D b <;> simp [hd]
    · simp [hd, sm_zero]
  rw [h3, h2]; omega
/-- no division cuts less than goes -/
theorem Flow.le (F : Flow n own h g) (K : Keeps n own D) : value n own g ≤ cutOf n h D := by
  rw [F.border K]
  refine sm_le n fun a ha => sm_le n fun b hb => ?_
  split
  · exact F.cap a b ha hb
  · exact Int.le_refl _
/-- a division over whose border all goes cuts just that -/
theorem Flow.eq (F : Flow n own h g) (K : Keeps n own D) (hf : ∀ a b, a < n → b < n → D a = false → D b = true → g a b = h a b) : value n own g = cutOf n h D := by
  rw [F.border K]
  refine sm_congr n fun a ha => sm_congr n fun b hb => ?_
  by_cases hd : D a = false ∧ D b = true
  · rw [if_pos hd, if_pos hd]; exact hf a b ha hb hd.1 hd.2
  · rw [if_neg hd, if_neg hd]
end
/-! More along a list of plots. -/
/-- one more over each side of a list -/
def along : List Nat → Nat → Nat → Int
  | a :: b :: L, x, y => (if x = a ∧ y = b then 1 else 0) - (if x = b ∧ y = a then 1 else 0) + along (b :: L) x y
  | _, _, _ => 0
theorem along_anti : ∀ (L : List Nat) (x y : Nat), along L x y = - along L y x
  | [], _, _ => rfl
  | [_], _, _ => rfl
  | a :: b :: L, x, y => by
    have ih := along_anti (b :: L) x y
    rw [along, along, ih]
    by_cases h1 : x = a ∧ y = b
    · by_cases h2 : x = b ∧ y = a
      · rw [if_pos h1, if_pos h2, if_pos ⟨h2.2, h2.1⟩, if_pos ⟨h1.2, h1.1⟩]; omega
      · rw [if_pos h1, if_neg h2, if_neg (fun h => h2 ⟨h.2, h.1⟩), if_pos ⟨h1.2, h1.1⟩]; omega
    · by_cases h2 : x = b ∧ y = a
      · rw [if_neg h1, if_pos h2, if_pos ⟨h2.2, h2.1⟩, if_neg (fun h => h1 ⟨h.2, h.1⟩)]; omega
      · rw [if_neg h1, if_neg h2, if_neg (fun h => h2 ⟨h.2, h.1⟩), if_neg (fun h => h1 ⟨h.2, h.1⟩)]; omega
/-- what goes out of a plot: one more at the list's first one, one less at its last one -/
theorem along_out {n : Nat} : ∀ (L : List Nat) (a z : Nat), L.head? = some a → L.getLast? = some z → (∀ p ∈ L, p < n) → ∀ x, sm n (along L x) = (if x = a then 1 else 0) - (if x = z then 1 else 0)
  | [], a, z, h, _, _, _ => by cases h
  | [p], a, z, h1, h2, _, x => by
    have e1 : p = a := by simpa using h1
    have e2 : p = z := by simpa using h2
    rw [← e1, ← e2]
    have : sm n (along [p] x) = sm n fun _ => 0 := sm_congr n fun _ _ => rfl
    rw [this, sm_zero]; omega
  | p :: q :: L, a, z, h1, h2, h3, x => by
    have e1 : p = a := by simpa using h1
    subst e1
    have ih := along_out (n := n) (q :: L) q z rfl (by rw [← h2]; simp) (fun y hy => h3 y (List.mem_cons_of_mem _ hy)) x
    have hp := h3 p (by simp)
    have hq := h3 q (by simp)
    have e : sm n (along (p :: q :: L) x) = sm n (fun y => (if y = q then (if x = p then 1 else 0) else 0) + ((if y = p then (if x = q then -1 else 0) else 0) + along (q :: L) x y)) := by
      refine sm_congr n fun y _ => ?_
      rw [along]
      by_cases h5 : x = p <;> by_cases h6 : x = q <;> by_cases h7 : y = p <;> by_cases h8 : y = q <;> simp [h5, h6, h7, h8] <;> omega
    rw [e, sm_add, sm_add, sm_one, sm_one, if_pos hq, if_pos hp, ih]
    by_cases h5 : x = p <;> by_cases h6 : x = q <;> simp [h5, h6] <;> omega
section
variable {n : Nat} {own : Nat → Int} {h g : Nat → Nat → Int}
/-- more goes along a way from state 0 to state 1 -/
theorem Flow.more (F : Flow n own h g) {L : List Nat} {a z : Nat} {c : Int} (ha : L.head? = some a) (hz : L.getLast? = some z) (hL : ∀ p ∈ L, p < n) (ho : own a = 0) (hoz : own z = 1)
    (hc : ∀ x y, x < n → y < n → g x y + c * along L x y ≤ h x y) : Flow n own h (fun x y => g x y + c * along L x y) ∧ value n own (fun x y => g x y + c * along L x y) = value n own g + c := by
  have out : ∀ x, sm n (fun y => g x y + c * along L x y) = sm n (g x) + c * ((if x = a then 1 else 0) - (if x = z then 1 else 0)) := fun x => by
    rw [sm_add, sm_mul, along_out L a z ha hz hL x]
  refine ⟨⟨fun x y => ?_, hc, fun x hx hox => ?_⟩, ?_⟩
  · show g x y + c * along L x y = -(g y x + c * along L y x)
    rw [F.anti x y, along_anti L x y, Int.mul_neg]; omega
  · rw [out, F.cons x hx hox, if_neg (by rintro rfl; omega), if_neg (by rintro rfl; omega)]; omega
  · have han : a < n := hL a (List.mem_of_mem_head? ha)
    have e : value n own (fun x y => g x y + c * along L x y) = sm n fun x => (if own x = 0 then sm n (g x) else 0) + (if x = a then c else 0) := by
      refine sm_congr n fun x _ => ?_
      show (if own x = 0 then sm n (fun y => g x y + c * along L x y) else 0) = _
      rw [out]
      by_cases h0 : own x = 0
      · rw [if_pos h0, if_pos h0, if_neg (show ¬ x = z by rintro rfl; omega)]
        by_cases e : x = a
        · rw [if_pos e, if_pos e]; omega
        · rw [if_neg e, if_neg e]; omega
      · rw [if_neg h0, if_neg h0, if_neg (show ¬ x = a by rintro rfl; exact h0 ho)]; rfl
    rw [e, sm_add, sm_one, if_pos han]; rfl
end
end Go.Proofs.Ytkjcnkkmhkcddaa
/-
  Lands in plain words: walks, and what is left to go.
-/
namespace Go.Proofs.Ytkjcnkkmhkcddaa

/-- how often a list goes from x to y -/
def dirc : List Nat → Nat → Nat → Int
  | a :: b :: L, x, y => (if x = a ∧ y = b then 1 else 0) + dirc (b :: L) x y
  | _, _, _ => 0
theorem dirc_nonneg : ∀ (L : List Nat) (x y : Nat), 0 ≤ dirc L x y
  | [], _, _ => Int.le_refl _
  | [_], _, _ => Int.le_refl _
  | a :: b :: L, x, y => by have := dirc_nonneg (b :: L) x y; rw [dirc]; split <;> omega
theorem along_dirc : ∀ (L : List Nat) (x y : Nat), along L x y = dirc L x y - dirc L y x
  | [], _, _ => rfl
  | [_], _, _ => rfl
  | a :: b :: L, x, y => by
    have ih := along_dirc (b :: L) x y
    rw [along, dirc, dirc, ih]
    by_cases h : x = b ∧ y = a
    · rw [if_pos h, if_pos (show y = a ∧ x = b from ⟨h.2, h.1⟩)]; omega
    · rw [if_neg h, if_neg (fun h' : y = a ∧ x = b => h ⟨h'.2, h'.1⟩)]; omega
/-- a list without a plot twice goes over each side once at most -/
theorem dirc_once : ∀ {L : List Nat}, L.Nodup → ∀ x y, dirc L x y ≤ 1 ∧ (x ∉ L → dirc L x y = 0)
  | [], _, _, _ => ⟨by show (0 : Int) ≤ 1; omega, fun _ => rfl⟩
  | [_], _, _, _ => ⟨by show (0 : Int) ≤ 1; omega, fun _ => rfl⟩
  | a :: b :: L, h, x, y => by
    have hn := List.nodup_cons.1 h
    have ih := dirc_once hn.2 x y
    rw [dirc]
    refine ⟨?_, fun hx => ?_⟩
    · by_cases e : x = a ∧ y = b
      · rw [if_pos e, ih.2 (by rw [e.1]; exact hn.1)]; omega
      · rw [if_neg e]; omega
    · rw [if_neg (fun e => hx (by rw [e.1]; simp)), ih.2 (fun h => hx (List.mem_cons_of_mem _ h))]; rfl
/-! Walks. -/
/-- walks, and of how many families each is -/
abbrev Wks := List (List Nat × Int)
def wtot (W : Wks) : Int := (W.map Prod.snd).sum
/-- what goes over a side, in both directions together -/
def wuse : Wks → Nat → Nat → Int
  | [], _, _ => 0
  | w :: W, x, y => w.2 * (dirc w.1 x y + dirc w.1 y x) + wuse W x y
def wnet : Wks → Nat → Nat → Int
  | [], _, _ => 0
  | w :: W, x, y => w.2 * along w.1 x y + wnet W x y
/-- a walk from state 0 to state 1 -/
structure WOk (n : Nat) (own : Nat → Int) (w : List Nat × Int) : Prop where
  lt : ∀ p ∈ w.1, p < n
  c0 : 0 ≤ w.2
  ends : ∃ a z, w.1.head? = some a ∧ w.1.getLast? = some z ∧ own a = 0 ∧ own z = 1
section
variable {n : Nat} {own : Nat → Int} {h : Nat → Nat → Int} {D : Nat → Bool}
theorem wnet_flow : ∀ {W : Wks}, (∀ w ∈ W, WOk n own w) → Flow n own (wuse W) (wnet W) ∧ value n own (wnet W) = wtot W
  | [], _ => by
    refine ⟨⟨fun _ _ => rfl, fun _ _ _ _ => Int.le_refl _, fun a _ _ => sm_zero n⟩, ?_⟩
    show (sm n fun a => if own a = 0 then sm n (fun _ => 0) else 0) = 0
    rw [sm_zero]
    refine (sm_congr n fun a _ => ?_).trans (sm_zero n)
    split <;> rfl
  | w :: W, hW => by
    obtain ⟨F, hv⟩ := wnet_flow (fun w hw => hW w (List.mem_cons_of_mem _ hw))
    have ho := hW w List.mem_cons_self
    obtain ⟨a, z, ha, hz, hoa, hoz⟩ := ho.ends
    have out : ∀ x, sm n (wnet (w :: W) x) = w.2 * ((if x = a then 1 else 0) - (if x = z then 1 else 0)) + sm n (wnet W x) := fun x => by
      have : sm n (wnet (w :: W) x) = sm n fun y => w.2 * along w.1 x y + wnet W x y := rfl
      rw [this, sm_add, sm_mul, along_out w.1 a z ha hz ho.lt x]
    refine ⟨⟨fun x y => ?_, fun x y hx hy => ?_, fun x hx hox => ?_⟩, ?_⟩
    · rw [wnet, wnet, F.anti x y, along_anti w.1 x y, Int.mul_neg]; omega
    · rw [wnet, wuse]
      have h1 := F.cap x y hx hy
      have h2 : w.2 * along w.1 x y ≤ w.2 * (dirc w.1 x y + dirc w.1 y x) := Int.mul_le_mul_of_nonneg_left (by rw [along_dirc]; have := dirc_nonneg w.1 y x; omega) ho.c0
      omega
    · rw [out, F.cons x hx hox, if_neg (by rintro rfl; omega), if_neg (by rintro rfl; omega)]; simp
    · have han : a < n := ho.lt a (List.mem_of_mem_head? ha)
      have e : value n own (wnet (w :: W)) = sm n fun x => (if x = a then w.2 else 0) + (if own x = 0 then sm n (wnet W x) else 0) := by
        refine sm_congr n fun x _ => ?_
        rw [out]
        by_cases h0 : own x = 0
        · rw [if_pos h0, if_pos h0, if_neg (show ¬ x = z by rintro rfl; omega)]
          by_cases e : x = a
          · rw [if_pos e, if_pos e]; omega
          · rw [if_neg e, if_neg e]; omega
        · rw [if_neg h0, if_neg h0, if_neg (show ¬ x = a by rintro rfl; exact h0 hoa)]; rfl
      have e2 : (sm n fun x => if own x = 0 then sm n (wnet W x) else 0) = wtot W := hv
      rw [e, sm_add, sm_one, if_pos han, e2]
      simp [wtot]
/-- walks are of no more families than a division cuts houses -/
theorem walks_le {W : Wks} (hW : ∀ w ∈ W, WOk n own w) (hu : ∀ x y, x < n → y < n → wuse W x y ≤ h x y) (K : Keeps n own D) : wtot W ≤ cutOf n h D := by
  obtain ⟨F, hv⟩ := wnet_flow hW
  rw [← hv]
  exact Flow.le (h := h) ⟨F.anti, fun a b ha hb => Int.le_trans (F.cap a b ha hb) (hu a b ha hb), F.cons⟩ K
/-! What is left to go. -/
/-- q is left to go, and v of it out of state 0 -/
structure Left (n : Nat) (own : Nat → Int) (q : Nat → Nat → Int) (v : Int) : Prop where
  nn : ∀ a b, 0 ≤ q a b
  cons : ∀ a, a < n → own a = -1 → sm n (fun b => q a b - q b a) = 0
  val : value n own (fun a b => q a b - q b a) = v
variable {q : Nat → Nat → Int} {v : Int}
theorem Left.flow (H : Left n own q v) : Flow n own (fun a b => q a b) (fun a b => q a b - q b a) :=
  ⟨fun a b => by show q a b - q b a = -(q b a - q a b); omega, fun a b _ _ => by show q a b - q b a ≤ q a b; have := H.nn b a; omega, H.cons⟩
/-- a walk is taken away -/
theorem Left.less (H : Left n own q v) {L : List Nat} {a z : Nat} {c : Int} (ha : L.head? = some a) (hz : L.getLast? = some z) (hL : ∀ p ∈ L, p < n) (ho : own a = 0) (hoz : own z = 1)
    (hc : ∀ x y, 0 ≤ q x y - c * dirc L x y) : Left n own (fun x y => q x y - c * dirc L x y) (v - c) := by
  have e : ∀ x y, (q x y - c * dirc L x y) - (q y x - c * dirc L y x) = (q x y - q y x) + (-c) * along L x y := fun x y => by
    rw [along_dirc, Int.neg_mul, Int.mul_sub]; omega
  have out : ∀ x, sm n (fun y => (q x y - c * dirc L x y) - (q y x - c * dirc L y x)) = sm n (fun y => q x y - q y x) + (-c) * ((if x = a then 1 else 0) - (if x = z then 1 else 0)) := fun x => by
    rw [sm_congr n (fun y _ => e x y), sm_add, sm_mul, along_out L a z ha hz hL x]
  refine ⟨hc, fun x hx hox => ?_, ?_⟩
  · rw [out, H.cons x hx hox, if_neg (by rintro rfl; omega), if_neg (by rintro rfl; omega)]; simp
  · have han : a < n := hL a (List.mem_of_mem_head? ha)
    have e2 : value n own (fun x y => (q x y - c * dirc L x y) - (q y x - c * dirc L y x)) = sm n fun x => (if own x = 0 then sm n (fun y => q x y - q y x) else 0) + (if x = a then -c else 0) := by
      refine sm_congr n fun x _ => ?_
      show (if own x = 0 then sm n (fun y => (q x y - c * dirc L x y) - (q y x - c * dirc L y x)) else 0) = _
      rw [out]
      by_cases h0 : own x = 0
      · rw [if_pos h0, if_pos h0, if_neg (show ¬ x = z by rintro rfl; omega)]
        by_cases e : x = a
        · rw [if_pos e, if_pos e]; omega
        · rw [if_neg e, if_neg e]; omega
      · rw [if_neg h0, if_neg h0, if_neg (show ¬ x = a by rintro rfl; exact h0 ho)]; rfl
    have e3 : (sm n fun x => if own x = 0 then sm n (fun y => q x y - q y x) else 0) = v := H.val
    rw [e2, sm_add, sm_one, if_pos han, e3]; omega
/-- nothing is left where nothing goes on -/
theorem Left.none (H : Left n own q v) (K : Keeps n own D) (hf : ∀ a b, a < n → b < n → D a = false → D b = true → q a b = 0) : v ≤ 0 := by
  rw [← H.val, H.flow.border K]
  refine Int.le_trans (sm_le (g := fun _ => 0) n fun a ha => ?_) (Int.le_of_eq (sm_zero n))
  refine Int.le_trans (sm_le (g := fun _ => 0) n fun b hb => ?_) (Int.le_of_eq (sm_zero n))
  by_cases hd : D a = false ∧ D b = true
  · rw [if_pos hd, hf a b ha hb hd.1 hd.2]; have := H.nn b a; omega
  · rw [if_neg hd]; exact Int.le_refl _
/-- what really goes: the positive part -/
theorem Flow.left {g : Nat → Nat → Int} (F : Flow n own h g) : Left n own (fun a b => max 0 (g a b)) (value n own g) := by
  have e : ∀ a b, max 0 (g a b) - max 0 (g b a) = g a b := fun a b => by have := F.anti a b; omega
  refine ⟨fun a b => by show 0 ≤ max 0 (g a b); omega, fun a ha ho => ?_, ?_⟩
  · rw [sm_congr n (fun b _ => e a b)]; exact F.cons a ha ho
  · refine sm_congr n fun a _ => ?_
    show (if own a = 0 then sm n (fun b => max 0 (g a b) - max 0 (g b a)) else 0) = _
    rw [sm_congr n (fun b _ => e a b)]
end
end Go.Proofs.Ytkjcnkkmhkcddaa
/-
  Lands in plain words: the search for a way that families can go, and the way back.
-/
namespace Go.Proofs.Ytkjcnkkmhkcddaa

/-- what the search keeps: M the marks, F from where, rk the order in which plots were met; ed: one can go from plot to plot; St: where one begins -/
structure DBase (n : Nat) (ed : Nat → Nat → Prop) (St : Nat → Prop) (M : Nat → Bool) (F : Nat → Int) (rk : Nat → Nat) (t : Nat) (q : List Nat) : Prop where
  ins : ∀ k, M k = true → k < n
  start : ∀ k, k < n → St k → M k = true
  link : ∀ k, M k = true → (F k = -1 ∧ St k) ∨ ∃ p : Nat, F k = p ∧ M p = true ∧ ed p k ∧ rk p < rk k
  rank : ∀ k, M k = true → rk k < t
  wait : ∀ k ∈ q, M k = true
/-- between rounds; En: where it ends -/
structure DInv (n : Nat) (ed : Nat → Nat → Prop) (St : Nat → Prop) (En : Nat → Prop) (M : Nat → Bool) (F : Nat → Int) (rk : Nat → Nat) (t : Nat) (q : List Nat) : Prop extends DBase n ed St M F rk t q where
  none : ∀ k, M k = true → ¬ En k
  shut : ∀ k, M k = true → k ∉ q → ∀ j, j < n → ed k j → M j = true
structure DMid (n : Nat) (ed : Nat → Nat → Prop) (St : Nat → Prop) (En : Nat → Prop) (M : Nat → Bool) (F : Nat → Int) (rk : Nat → Nat) (t : Nat) (q : List Nat) (c : Nat) (pre : List Int) : Prop extends DBase n ed St M F rk t q where
  none : ∀ k, M k = true → ¬ En k
  shut : ∀ k, M k = true → k ∉ q → k ≠ c → ∀ j, j < n → ed k j → M j = true
  here : M c = true
  seen : ∀ j : Nat, (j : Int) ∈ pre → ed c j → M j = true
section
variable {n : Nat} {ed : Nat → Nat → Prop} {St En : Nat → Prop} {M : Nat → Bool} {F : Nat → Int} {rk : Nat → Nat} {t : Nat} {q : List Nat} {c : Nat} {pre : List Int}
theorem DInv.take (h : DInv n ed St En M F rk t (c :: q)) : DMid n ed St En M F rk t q c [] :=
  ⟨⟨h.ins, h.start, h.link, h.rank, fun k hk => h.wait k (by simp [hk])⟩, h.none, fun k hk hq hc => h.shut k hk (by simp [hq, hc]), h.wait c (by simp), fun j hj => by cases hj⟩
theorem DMid.done {L : List Int} (h : DMid n ed St En M F rk t q c L) (hL : ∀ j : Nat, j < n → ed c j → (j : Int) ∈ L) : DInv n ed St En M F rk t q :=
  ⟨h.toDBase, h.none, fun k hk hq j hj he => by
    by_cases e : k = c
    · subst e; exact h.seen j (hL j hj he) he
    · exact h.shut k hk hq e j hj he⟩
theorem DMid.skip {k : Nat} (h : DMid n ed St En M F rk t q c pre) (hk : ed c k → M k = true) : DMid n ed St En M F rk t q c (pre ++ [(k : Int)]) :=
  ⟨h.toDBase, h.none, h.shut, h.here, fun j hj he => by
    rcases List.mem_append.1 hj with hj | hj
    · exact h.seen j hj he
    · have e : j = k := by simp at hj; omega
      subst e; exact hk he⟩
theorem DMid.base {k : Nat} (h : DMid n ed St En M F rk t q c pre) (hkn : k < n) (he : ed c k) (hM : M k = false) (q' : List Nat) (hq : ∀ x ∈ q', x ∈ q ∨ x = k) :
    DBase n ed St (updB M k) (upd F k c) (fun x => if x = k then t else rk x) (t + 1) q' := by
  have hck : c ≠ k := fun e => by have := h.here; rw [e, hM] at this; cases this
  have hne : ∀ {x}, M x = true → x ≠ k := fun hx e => by rw [e, hM] at hx; cases hx
  have old : ∀ {x}, updB M k x = true → x ≠ k → M x = true := fun hx e => by rwa [updB_ne _ e] at hx
  refine ⟨fun x hx => ?_, fun x hx hs => updB_mono (h.start x hx hs), fun x hx => ?_, fun x hx => ?_, fun x hx => ?_⟩
  · by_cases e : x = k
    · subst e; exact hkn
    · exact h.ins x (old hx e)
  · by_cases e : x = k
    · subst e
      refine .inr ⟨c, upd_same _ _ _, updB_mono h.here, he, ?_⟩
      simp only [if_neg hck]
      exact h.rank c h.here
    · rcases h.link x (old hx e) with ⟨h1, h2⟩ | ⟨p, h1, h2, h3, h4⟩
      · exact .inl ⟨by rw [upd_ne _ _ e]; exact h1, h2⟩
      · refine .inr ⟨p, by rw [upd_ne _ _ e]; exact h1, updB_mono h2, h3, ?_⟩
        simp only [if_neg e, if_neg (hne h2)]; exact h4
  · show (if x = k then t else rk x) < t + 1
    by_cases e : x = k
    · rw [if_pos e]; omega
    · rw [if_neg e]; have := h.rank x (old hx e); omega
  · rcases hq x hx with h1 | h1
    · exact updB_mono (h.wait x h1)
    · rw [h1]; exact updB_same _ _
/-- a plot that is not the end is met -/
theorem DMid.add {k : Nat} (h : DMid n ed St En M F rk t q c pre) (hkn : k < n) (he : ed c k) (hM : M k = false) (hE : ¬ En k) :
    DMid n ed St En (updB M k) (upd F k c) (fun x => if x = k then t else rk x) (t + 1) (q ++ [k]) c (pre ++ [(k : Int)]) := by
  have old : ∀ {x}, updB M k x = true → x ≠ k → M x = true := fun hx e => by rwa [updB_ne _ e] at hx
  refine ⟨h.base hkn he hM (q ++ [k]) (fun x hx => by simpa using hx), fun x hx => ?_, fun x hx hq hxc => ?_, updB_mono h.here, fun x hx hex => ?_⟩
  · by_cases e : x = k
    · rw [e]; exact hE
    · exact h.none x (old hx e)
  · have e : x ≠ k := fun e => hq (by simp [e])
    exact fun j hj hej => updB_mono (h.shut x (old hx e) (fun hm => hq (by simp [hm])) hxc j hj hej)
  · rcases List.mem_append.1 hx with hx | hx
    · exact updB_mono (h.seen x hx hex)
    · have e : x = k := by simp at hx; omega
      rw [e]; exact updB_same _ _
/-- behind a search that finds no end: what is met is left by no side -/
theorem DInv.closed (h : DInv n ed St En M F rk t []) : (∀ a b, a < n → b < n → M a = true → M b = false → ¬ ed a b) ∧ (∀ k, M k = true → ¬ En k) ∧ ∀ k, k < n → St k → M k = true :=
  ⟨fun a b _ hb ha hMb he => absurd (h.shut a ha (by simp) b hb he) (by rw [hMb]; decide), h.none, h.start⟩
/-! The way back. -/
/-- L: the way from plot x to the last one, so far (its first plot is x) -/
structure BackD (n : Nat) (ed : Nat → Nat → Prop) (M : Nat → Bool) (rk : Nat → Nat) (last x : Nat) (L : List Nat) : Prop where
  head : ∃ s, L = x :: s
  met : ∀ a ∈ L, M a = true
  rise : L.Pairwise (fun a b => rk a < rk b)
  adj : ∀ l a b r, L = l ++ a :: b :: r → ed a b
  tail : L.getLast? = some last
theorem BackD.start {last : Nat} (hM : M last = true) : BackD n ed M rk last last [last] :=
  ⟨⟨[], rfl⟩, fun a ha => by rw [List.mem_singleton] at ha; rw [ha]; exact hM, List.pairwise_singleton _ _, fun l a b r e => by
    have := congrArg List.length e; simp at this; omega, rfl⟩
theorem BackD.step {last x p : Nat} {L : List Nat} (h : BackD n ed M rk last x L) (hp : M p = true) (he : ed p x) (hr : rk p < rk x) : BackD n ed M rk last p (p :: L) := by
  obtain ⟨s, hs⟩ := h.head
  refine ⟨⟨L, rfl⟩, fun a ha => ?_, ?_, fun l a b r e => ?_, ?_⟩
  · rcases List.mem_cons.1 ha with rfl | ha
    · exact hp
    · exact h.met a ha
  · refine List.pairwise_cons.2 ⟨fun a ha => ?_, h.rise⟩
    rw [hs] at ha
    rcases List.mem_cons.1 ha with rfl | ha
    · exact hr
    · have h1 := h.rise
      rw [hs] at h1
      have := (List.pairwise_cons.1 h1).1 a ha
      omega
  · match l with
    | [] =>
      have e2 := List.cons.inj (show p :: L = a :: b :: r from e)
      rw [hs] at e2
      have e3 := List.cons.inj e2.2
      rw [← e2.1, ← e3.1]; exact he
    | z :: l' =>
      have e2 := List.cons.inj (show p :: L = z :: (l' ++ a :: b :: r) from e)
      exact h.adj l' a b r e2.2
  · rw [hs]; rw [hs] at h; simpa using h.tail
theorem BackD.nodup {last x : Nat} {L : List Nat} (h : BackD n ed M rk last x L) : L.Nodup :=
  h.rise.imp fun hab e => by rw [e] at hab; omega
end
end Go.Proofs.Ytkjcnkkmhkcddaa
/-
  Lands in plain words: as many as can go a way.
-/
namespace Go.Proofs.Ytkjcnkkmhkcddaa

theorem dirc_pos : ∀ {L : List Nat} {x y : Nat}, dirc L x y ≠ 0 → ∃ l r, L = l ++ x :: y :: r
  | [], _, _, h => absurd rfl h
  | [_], _, _, h => absurd rfl h
  | a :: b :: L, x, y, h => by
    by_cases e : x = a ∧ y = b
    · exact ⟨[], L, by rw [e.1, e.2]; rfl⟩
    · rw [dirc, if_neg e] at h
      obtain ⟨l, r, e2⟩ := dirc_pos (show dirc (b :: L) x y ≠ 0 by omega)
      exact ⟨a :: l, r, by rw [e2]; rfl⟩
/-- what is taken along a way is there -/
theorem dirc_room {L : List Nat} {q : Nat → Nat → Int} {c : Int} (hL : L.Nodup) (hq : ∀ x y, 0 ≤ q x y) (h : ∀ l a b r, L = l ++ a :: b :: r → c ≤ q a b) (x y : Nat) : 0 ≤ q x y - c * dirc L x y := by
  have h1 := (dirc_once hL x y).1
  have h2 := dirc_nonneg L x y
  by_cases e : dirc L x y = 0
  · rw [e]; have := hq x y; omega
  · obtain ⟨l, r, e2⟩ := dirc_pos e
    have := h l x y r e2
    rw [show dirc L x y = 1 by omega]; omega
/-- more can go along a way over whose sides there is room -/
theorem along_room {n : Nat} {L : List Nat} {g hs : Nat → Nat → Int} {c : Int} (hL : L.Nodup) (hq : ∀ x y, x < n → y < n → g x y ≤ hs x y) (hc : 0 ≤ c) (h : ∀ l a b r, L = l ++ a :: b :: r → c ≤ hs a b - g a b) (x y : Nat) (hx : x < n) (hy : y < n) : g x y + c * along L x y ≤ hs x y := by
  have h1 := (dirc_once hL x y).1
  have h2 := dirc_nonneg L x y
  have h3 := dirc_nonneg L y x
  have h4 : c * along L x y ≤ c * dirc L x y := Int.mul_le_mul_of_nonneg_left (by rw [along_dirc]; omega) hc
  by_cases e : dirc L x y = 0
  · rw [e] at h4; have := hq x y hx hy; omega
  · obtain ⟨l, r, e2⟩ := dirc_pos e
    have := h l x y r e2
    rw [show dirc L x y = 1 by omega] at h4; omega
end Go.Proofs.Ytkjcnkkmhkcddaa
/-
  Borders with the fewest cuts, in plain words: more houses, fewer disputed plots, twice the houses, states that are changed, a quarter's turn.
-/
namespace Go.Proofs.Ytkjcnkkmhkcddaa

/-- what a division cuts, plot by plot -/
def cutES (n wd : Nat) (E S : Nat → Int) (D : Nat → Bool) : Int := sm n fun a => (if a % wd + 1 < wd ∧ D (a + 1) ≠ D a then E a else 0) + (if a + wd < n ∧ D (a + wd) ≠ D a then S a else 0)
/-- the fewest that can be cut -/
structure IsMin (n wd : Nat) (own E S : Nat → Int) (c : Int) : Prop where
  ex : ∃ D, Keeps n own D ∧ cutES n wd E S D = c
  le : ∀ D, Keeps n own D → c ≤ cutES n wd E S D
section
variable {n wd : Nat} {own own' E E' S S' : Nat → Int} {c c' u : Int}
end
theorem at_gr {wd x y : Nat} (hx : x < wd) : (y * wd + x) % wd = x ∧ (y * wd + x) / wd = y := by
  constructor
  · rw [Nat.add_comm, Nat.add_mul_mod_self_right, Nat.mod_eq_of_lt hx]
  · rw [Nat.add_comm, Nat.add_mul_div_right _ _ (by omega), Nat.div_eq_of_lt hx, Nat.zero_add]
theorem sm_more (f : Nat → Int) (n : Nat) : ∀ k, sm (n + k) f = sm n f + sm k fun x => f (n + x)
  | 0 => by simp [sm]
  | k + 1 => by rw [← Nat.add_assoc, sm, sm_more f n k, sm]; omega
theorem sm_grid (f : Nat → Int) (wd : Nat) : ∀ hi, sm (hi * wd) f = sm hi fun y => sm wd fun x => f (y * wd + x)
  | 0 => by simp [sm]
  | hi + 1 => by rw [Nat.succ_mul, sm_more, sm_grid f wd hi, sm]
/-- rows that are columns -/
structure Quarter (wd hi : Nat) (own own' E E' S S' : Nat → Int) : Prop where
  o : ∀ x y, x < wd → y < hi → own' (x * hi + y) = own (y * wd + x)
  e : ∀ x y, x < wd → y < hi → E' (x * hi + y) = S (y * wd + x)
  s : ∀ x y, x < wd → y < hi → S' (x * hi + y) = E (y * wd + x)
section
variable {wd hi : Nat} {own own' E E' S S' : Nat → Int} {c c' : Int}
theorem Quarter.cut (h : Quarter wd hi own own' E E' S S') (D : Nat → Bool) : cutES (wd * hi) hi E' S' (fun k => D (k % hi * wd + k / hi)) = cutES (hi * wd) wd E S D := by
  rw [cutES, cutES, sm_grid, sm_grid, sm_swap]
  refine sm_congr hi fun y hy => sm_congr wd fun x hx => ?_
  have a1 := at_gr (wd := hi) (y := x) hy
  have a2 := at_gr (wd := wd) (y := y) hx
  have hn : y * wd + wd ≤ hi * wd := by rw [← Nat.succ_mul]; exact Nat.mul_le_mul_right _ hy
  have hn' : x * hi + hi ≤ wd * hi := by rw [← Nat.succ_mul]; exact Nat.mul_le_mul_right _ hx
  have c1 : x * hi + y + hi < wd * hi ↔ x + 1 < wd := by
    constructor
    · intro h1
      apply Classical.byContradiction
      intro h2
      have : wd = x + 1 := by omega
      rw [this, Nat.succ_mul] at h1
      omega
    · intro h1
      have : (x + 1 + 1) * hi ≤ wd * hi := Nat.mul_le_mul_right _ h1
      rw [Nat.succ_mul, Nat.succ_mul] at this
      omega
  have c2 : y * wd + x + wd < hi * wd ↔ y + 1 < hi := by
    constructor
    · intro h1
      apply Classical.byContradiction
      intro h2
      have : hi = y + 1 := by omega
      rw [this, Nat.succ_mul] at h1
      omega
    · intro h1
      have : (y + 1 + 1) * wd ≤ hi * wd := Nat.mul_le_mul_right _ h1
      rw [Nat.succ_mul, Nat.succ_mul] at this
      omega
  simp only [a1.1, a1.2, a2.1, c1, c2, h.e x y hx hy, h.s x y hx hy]
  have p1 : (if y + 1 < hi ∧ D ((x * hi + y + 1) % hi * wd + (x * hi + y + 1) / hi) ≠ D (y * wd + x) then S (y * wd + x) else 0) = if y + 1 < hi ∧ D (y * wd + x + wd) ≠ D (y * wd + x) then S (y * wd + x) else 0 := by
    by_cases hy1 : y + 1 < hi
    · have a3 := at_gr (wd := hi) (y := x) hy1
      rw [show x * hi + y + 1 = x * hi + (y + 1) by omega, a3.1, a3.2, show (y + 1) * wd + x = y * wd + x + wd by rw [Nat.succ_mul]; omega]
    · rw [if_neg (fun h => hy1 h.1), if_neg (fun h => hy1 h.1)]
  have p2 : (if x + 1 < wd ∧ D ((x * hi + y + hi) % hi * wd + (x * hi + y + hi) / hi) ≠ D (y * wd + x) then E (y * wd + x) else 0) = if x + 1 < wd ∧ D (y * wd + x + 1) ≠ D (y * wd + x) then E (y * wd + x) else 0 := by
    have a3 := at_gr (wd := hi) (y := x + 1) hy
    rw [show x * hi + y + hi = (x + 1) * hi + y by rw [Nat.succ_mul]; omega, a3.1, a3.2, show y * wd + (x + 1) = y * wd + x + 1 by omega]
  rw [p1, p2]
  exact Int.add_comm _ _
end
end Go.Proofs.Ytkjcnkkmhkcddaa
