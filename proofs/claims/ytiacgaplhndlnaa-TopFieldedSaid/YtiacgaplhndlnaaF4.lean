/-
  Parts of the proof, in the order in which they build: EnA.
-/
set_option linter.unusedVariables false
set_option linter.unusedSimpArgs false
namespace Go.Proofs.Ytiacgaplhndlnaa

def nA (col c : Nat) : List Int := if 0 < col then [(c : Int) - 1] else []
def nB (wd col c : Nat) : List Int := if col + 1 < wd then [(c : Int) + 1] else []
def nC (wd c : Nat) : List Int := if wd ≤ c then [(c : Int) - wd] else []
def nD (wd N c : Nat) : List Int := if c + wd < N then [(c : Int) + wd] else []
def nbrK (wd N c col : Nat) : List Int := nC wd c ++ nA col c ++ nB wd col c ++ nD wd N c
/-- the neighbours of plot c, in the iterator's order -/
def nbrL (wd N c : Nat) : List Int := nbrK wd N c (c % wd)
/-- a map as data: columns, owners -/
structure Mp where
  wd : Nat
  os : List Int
def Mp.n (m : Mp) : Nat := m.os.length
structure Mp.Ok (m : Mp) : Prop where
  w0 : 0 < m.wd
  n0 : 0 < m.n
  n1 : m.n ≤ 100
  dv : m.n % m.wd = 0
theorem Mp.Ok.wn {m : Mp} (h : m.Ok) : m.wd ≤ m.n := Nat.le_of_dvd h.n0 (Nat.dvd_of_mod_eq_zero h.dv)
def Mp.own (m : Mp) (p : Nat) : Int := m.os.getD p 0
theorem mod_succ {wd N c : Nat} (hd : N % wd = 0) (hc : c < N) (h : c % wd + 1 < wd) : c + 1 < N ∧ (c + 1) % wd = c % wd + 1 := by
  have h3 : (c + 1) % wd = c % wd + 1 := by
    rw [Nat.add_mod]
    rcases Nat.lt_or_ge 1 wd with h4 | h4
    · rw [Nat.mod_eq_of_lt h4, Nat.mod_eq_of_lt h]
    · omega
  refine ⟨?_, h3⟩
  rcases Nat.lt_or_ge (c + 1) N with h2 | h2
  · exact h2
  · have e : c + 1 = N := by omega
    rw [e, hd] at h3; omega
theorem mod_pred {wd c : Nat} (hw : 0 < wd) (h : 0 < c % wd) : (c - 1) % wd + 1 = c % wd ∧ 0 < c := by
  have hlt := Nat.mod_lt c hw
  have e := Nat.div_add_mod c wd
  have hc : 0 < c := Nat.lt_of_lt_of_le h (Nat.mod_le _ _)
  have e2 : c - 1 = wd * (c / wd) + (c % wd - 1) := by omega
  have : (c - 1) % wd = c % wd - 1 := by
    rw [e2, Nat.mul_add_mod, Nat.mod_eq_of_lt (by omega)]
  omega
theorem mem_nbr {wd N c : Nat} {x : Int} : x ∈ nbrL wd N c ↔ (0 < c % wd ∧ x = (c : Int) - 1) ∨ (c % wd + 1 < wd ∧ x = (c : Int) + 1) ∨ (wd ≤ c ∧ x = (c : Int) - wd) ∨ (c + wd < N ∧ x = (c : Int) + wd) := by
  simp only [nbrL, nbrK, nA, nB, nC, nD, List.mem_append]
  constructor
  · intro h
    rcases h with ((h | h) | h) | h <;> split at h <;> simp_all
  · intro h
    rcases h with h | h | h | h <;> simp [h]
theorem mem_nbrL {wd N c : Nat} {x : Int} (hw : 0 < wd) (hd : N % wd = 0) (hc : c < N) (h : x ∈ nbrL wd N c) : ∃ k : Nat, x = k ∧ k < N := by
  rcases mem_nbr.1 h with h | h | h | h
  · have := (mod_pred hw h.1).2; exact ⟨c - 1, by omega, by omega⟩
  · have := (mod_succ hd hc h.1).1; exact ⟨c + 1, by omega, by omega⟩
  · exact ⟨c - wd, by omega, by omega⟩
  · exact ⟨c + wd, by omega, by omega⟩
/-- plots k and c are neighbours -/
def nb (m : Mp) (c k : Nat) : Prop := (k : Int) ∈ nbrL m.wd m.n c
theorem nb_lt {m : Mp} (hm : m.Ok) {c k : Nat} (hc : c < m.n) (h : nb m c k) : k < m.n := by
  obtain ⟨j, hj, hlt⟩ := mem_nbrL (N := m.n) hm.w0 hm.dv hc h
  have : j = k := by omega
  omega
theorem nb_symm {m : Mp} (hm : m.Ok) {c k : Nat} (hc : c < m.n) (h : nb m c k) : nb m k c := by
  have hk := nb_lt hm hc h
  rcases mem_nbr.1 h with h | h | h | h
  · have h1 := mod_pred hm.w0 h.1
    have e : k = c - 1 := by omega
    subst e
    have hlt := Nat.mod_lt c hm.w0
    exact mem_nbr.2 (.inr (.inl ⟨by omega, by omega⟩))
  · have h1 := mod_succ hm.dv hc h.1
    have e : k = c + 1 := by omega
    subst e
    exact mem_nbr.2 (.inl ⟨by omega, by omega⟩)
  · have e : k = c - m.wd := by omega
    subst e
    exact mem_nbr.2 (.inr (.inr (.inr ⟨by omega, by omega⟩)))
  · have e : k = c + m.wd := by omega
    subst e
    exact mem_nbr.2 (.inr (.inr (.inl ⟨by omega, by omega⟩)))
/-! Connected plots. -/
/-- from a one comes to b by plots of A -/
inductive Cn (m : Mp) (A : Nat → Prop) : Nat → Nat → Prop
  | refl {a : Nat} : A a → Cn m A a a
  | step {a b c : Nat} : A a → nb m a b → Cn m A b c → Cn m A a c
section
variable {m : Mp} {A B : Nat → Prop} {a b c : Nat}
theorem Cn.left (h : Cn m A a b) : A a := by cases h <;> assumption
theorem Cn.right (h : Cn m A a b) : A b := by
  induction h with
  | refl h => exact h
  | step _ _ _ ih => exact ih
theorem Cn.trans (h : Cn m A a b) (h' : Cn m A b c) : Cn m A a c := by
  induction h with
  | refl _ => exact h'
  | step ha hn _ ih => exact .step ha hn (ih h')
theorem Cn.mono (hA : ∀ k, A k → B k) (h : Cn m A a b) : Cn m B a b := by
  induction h with
  | refl h => exact .refl (hA _ h)
  | step ha hn _ ih => exact .step (hA _ ha) hn ih
theorem Cn.snoc (h : Cn m A a b) (hn : nb m b c) (hc : A c) : Cn m A a c := h.trans (.step h.right hn (.refl hc))
theorem Cn.symm (hm : m.Ok) (hA : ∀ k, A k → k < m.n) (h : Cn m A a b) : Cn m A b a := by
  induction h with
  | refl h => exact .refl h
  | step ha hn _ ih => exact ih.snoc (nb_symm hm (hA _ ha) hn) ha
/-- plots of A that hang together with a -/
theorem Cn.iff (hm : m.Ok) (hA : ∀ k, A k → k < m.n) (hab : Cn m A a b) : Cn m A a c ↔ Cn m A b c := ⟨fun h => (hab.symm hm hA).trans h, fun h => hab.trans h⟩
/-- the way to b either keeps away from S, or there is a last plot of S on it -/
theorem Cn.last (S : Nat → Prop) (h : Cn m A a b) : Cn m (fun k => A k ∧ ¬ S k) a b ∨ ∃ k, S k ∧ Cn m A a k ∧ (k = b ∨ ∃ j, nb m k j ∧ Cn m (fun k => A k ∧ ¬ S k) j b) := by
  induction h with
  | @refl a h =>
    by_cases hs : S a
    · exact .inr ⟨a, hs, .refl h, .inl rfl⟩
    · exact .inl (.refl ⟨h, hs⟩)
  | @step a b c ha hn _ ih =>
    rcases ih with ih | ⟨k, h1, h2, h3⟩
    · by_cases hs : S a
      · exact .inr ⟨a, hs, .refl ha, .inr ⟨b, hn, ih⟩⟩
      · exact .inl (.step ⟨ha, hs⟩ hn ih)
    · exact .inr ⟨k, h1, .step ha hn h2, h3⟩
/-- .. or a first one -/
theorem Cn.first (S : Nat → Prop) (h : Cn m A a b) : Cn m (fun k => A k ∧ ¬ S k) a b ∨ ∃ k, S k ∧ A k ∧ Cn m A k b ∧ (k = a ∨ ∃ j, nb m j k ∧ Cn m (fun k => A k ∧ ¬ S k) a j) := by
  induction h with
  | @refl a h =>
    by_cases hs : S a
    · exact .inr ⟨a, hs, h, .refl h, .inl rfl⟩
    · exact .inl (.refl ⟨h, hs⟩)
  | @step a b c ha hn hbc ih =>
    by_cases hs : S a
    · exact .inr ⟨a, hs, ha, .step ha hn hbc, .inl rfl⟩
    · rcases ih with ih | ⟨k, h1, h2, h3, h4⟩
      · exact .inl (.step ⟨ha, hs⟩ hn ih)
      · refine .inr ⟨k, h1, h2, h3, .inr ?_⟩
        rcases h4 with rfl | ⟨j, h5, h6⟩
        · exact ⟨a, hn, .refl ⟨ha, hs⟩⟩
        · exact ⟨j, h5, .step ⟨ha, hs⟩ hn h6⟩
end
/-! Regions. -/
/-- the plots of an owner -/
def OfO (m : Mp) (o : Int) (p : Nat) : Prop := p < m.n ∧ m.own p = o
/-- two plots are in one region -/
def Sm (m : Mp) (p q : Nat) : Prop := Cn m (OfO m (m.own p)) p q
theorem Sm.refl {m : Mp} {p : Nat} (hp : p < m.n) : Sm m p p := Cn.refl ⟨hp, rfl⟩
theorem Sm.own {m : Mp} {p q : Nat} (h : Sm m p q) : m.own q = m.own p := (Cn.right h).2
theorem Sm.lt {m : Mp} {p q : Nat} (h : Sm m p q) : p < m.n ∧ q < m.n := ⟨(Cn.left h).1, (Cn.right h).1⟩
theorem Sm.symm {m : Mp} (hm : m.Ok) {p q : Nat} (h : Sm m p q) : Sm m q p := by
  unfold Sm; rw [h.own]; exact Cn.symm hm (fun _ h => h.1) h
theorem Sm.trans {m : Mp} {p q r : Nat} (h : Sm m p q) (h' : Sm m q r) : Sm m p r := by
  unfold Sm at h' ⊢; rw [h.own] at h'; exact Cn.trans h h'
/-- the numbers of the regions, by their first plots -/
structure IsReg (m : Mp) (r : Nat → Nat) : Prop where
  same : ∀ p q, p < m.n → q < m.n → (r p = r q ↔ Sm m p q)
  grow : ∀ p, p < m.n → ∀ j, j < r p → ∃ q, q < p ∧ r q = j
theorem IsReg.unique {m : Mp} {r r' : Nat → Nat} (h : IsReg m r) (h' : IsReg m r') : ∀ p, p < m.n → r p = r' p := by
  intro p
  induction p using Nat.strongRecOn with
  | ind p ih =>
    intro hp
    have key : ∀ {s s' : Nat → Nat}, IsReg m s → IsReg m s' → (∀ q, q < p → s q = s' q) → ¬ s p < s' p := by
      intro s s' hs hs' he hlt
      obtain ⟨q, hq, e⟩ := hs'.grow p hp (s p) hlt
      have h1 : s q = s p := by rw [he q hq, e]
      have h2 := (hs.same q p (by omega) hp).1 h1
      have h3 := (hs'.same q p (by omega) hp).2 h2
      omega
    have e : ∀ q, q < p → r q = r' q := fun q hq => ih q hq (by omega)
    have h1 := key h h' e
    have h2 := key h' h (fun q hq => (e q hq).symm)
    omega
/-- how many regions there are -/
structure IsMany (m : Mp) (r : Nat → Nat) (k : Nat) : Prop where
  lt : ∀ p, p < m.n → r p < k
  ex : ∀ j, j < k → ∃ p, p < m.n ∧ r p = j
/-! What lies within what. -/
/-- a plot of the first or last row or column -/
def rimB (m : Mp) (p : Nat) : Bool := decide (p < m.wd) || decide (m.n ≤ p + m.wd) || decide (p % m.wd = 0) || decide (p % m.wd + 1 = m.wd)
/-- the plots that are not of region j -/
def Free (m : Mp) (r : Nat → Nat) (j p : Nat) : Prop := p < m.n ∧ r p ≠ j
/-- there is a way out of region i without region j -/
def OutW (m : Mp) (r : Nat → Nat) (i j : Nat) : Prop := ∃ p q, r p = i ∧ Cn m (Free m r j) p q ∧ rimB m q = true
def In (m : Mp) (r : Nat → Nat) (i j : Nat) : Prop := i ≠ j ∧ ¬ OutW m r i j
section
variable {m : Mp} {r : Nat → Nat} {i j k : Nat}
/-- within a region one goes without any other one -/
theorem IsReg.go (h : IsReg m r) {p q : Nat} (hp : p < m.n) (hq : q < m.n) (e : r p = r q) (hj : r p ≠ j) : Cn m (Free m r j) p q := by
  have hs := (h.same p q hp hq).1 e
  have : ∀ a b, Cn m (OfO m (m.own p)) a b → Cn m (OfO m (m.own p)) p a → Cn m (Free m r j) a b := by
    intro a b hab
    induction hab with
    | @refl a ha => intro hpa; exact .refl ⟨ha.1, by rw [← (h.same p a hp ha.1).2 hpa]; exact hj⟩
    | @step a b c ha hn _ ih =>
      intro hpa
      exact .step ⟨ha.1, by rw [← (h.same p a hp ha.1).2 hpa]; exact hj⟩ hn (ih (hpa.snoc hn (Cn.left (by assumption))))
  exact this p q hs (.refl ⟨hp, rfl⟩)
/-- from any plot of a region without a way out, none -/
theorem In.all (h : In m r i j) {p q : Nat} (hp : r p = i) (hc : Cn m (Free m r j) p q) : rimB m q = false := by
  cases e : rimB m q with
  | false => rfl
  | true => exact absurd ⟨p, q, hp, hc, e⟩ h.2
/-- from each plot one comes to the rim -/
theorem to_rim (hm : m.Ok) : ∀ (d p : Nat), p < m.n → p % m.wd = d → ∃ q, Cn m (fun k => k < m.n) p q ∧ rimB m q = true
  | 0, p, hp, h => ⟨p, .refl hp, by unfold rimB; simp [h]⟩
  | d + 1, p, hp, h => by
    have h1 := mod_pred hm.w0 (show 0 < p % m.wd by omega)
    obtain ⟨q, h2, h3⟩ := to_rim hm d (p - 1) (by omega) (by omega)
    exact ⟨q, .step hp (mem_nbr.2 (.inl ⟨by omega, by omega⟩)) h2, h3⟩
/-- two regions never lie within each other -/
theorem In.asymm (hm : m.Ok) (hi : ∃ p, p < m.n ∧ r p = i) (h : In m r i j) : ¬ In m r j i := fun h' => by
  obtain ⟨p, hp, hpi⟩ := hi
  obtain ⟨q, hc, hq⟩ := to_rim hm _ p hp rfl
  rcases Cn.last (fun k => r k = i ∨ r k = j) hc with h1 | ⟨k, hk, hpk, h2⟩
  · exact (Cn.left h1).2 (.inl hpi)
  · have hkn : k < m.n := Cn.right (A := fun k => k < m.n) hpk
    have tail : ∀ x : Nat, r k ≠ x → (x = i ∨ x = j) → Cn m (Free m r x) k q := fun x hx hxx => by
      rcases h2 with rfl | ⟨l, hn, hl⟩
      · exact .refl ⟨hkn, hx⟩
      · exact .step ⟨hkn, hx⟩ hn (hl.mono fun y hy => ⟨hy.1, fun e => hy.2 (by rcases hxx with rfl | rfl <;> simp [e])⟩)
    rcases hk with hk | hk
    · exact h.2 ⟨k, q, hk, tail j (by rw [hk]; exact h.1) (.inr rfl), hq⟩
    · exact h'.2 ⟨k, q, hk, tail i (by rw [hk]; exact h'.1) (.inl rfl), hq⟩
/-- what lies within something that lies within another thing lies within that, too -/
theorem In.trans (h : In m r i j) (h' : In m r j k) (hik : i ≠ k) : In m r i k := by
  refine ⟨hik, ?_⟩
  rintro ⟨p, q, hp, hc, hq⟩
  rcases Cn.first (fun x => r x = j) hc with h1 | ⟨x, hx, -, h2, -⟩
  · exact h.2 ⟨p, q, hp, h1.mono fun y hy => ⟨hy.1.1, hy.2⟩, hq⟩
  · exact h'.2 ⟨x, q, hx, h2, hq⟩
/-- of two regions within which one lies the one lies within the other -/
theorem In.tree (hm : m.Ok) (hr : IsReg m r) (hi : ∃ p, p < m.n ∧ r p = i) (h : In m r i j) (h' : In m r i k) (hjk : j ≠ k) : In m r j k ∨ In m r k j := by
  apply Classical.byContradiction
  intro hno
  have o1 : OutW m r j k := Classical.byContradiction fun h => hno (.inl ⟨hjk, h⟩)
  have o2 : OutW m r k j := Classical.byContradiction fun h => hno (.inr ⟨hjk.symm, h⟩)
  obtain ⟨p, hp, hpi⟩ := hi
  obtain ⟨q, hc, hq⟩ := to_rim hm _ p hp rfl
  rcases Cn.first (fun x => r x = j ∨ r x = k) hc with h1 | ⟨x, hx, hxn, -, h2⟩
  · exact h.2 ⟨p, q, hpi, h1.mono fun y hy => ⟨hy.1, fun e => hy.2 (.inl e)⟩, hq⟩
  · have head : ∀ y : Nat, r x ≠ y → (y = j ∨ y = k) → Cn m (Free m r y) p x := fun y hy hyy => by
      rcases h2 with rfl | ⟨l, hn, hl⟩
      · exact .refl ⟨hxn, hy⟩
      · exact (hl.mono fun z hz => ⟨hz.1, fun e => hz.2 (by rcases hyy with rfl | rfl <;> simp [e])⟩).snoc hn ⟨hxn, hy⟩
    have fin : ∀ a b : Nat, r x = a → a ≠ b → (b = j ∨ b = k) → OutW m r a b → In m r i b → False := fun a b hxa hab hb ho hin => by
      obtain ⟨p', q', e, hc', hq'⟩ := ho
      exact hin.2 ⟨p, q', hpi, ((head b (by rw [hxa]; exact hab) hb).trans (hr.go hxn (Cn.left hc').1 (by rw [hxa, e]) (by rw [hxa]; exact hab))).trans hc', hq'⟩
    rcases hx with hx | hx
    · exact fin j k hx hjk (.inr rfl) o1 h'
    · exact fin k j hx hjk.symm (.inl rfl) o2 h
end
/-! The region around each region. -/
/-- the nearest of the first t regions that i lies within; none: -1 -/
def IsAr (m : Mp) (r : Nat → Nat) (i t : Nat) (x : Int) : Prop :=
  (x = -1 ∧ ∀ k, k < t → ¬ In m r i k) ∨ ∃ a : Nat, x = (a : Int) ∧ a < t ∧ In m r i a ∧ ∀ k, k < t → k ≠ a → In m r i k → In m r a k
section
variable {m : Mp} {r : Nat → Nat} {i t : Nat} {x : Int}
theorem IsAr.nil : IsAr m r i 0 (-1) := .inl ⟨rfl, fun _ hk => absurd hk (Nat.not_lt_zero _)⟩
theorem IsAr.skip (h : IsAr m r i t x) (hn : ¬ In m r i t) : IsAr m r i (t + 1) x := by
  rcases h with ⟨h1, h2⟩ | ⟨a, h1, h2, h3, h4⟩
  · refine .inl ⟨h1, fun k hk => ?_⟩
    by_cases e : k = t
    · rw [e]; exact hn
    · exact h2 k (by omega)
  · refine .inr ⟨a, h1, by omega, h3, fun k hk hka hik => ?_⟩
    by_cases e : k = t
    · rw [e] at hik; exact absurd hik hn
    · exact h4 k (by omega) hka hik
theorem IsAr.first (h : IsAr m r i t (-1)) (hn : In m r i t) : IsAr m r i (t + 1) t := by
  rcases h with ⟨-, h2⟩ | ⟨a, h1, -⟩
  · refine .inr ⟨t, rfl, by omega, hn, fun k hk _ hik => absurd hik (h2 k (by omega))⟩
  · omega
theorem IsAr.nearer {a : Nat} (h : IsAr m r i t (a : Int)) (hn : In m r i t) (hta : In m r t a) : IsAr m r i (t + 1) t := by
  rcases h with ⟨h1, -⟩ | ⟨b, h1, h2, h3, h4⟩
  · omega
  · obtain rfl : b = a := by omega
    refine .inr ⟨t, rfl, by omega, hn, fun k hk hkt hik => ?_⟩
    by_cases e : k = b
    · rw [e]; exact hta
    · exact hta.trans (h4 k (by omega) e hik) (fun e => hkt e.symm)
theorem IsAr.farther (hm : m.Ok) (hr : IsReg m r) (hi : ∃ p, p < m.n ∧ r p = i) {a : Nat} (h : IsAr m r i t (a : Int)) (hn : In m r i t) (hta : ¬ In m r t a) : IsAr m r i (t + 1) a := by
  rcases h with ⟨h1, -⟩ | ⟨b, h1, h2, h3, h4⟩
  · omega
  · obtain rfl : b = a := by omega
    refine .inr ⟨b, rfl, by omega, h3, fun k hk hkb hik => ?_⟩
    by_cases e : k = t
    · subst e
      rcases In.tree hm hr hi h3 hik (fun e => hkb e.symm) with h | h
      · exact h
      · exact absurd h hta
    · exact h4 k (by omega) hkb hik
/-- the number of the first t regions that i lies within -/
noncomputable def inCount (m : Mp) (r : Nat → Nat) (i : Nat) : Nat → Nat
  | 0 => 0
  | t + 1 => inCount m r i t + (open Classical in if In m r i t then 1 else 0)
theorem inCount_add (h : In m r i t) : inCount m r i (t + 1) = inCount m r i t + 1 := by rw [inCount, if_pos h]
theorem inCount_skip (h : ¬ In m r i t) : inCount m r i (t + 1) = inCount m r i t := by rw [inCount, if_neg h]; rfl
theorem inCount_le : ∀ t, inCount m r i t ≤ t
  | 0 => Nat.le_refl _
  | t + 1 => by
    by_cases h : In m r i t
    · rw [inCount_add h]; have := inCount_le t; omega
    · rw [inCount_skip h]; have := inCount_le t; omega
theorem inCount_zero : ∀ t, (inCount m r i t = 0 ↔ ∀ k, k < t → ¬ In m r i k)
  | 0 => ⟨fun _ k hk => absurd hk (Nat.not_lt_zero _), fun _ => rfl⟩
  | t + 1 => by
    have ih := inCount_zero t
    by_cases h : In m r i t
    · rw [inCount_add h]
      exact ⟨fun e => by omega, fun e => absurd h (e t (by omega))⟩
    · rw [inCount_skip h, ih]
      refine ⟨fun e k hk => ?_, fun e k hk => e k (by omega)⟩
      by_cases ek : k = t
      · rw [ek]; exact h
      · exact e k (by omega)
theorem inCount_same {j : Nat} : ∀ t, (∀ k, k < t → (In m r i k ↔ In m r j k)) → inCount m r i t = inCount m r j t
  | 0, _ => rfl
  | t + 1, h => by
    have ih := inCount_same t (fun k hk => h k (by omega))
    by_cases hi : In m r i t
    · rw [inCount_add hi, inCount_add ((h t (by omega)).1 hi), ih]
    · rw [inCount_skip hi, inCount_skip (fun hj => hi ((h t (by omega)).2 hj)), ih]
theorem inCount_one {a : Nat} (ha : In m r i a) (haa : ¬ In m r a a) : ∀ t, a < t → (∀ k, k < t → k ≠ a → (In m r i k ↔ In m r a k)) → inCount m r i t = inCount m r a t + 1
  | 0, h, _ => absurd h (Nat.not_lt_zero _)
  | t + 1, h, hk => by
    by_cases e : a = t
    · subst e
      rw [inCount_add ha, inCount_skip haa, inCount_same a fun k hk' => hk k (by omega) (by omega)]
    · have ih := inCount_one ha haa t (by omega) (fun k hk' => hk k (by omega))
      by_cases hi : In m r i t
      · rw [inCount_add hi, inCount_add ((hk t (by omega) (fun e' => e e'.symm)).1 hi), ih]
      · rw [inCount_skip hi, inCount_skip (fun hj => hi ((hk t (by omega) (fun e' => e e'.symm)).2 hj)), ih]
/-- the region around an enclave has a depth that is 1 less -/
theorem IsAr.depth (hm : m.Ok) {a T : Nat} (hT : ∀ k, k < T → ∃ p, p < m.n ∧ r p = k) (hiT : i < T) (h : IsAr m r i T (a : Int)) : inCount m r i T = inCount m r a T + 1 := by
  rcases h with ⟨h1, -⟩ | ⟨b, h1, h2, h3, h4⟩
  · omega
  · obtain rfl : b = a := by omega
    refine inCount_one h3 (fun h => h.1 rfl) T h2 fun k hk hkb => ⟨h4 k hk hkb, fun hbk => h3.trans hbk fun e => ?_⟩
    subst e
    exact In.asymm hm (hT i hiT) h3 hbk
end
end Go.Proofs.Ytiacgaplhndlnaa
