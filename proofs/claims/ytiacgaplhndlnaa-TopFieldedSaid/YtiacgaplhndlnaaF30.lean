/-
  Parts of the proof, in the order in which they build: EnF, EnG, EnL.
-/
import Derived.Test.YtiacgaplhndlnaaF7
set_option linter.unusedVariables false
set_option linter.unusedSimpArgs false
/-
  Maps in plain words: a deed of an outermost enclave leaves as it is who has what in the end.
-/
namespace Go.Proofs.Ytiacgaplhndlnaa

/-- a region that lies within none -/
def Outer (m : Mp) (r : Nat → Nat) (t : Nat) : Prop := ∀ k, ¬ In m r t k
/-- plot p lies in, or within, an outermost region of owner o -/
def Hull (m : Mp) (r : Nat → Nat) (p : Nat) (o : Int) : Prop := ∃ q, q < m.n ∧ Outer m r (r q) ∧ (r p = r q ∨ In m r (r p) (r q)) ∧ m.own q = o
section
variable {m m' : Mp} {r r' : Nat → Nat}
theorem IsReg.own (h : IsReg m r) {p q : Nat} (hp : p < m.n) (hq : q < m.n) (e : r p = r q) : m.own p = m.own q := ((h.same p q hp hq).1 e).own.symm
theorem Hull.unique (hm : m.Ok) (hr : IsReg m r) {p : Nat} (hp : p < m.n) {o o' : Int} (h : Hull m r p o) (h' : Hull m r p o') : o = o' := by
  obtain ⟨q, hq, h1, h2, h3⟩ := h
  obtain ⟨q', hq', h1', h2', h3'⟩ := h'
  have e : r q = r q' := by
    rcases h2 with h2 | h2
    · rcases h2' with h2' | h2'
      · rw [← h2, ← h2']
      · rw [h2] at h2'; exact absurd h2' (h1 _)
    · rcases h2' with h2' | h2'
      · rw [h2'] at h2; exact absurd h2 (h1' _)
      · apply Classical.byContradiction
        intro hne
        rcases In.tree hm hr ⟨p, hp, rfl⟩ h2 h2' hne with h5 | h5
        · exact h1 _ h5
        · exact h1' _ h5
  rw [← h3, ← h3']; exact hr.own hq hq' e
/-- m' is m behind the deed of region i, which lies within the outermost region x alone, and beside it -/
structure Deed (m m' : Mp) (r r' : Nat → Nat) (i x : Nat) : Prop where
  ok : m.Ok
  ok' : m'.Ok
  wd : m'.wd = m.wd
  n : m'.n = m.n
  reg : IsReg m r
  reg' : IsReg m' r'
  inx : In m r i x
  only : ∀ k, In m r i k → k = x
  out : Outer m r x
  side : ∃ p q, p < m.n ∧ q < m.n ∧ r p = i ∧ r q = x ∧ nb m p q
  own : ∀ p, p < m.n → r p ≠ i → m'.own p = m.own p
  give : ∀ p q, p < m.n → q < m.n → r p = i → r q = x → m'.own p = m.own q
section
variable {i x : Nat} {p q : Nat}
theorem Deed.nbs (D : Deed m m' r r' i x) : nb m' p q ↔ nb m p q := by unfold nb; rw [D.wd, D.n]
theorem Deed.rim (D : Deed m m' r r' i x) : rimB m' p = rimB m p := by unfold rimB; rw [D.wd, D.n]
/-- what was in one region is so -/
theorem Deed.keep (D : Deed m m' r r' i x) (hp : p < m.n) (hq : q < m.n) (e : r p = r q) : r' p = r' q := by
  rw [D.reg'.same p q (by rw [D.n]; exact hp) (by rw [D.n]; exact hq)]
  have hs := (D.reg.same p q hp hq).1 e
  obtain ⟨y, z, -, hz, -, hzx, -⟩ := D.side
  -- all plots of the region have one owner in m', too
  have one : ∀ a, a < m.n → r a = r p → m'.own a = m'.own p := fun a ha ea => by
    by_cases e2 : r p = i
    · rw [D.give a z ha hz (by rw [ea]; exact e2) hzx, D.give p z hp hz e2 hzx]
    · rw [D.own a ha (by rw [ea]; exact e2), D.own p hp e2, D.reg.own ha hp ea]
  have : ∀ a b, Cn m (OfO m (m.own p)) a b → r a = r p → Cn m' (OfO m' (m'.own p)) a b := by
    intro a b hab
    induction hab with
    | refl ha => intro ea; exact .refl ⟨by rw [D.n]; exact ha.1, one _ ha.1 ea⟩
    | @step a b c ha hn hbc ih =>
      intro ea
      have hb := Cn.left hbc
      have eb : r b = r p := by
        rw [← ea]
        exact ((D.reg.same a b ha.1 hb.1).2 (.step ⟨ha.1, rfl⟩ hn (.refl ⟨hb.1, by rw [hb.2, ha.2]⟩))).symm
      exact .step ⟨by rw [D.n]; exact ha.1, one _ ha.1 ea⟩ (D.nbs.2 hn) (ih eb)
  exact this p q hs rfl
/-- the two are one -/
theorem Deed.join (D : Deed m m' r r' i x) (hp : p < m.n) (hq : q < m.n) (hpi : r p = i) (hqx : r q = x) : r' p = r' q := by
  obtain ⟨y, z, hy, hz, hyi, hzx, hn⟩ := D.side
  rw [D.keep hp hy (by rw [hpi, hyi]), D.keep hq hz (by rw [hqx, hzx])]
  rw [D.reg'.same y z (by rw [D.n]; exact hy) (by rw [D.n]; exact hz)]
  refine .step ⟨by rw [D.n]; exact hy, rfl⟩ (D.nbs.2 hn) (.refl ⟨by rw [D.n]; exact hz, ?_⟩)
  rw [D.give y z hy hz hyi hzx, D.own z hz (by rw [hzx]; exact fun e => D.inx.1 e.symm)]
/-- what has come to x lay within it -/
theorem Deed.came (D : Deed m m' r r' i x) (hp : p < m.n) (hq : q < m.n) (hqx : r q = x) (e : r' p = r' q) : r p = x ∨ In m r (r p) x := by
  by_cases e1 : r p = x
  · exact .inl e1
  by_cases e2 : r p = i
  · rw [e2]; exact .inr D.inx
  right
  refine ⟨e1, ?_⟩
  rintro ⟨a, b, ha, hab, hb⟩
  have hs := (D.reg'.same p q (by rw [D.n]; exact hp) (by rw [D.n]; exact hq)).1 e
  have hxi : x ≠ i := fun e => D.inx.1 e.symm
  -- the way in m' from p to q; the first plot of x or i on it
  rcases Cn.first (fun k => r k = x ∨ r k = i) hs with h1 | ⟨k, hk, hkA, -, h2⟩
  · exact (Cn.right h1).2 (.inl hqx)
  · rcases h2 with rfl | ⟨j, hn, hj⟩
    · rcases hk with hk | hk
      · exact e1 hk
      · exact e2 hk
    · -- ahead of it all is of the region of p
      have back : ∀ u v, Cn m' (fun k => OfO m' (m'.own p) k ∧ ¬ (r k = x ∨ r k = i)) u v → r u = r p → r v = r p := by
        intro u v huv
        induction huv with
        | refl _ => exact fun h => h
        | @step u v w hu hn hvw ih =>
          intro eu
          have hv := Cn.left hvw
          have hun : u < m.n := by have := hu.1.1; rw [D.n] at this; exact this
          have hvn : v < m.n := by have := hv.1.1; rw [D.n] at this; exact this
          refine ih ?_
          rw [← eu]
          refine ((D.reg.same u v hun hvn).2 (.step ⟨hun, rfl⟩ (D.nbs.1 hn) (.refl ⟨hvn, ?_⟩))).symm
          rw [← D.own u hun (fun e => hu.2 (.inr e)), ← D.own v hvn (fun e => hv.2 (.inr e)), hu.1.2, hv.1.2]
      have hjr := back _ _ hj rfl
      have hjA := Cn.right hj
      have hjn : j < m.n := by have := hjA.1.1; rw [D.n] at this; exact this
      have hkn : k < m.n := by have := hkA.1; rw [D.n] at this; exact this
      rcases hk with hk | hk
      · -- x itself beside a plot of its owner
        refine e1 ?_
        rw [← hjr, ← hk]
        refine (D.reg.same j k hjn hkn).2 (.step ⟨hjn, rfl⟩ (D.nbs.1 hn) (.refl ⟨hkn, ?_⟩))
        rw [← D.own j hjn (fun e => hjA.2 (.inr e)), ← D.own k hkn (by rw [hk]; exact hxi), hjA.1.2, hkA.2]
      · -- i beside the region of p, which has a way out
        refine D.inx.2 ⟨k, b, hk, ?_, hb⟩
        have han := (Cn.left hab).1
        exact .step ⟨hkn, by rw [hk]; exact D.inx.1⟩ (nb_symm D.ok hjn (D.nbs.1 hn)) ((D.reg.go hjn han (by rw [hjr, ha]) (by rw [hjr]; exact e1)).trans hab)
/-- what has not come to x is as it was -/
theorem Deed.far (D : Deed m m' r r' i x) {z : Nat} (hz : z < m.n) (hzx : r z = x) (hp : p < m.n) (hq : q < m.n) (hne : r' p ≠ r' z) (e : r' p = r' q) : r p = r q := by
  have hs := (D.reg'.same p q (by rw [D.n]; exact hp) (by rw [D.n]; exact hq)).1 e
  have hnp : m'.n = m.n := D.n
  have no : ∀ k, k < m.n → r' p = r' k → r k ≠ i := fun k hk ek hki => hne (by rw [ek]; exact D.join hk hz hki hzx)
  rw [D.reg.same p q hp hq]
  have hpi := no p hp rfl
  have : ∀ a b, Cn m' (OfO m' (m'.own p)) a b → r' p = r' a → Cn m (OfO m (m.own p)) a b := by
    intro a b hab
    induction hab with
    | @refl a ha =>
      intro ea
      have han : a < m.n := by rw [← hnp]; exact ha.1
      exact .refl ⟨han, by rw [← D.own a han (no a han ea), ← D.own p hp hpi]; exact ha.2⟩
    | @step a b c ha hn hbc ih =>
      intro ea
      have hb := Cn.left hbc
      have han : a < m.n := by rw [← hnp]; exact ha.1
      refine .step ⟨han, by rw [← D.own a han (no a han ea), ← D.own p hp hpi]; exact ha.2⟩ (D.nbs.1 hn) (ih ?_)
      rw [ea]
      exact (D.reg'.same a b ha.1 hb.1).2 (.step ⟨ha.1, rfl⟩ hn (.refl ⟨hb.1, by rw [hb.2, ha.2]⟩))
  exact this p q hs rfl
theorem cn_map {A B : Nat → Prop} (hn : ∀ p q, nb m p q → nb m' p q) (hA : ∀ k, A k → B k) {a b : Nat} (h : Cn m A a b) : Cn m' B a b := by
  induction h with
  | refl h => exact .refl (hA _ h)
  | step ha hh _ ih => exact .step (hA _ ha) (hn _ _ hh) ih
/-- an outermost region stays one -/
theorem Deed.outer (D : Deed m m' r r' i x) (hp : p < m.n) (h : Outer m r (r p)) : Outer m' r' (r' p) := by
  obtain ⟨-, z, -, hz, -, hzx, -⟩ := D.side
  intro k' hk
  refine hk.2 ?_
  by_cases e : k' = r' z
  · -- without what x has become
    have hne : r' p ≠ r' z := fun e2 => hk.1 (by rw [e2, e])
    have hpx : r p ≠ x := fun e2 => hne (D.keep hp hz (by rw [e2, hzx]))
    have ho : OutW m r (r p) x := Classical.byContradiction fun h2 => h x ⟨hpx, h2⟩
    obtain ⟨a, b, ha, hab, hb⟩ := ho
    have han := (Cn.left hab).1
    refine ⟨a, b, D.keep han hp ha, ?_, by rw [D.rim]; exact hb⟩
    -- no plot on the way has come to x: from it there were no way out
    have : ∀ u v, Cn m (Free m r x) u v → rimB m v = true → Cn m' (Free m' r' k') u v := by
      intro u v huv
      induction huv with
      | @refl u hu =>
        intro hv
        refine .refl ⟨by rw [D.n]; exact hu.1, fun e2 => ?_⟩
        rcases D.came hu.1 hz hzx (by rw [e2, e]) with h3 | h3
        · exact hu.2 h3
        · exact h3.2 ⟨u, u, rfl, .refl hu, hv⟩
      | @step u v w hu hn hvw ih =>
        intro hw
        refine .step ⟨by rw [D.n]; exact hu.1, fun e2 => ?_⟩ (D.nbs.2 hn) (ih hw)
        rcases D.came hu.1 hz hzx (by rw [e2, e]) with h3 | h3
        · exact hu.2 h3
        · exact h3.2 ⟨u, w, rfl, .step hu hn hvw, hw⟩
    exact this a b hab hb
  · by_cases hex : ∃ l, l < m.n ∧ r' l = k'
    · obtain ⟨l, hl, hlk⟩ := hex
      have hpl : r p ≠ r l := fun e2 => hk.1 (by rw [D.keep hp hl e2, hlk])
      have ho : OutW m r (r p) (r l) := Classical.byContradiction fun h2 => h _ ⟨hpl, h2⟩
      obtain ⟨a, b, ha, hab, hb⟩ := ho
      refine ⟨a, b, D.keep (Cn.left hab).1 hp ha, cn_map (fun _ _ => D.nbs.2) (fun u hu => ⟨by rw [D.n]; exact hu.1, fun e2 => hu.2 ?_⟩) hab, by rw [D.rim]; exact hb⟩
      exact (D.far hz hzx hl hu.1 (by rw [hlk]; exact e) (by rw [hlk, e2])).symm
    · obtain ⟨b, hc, hb⟩ := to_rim D.ok _ p hp rfl
      exact ⟨p, b, rfl, cn_map (fun _ _ => D.nbs.2) (fun u hu => ⟨by rw [D.n]; exact hu, fun e2 => hex ⟨u, hu, e2⟩⟩) hc, by rw [D.rim]; exact hb⟩
/-- who has what in the end stays as it is -/
theorem Deed.hull (D : Deed m m' r r' i x) (hp : p < m.n) {o : Int} (h : Hull m r p o) : Hull m' r' p o := by
  obtain ⟨t, ht, h1, h2, h3⟩ := h
  obtain ⟨y, z, hy, hz, hyi, hzx, -⟩ := D.side
  have hti : r t ≠ i := fun e => h1 x (by rw [e]; exact D.inx)
  refine ⟨t, by rw [D.n]; exact ht, D.outer ht h1, ?_, by rw [D.own t ht hti]; exact h3⟩
  rcases h2 with h2 | h2
  · exact .inl (D.keep hp ht h2)
  · by_cases e : r' p = r' t
    · exact .inl e
    · refine .inr ⟨e, ?_⟩
      rintro ⟨a, b, ha, hab, hb⟩
      have han : a < m.n := by have := (Cn.left hab).1; rw [D.n] at this; exact this
      have e2 : r p ≠ x := fun e3 => D.out (r t) (by rw [← e3]; exact h2)
      by_cases e1 : r' p = r' z
      · -- p has come to x: then t is x
        have htx : r t = x := by
          rcases D.came hp hz hzx e1 with h5 | h5
          · exact absurd h5 e2
          · apply Classical.byContradiction
            intro hne
            rcases In.tree D.ok D.reg ⟨p, hp, rfl⟩ h5 h2 (fun e => hne e.symm) with h6 | h6
            · exact D.out _ h6
            · exact h1 _ h6
        exact e (by rw [e1]; exact D.keep hz ht (by rw [hzx, htx]))
      · have hra : r a = r p := (D.far hz hzx hp han e1 ha.symm).symm
        exact h2.2 ⟨a, b, hra, cn_map (fun _ _ => D.nbs.1) (fun u hu => ⟨by rw [← D.n]; exact hu.1, fun e3 => hu.2 (D.keep (by rw [← D.n]; exact hu.1) ht e3)⟩) hab, by rw [← D.rim]; exact hb⟩
end
end
end Go.Proofs.Ytiacgaplhndlnaa
/-
  Maps in plain words: the first region of depth 1 lies beside the one around it.
-/
namespace Go.Proofs.Ytiacgaplhndlnaa

section
variable {m : Mp} {r : Nat → Nat} {i k T : Nat}
theorem IsReg.order (h : IsReg m r) {p q : Nat} (hp : ∀ q, q < p → r q ≠ i) (hpn : p < m.n) (hq : q < p) : r q < i := by
  have h1 := hp q hq
  rcases Nat.lt_trichotomy (r q) i with h2 | h2 | h2
  · exact h2
  · exact absurd h2 h1
  · obtain ⟨q', h3, h4⟩ := h.grow q (by omega) i h2
    exact absurd h4 (hp q' (by omega))
theorem first_plot {p : Nat} : ∀ n, p < n → r p = i → ∃ q, q ≤ p ∧ r q = i ∧ ∀ s, s < q → r s ≠ i := by
  intro n _ hp
  induction p using Nat.strongRecOn with
  | ind p ih =>
    by_cases h : ∃ s, s < p ∧ r s = i
    · obtain ⟨s, h1, h2⟩ := h
      obtain ⟨q, h3, h4⟩ := ih s h1 (by omega) h2
      exact ⟨q, by omega, h4⟩
    · exact ⟨p, Nat.le_refl _, hp, fun s h1 h2 => h ⟨s, h1, h2⟩⟩
theorem inCount_pos {t : Nat} : 0 < inCount m r i t ↔ ∃ k, k < t ∧ In m r i k := by
  have h := inCount_zero (m := m) (r := r) (i := i) t
  constructor
  · intro h1
    apply Classical.byContradiction
    intro h2
    have := h.2 fun k hk hik => h2 ⟨k, hk, hik⟩
    omega
  · rintro ⟨k, hk, hik⟩
    apply Nat.pos_of_ne_zero
    intro e
    exact h.1 e k hk hik
theorem inCount_two : ∀ {t : Nat}, 2 ≤ inCount m r i t → ∃ a b, a < t ∧ b < t ∧ a ≠ b ∧ In m r i a ∧ In m r i b
  | 0, h => absurd h (by show ¬ 2 ≤ 0; omega)
  | t + 1, h => by
    by_cases e : In m r i t
    · rw [inCount_add e] at h
      obtain ⟨k, h1, h2⟩ := inCount_pos.1 (show 0 < inCount m r i t by omega)
      exact ⟨k, t, by omega, by omega, by omega, h2, e⟩
    · rw [inCount_skip e] at h
      obtain ⟨a, b, h1, h2, h3⟩ := inCount_two h
      exact ⟨a, b, by omega, by omega, h3⟩
theorem inCount_uniq : ∀ {t : Nat}, inCount m r i t = 1 → ∀ {a b : Nat}, a < t → b < t → In m r i a → In m r i b → a = b
  | 0, h, _, _, _, _, _, _ => absurd h (by show ¬ 0 = 1; omega)
  | t + 1, h, a, b, ha, hb, hia, hib => by
    by_cases e : In m r i t
    · rw [inCount_add e] at h
      have h0 : inCount m r i t = 0 := by omega
      have z := (inCount_zero (m := m) (r := r) (i := i) t).1 h0
      have ea : a = t := Classical.byContradiction fun hne => z a (by omega) hia
      have eb : b = t := Classical.byContradiction fun hne => z b (by omega) hib
      rw [ea, eb]
    · rw [inCount_skip e] at h
      have ea : a ≠ t := fun h => e (h ▸ hia)
      have eb : b ≠ t := fun h => e (h ▸ hib)
      exact inCount_uniq h (by omega) (by omega) hia hib
/-- what lies around is a region -/
theorem In.lt (hm : m.Ok) (hT : IsMany m r T) (hi : ∃ p, p < m.n ∧ r p = i) (h : In m r i k) : k < T := by
  apply Classical.byContradiction
  intro hk
  obtain ⟨p, hp, hpi⟩ := hi
  obtain ⟨q, hc, hq⟩ := to_rim hm _ p hp rfl
  exact h.2 ⟨p, q, hpi, hc.mono fun y hy => ⟨hy, fun e => hk (by rw [← e]; exact hT.lt y hy)⟩, hq⟩
theorem outer_iff (hm : m.Ok) (hT : IsMany m r T) (hi : ∃ p, p < m.n ∧ r p = i) : Outer m r i ↔ inCount m r i T = 0 := by
  rw [inCount_zero]
  exact ⟨fun h k _ => h k, fun h k hk => h k (hk.lt hm hT hi) hk⟩
/-- a region that lies within some, or one of these, has depth 1 -/
theorem depth_one (hm : m.Ok) (hr : IsReg m r) (hT : IsMany m r T) : ∀ (n i : Nat), i < T → inCount m r i T ≤ n → 0 < inCount m r i T → ∃ y, y < T ∧ (y = i ∨ In m r i y) ∧ inCount m r y T = 1
  | 0, i, _, h1, h2 => by omega
  | n + 1, i, hi, h1, h2 => by
    by_cases e : inCount m r i T = 1
    · exact ⟨i, hi, .inl rfl, e⟩
    · obtain ⟨a, b, ha, hb, hab, hia, hib⟩ := inCount_two (show 2 ≤ inCount m r i T by omega)
      have go : ∀ c, c < T → In m r i c → 0 < inCount m r c T → ∃ y, y < T ∧ (y = i ∨ In m r i y) ∧ inCount m r y T = 1 := fun c hc hic h0 => by
        have hd := In.deeper hm hT.ex hi hic hc
        obtain ⟨y, h3, h4, h5⟩ := depth_one hm hr hT n c hc (by omega) h0
        refine ⟨y, h3, .inr ?_, h5⟩
        rcases h4 with rfl | h4
        · exact hic
        · exact hic.trans h4 fun e => by subst e; exact In.asymm hm (hT.ex i hi) hic h4
      rcases In.tree hm hr (hT.ex i hi) hia hib hab with h3 | h3
      · exact go a ha hia (inCount_pos.2 ⟨b, hb, h3⟩)
      · exact go b hb hib (inCount_pos.2 ⟨a, ha, h3⟩)
/-- straight up one meets what lies around -/
theorem up_meets (hm : m.Ok) : ∀ (n q : Nat), q ≤ n → q < m.n → (∀ s, s ≤ q → r s ≠ k) → ∃ b, Cn m (Free m r k) q b ∧ rimB m b = true
  | n, q, hqn, hq, h => by
    by_cases e : q < m.wd
    · exact ⟨q, .refl ⟨hq, h q (Nat.le_refl _)⟩, by unfold rimB; simp [e]⟩
    · match n, hqn with
      | 0, hqn => have := hm.w0; omega
      | n + 1, hqn =>
        have := hm.w0
        obtain ⟨b, h1, h2⟩ := up_meets hm n (q - m.wd) (by omega) (by omega) (fun s hs => h s (by omega))
        exact ⟨b, .step ⟨hq, h q (Nat.le_refl _)⟩ (mem_nbr.2 (.inr (.inr (.inl ⟨by omega, by omega⟩)))) h1, h2⟩
/-- the first region of depth 1 lies beside the one around it -/
theorem first_deed (hm : m.Ok) (hr : IsReg m r) (hT : IsMany m r T) (hi : i < T) (h1 : inCount m r i T = 1) (hf : ∀ j, j < i → inCount m r j T ≠ 1) :
    ∃ x, x < T ∧ In m r i x ∧ (∀ k, In m r i k → k = x) ∧ Outer m r x ∧ ∃ p q, p < m.n ∧ q < m.n ∧ r p = i ∧ r q = x ∧ nb m p q := by
  obtain ⟨x, hx, hix⟩ := inCount_pos.1 (show 0 < inCount m r i T by omega)
  have only : ∀ k, In m r i k → k = x := fun k hk => inCount_uniq h1 (hk.lt hm hT (hT.ex i hi)) hx hk hix
  have out : Outer m r x := fun k hk => by
    have h2 : In m r i k := hix.trans hk fun e => by subst e; exact In.asymm hm (hT.ex i hi) hix hk
    rw [only k h2] at hk
    exact hk.1 rfl
  refine ⟨x, hx, hix, only, out, ?_⟩
  obtain ⟨p0, hp0, hpi0⟩ := hT.ex i hi
  obtain ⟨p, hpp, hpi, hfp⟩ := first_plot m.n hp0 hpi0
  have hp : p < m.n := by omega
  have hrow : ¬ p < m.wd := fun e => hix.2 ⟨p, p, hpi, .refl ⟨hp, by rw [hpi]; exact hix.1⟩, by unfold rimB; simp [e]⟩
  have hw := hm.w0
  obtain ⟨q, hqe⟩ : ∃ q, q = p - m.wd := ⟨_, rfl⟩
  have hq : q < m.n := by omega
  have hnq : nb m p q := mem_nbr.2 (.inr (.inr (.inl ⟨by omega, by omega⟩)))
  refine ⟨p, q, hp, hq, hpi, ?_, hnq⟩
  have hqi := hr.order hfp hp (show q < p by omega)
  -- a way out of the region above without x would be one of i
  have up : ¬ (r q ≠ x ∧ OutW m r (r q) x) := by
    rintro ⟨hne, a, b, ha, hab, hb⟩
    exact hix.2 ⟨p, b, hpi, .step ⟨hp, by rw [hpi]; exact hix.1⟩ hnq ((hr.go hq (Cn.left hab).1 ha.symm hne).trans hab), hb⟩
  apply Classical.byContradiction
  intro hne
  have hqx : In m r (r q) x := ⟨hne, fun h => up ⟨hne, h⟩⟩
  -- then it lies within some region of depth 1, which is met straight up
  have hqT := hT.lt q hq
  obtain ⟨y, hy, h2, h3⟩ := depth_one hm hr hT _ (r q) hqT (Nat.le_refl _) (inCount_pos.2 ⟨x, hx, hqx⟩)
  rcases h2 with rfl | h2
  · exact hf (r q) hqi h3
  · by_cases h4 : ∃ s, s ≤ q ∧ r s = y
    · obtain ⟨s, h5, h6⟩ := h4
      have := hr.order hfp hp (show s < p by omega)
      exact hf y (by omega) h3
    · obtain ⟨b, h5, h6⟩ := up_meets hm q q (Nat.le_refl _) hq (fun s hs e => h4 ⟨s, hs, e⟩)
      exact h2.2 ⟨q, b, rfl, h5, h6⟩
/-- without a region of depth 1 nothing lies within anything -/
theorem none_deed (hm : m.Ok) (hr : IsReg m r) (hT : IsMany m r T) (h : ∀ j, j < T → inCount m r j T ≠ 1) {p : Nat} (hp : p < m.n) : Outer m r (r p) := by
  rw [outer_iff hm hT ⟨p, hp, rfl⟩]
  rcases Nat.eq_zero_or_pos (inCount m r (r p) T) with h0 | h0
  · exact h0
  · obtain ⟨y, h1, -, h2⟩ := depth_one hm hr hT _ (r p) (hT.lt p hp) (Nat.le_refl _) h0
    exact absurd h2 (h y h1)
theorem Outer.hull {p : Nat} (hp : p < m.n) (h : Outer m r (r p)) : Hull m r p (m.own p) := ⟨p, hp, h, .inl rfl, rfl⟩
end
end Go.Proofs.Ytiacgaplhndlnaa
/-
  Maps in plain words: plots of the rim as the reference finds them, and the outermost region around one.
-/
namespace Go.Proofs.Ytiacgaplhndlnaa

/-- a plot of the first or last row or column, by its column and row -/
def edgeB (wd N p : Nat) : Bool := decide (p % wd = 0) || decide (p / wd = 0) || decide (((p % wd : Nat) : Int) = (wd : Int) - 1) || decide (((p / wd : Nat) : Int) = ((N / wd : Nat) : Int) - 1)
theorem edge_rim {m : Mp} (hm : m.Ok) {p : Nat} (hp : p < m.n) : edgeB m.wd m.n p = rimB m p := by
  have hw := hm.w0
  obtain ⟨k, hk⟩ := Nat.dvd_of_mod_eq_zero hm.dv
  have e1 : p / m.wd = 0 ↔ p < m.wd := by
    rw [Nat.div_eq_zero_iff]
    constructor
    · rintro (h | h) <;> omega
    · exact fun h => .inr h
  have e2 : m.n / m.wd = k := by rw [hk]; exact Nat.mul_div_cancel_left k hw
  have hdm := Nat.div_add_mod p m.wd
  have hlt := Nat.mod_lt p hw
  have e3 : (((p / m.wd : Nat) : Int) = ((m.n / m.wd : Nat) : Int) - 1) ↔ m.n ≤ p + m.wd := by
    rw [e2]
    have hpk : p / m.wd < k := by rw [Nat.div_lt_iff_lt_mul hw, Nat.mul_comm, ← hk]; exact hp
    constructor
    · intro h
      have h1 : p / m.wd + 1 = k := by omega
      rw [hk, ← h1, Nat.mul_add]
      omega
    · intro h
      have h1 : ¬ p / m.wd + 1 < k := fun h1 => by
        have h2 : m.wd * (p / m.wd + 2) ≤ m.wd * k := Nat.mul_le_mul_left _ (by omega)
        rw [← hk, Nat.mul_add] at h2
        omega
      omega
  have e4 : (((p % m.wd : Nat) : Int) = (m.wd : Int) - 1) ↔ p % m.wd + 1 = m.wd := by omega
  unfold edgeB rimB
  rw [decide_eq_decide.2 e1, decide_eq_decide.2 e3, decide_eq_decide.2 e4]
  cases decide (p % m.wd = 0) <;> cases decide (p < m.wd) <;> cases decide (p % m.wd + 1 = m.wd) <;> cases decide (m.n ≤ p + m.wd) <;> rfl
section
variable {m : Mp} {r : Nat → Nat} {i x T : Nat}
/-- outwards: what lies around what lies around -/
theorem IsAr.outwards (hm : m.Ok) (hT : ∀ k, k < T → ∃ p, p < m.n ∧ r p = k) (hi : i < T) (hx : x < T) (h : In m r i x) {y : Nat} (hy : IsAr m r x T (y : Int)) : In m r i y ∧ y < T ∧ inCount m r y T < inCount m r x T := by
  rcases hy with ⟨h1, -⟩ | ⟨a, h1, h2, h3, h4⟩
  · omega
  · obtain rfl : a = y := by omega
    refine ⟨h.trans h3 fun e => by subst e; exact In.asymm hm (hT i hi) h h3, h2, In.deeper hm hT hx h3 h2⟩
theorem IsAr.outer (hm : m.Ok) (hT : IsMany m r T) (hx : x < T) (h : IsAr m r x T (-1)) : Outer m r x := by
  rcases h with ⟨-, h2⟩ | ⟨a, h1, -⟩
  · exact fun k hk => h2 k (hk.lt hm hT (hT.ex x hx)) hk
  · omega
theorem IsAr.around {y : Nat} (h : IsAr m r x T (y : Int)) : In m r x y ∧ y < T := by
  rcases h with ⟨h1, -⟩ | ⟨a, h1, h2, h3, -⟩
  · omega
  · obtain rfl : a = y := by omega
    exact ⟨h3, h2⟩
end
end Go.Proofs.Ytiacgaplhndlnaa
