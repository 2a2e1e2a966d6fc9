/-
  Parts of the proof, in the order in which they build: Iso, IsoB, MadeF.
-/
import Derived.Test.YtdgibmgifgdpbaaG14
import Derived.Test.YtdgibmgifgdpbaaG12
import Derived.Test.YtdgibmgifgdpbaaG8
import Derived.Test.YtdgibmgifgdpbaaH5
import Derived.Test.YtdgibmgifgdpbaaH10
set_option linter.unusedVariables false
set_option linter.unusedSimpArgs false
/-
  A ground that is looked at otherwise: cells that are called otherwise, and seas that are.
-/
namespace Go.Proofs.Ytdgibmgifgdpbaa

theorem IsPass.extn {g : Gd} {t t' : Nat → Int} {s : Int} {p : Nat → Int} (h : IsPass g t s p) (e : ∀ c, land g c → t c = t' c) : IsPass g t' s p :=
  ⟨h.top, fun c hc hp => R.mono (fun x hl hh => by rw [← e x hl]; exact hh) (h.sound c hc hp), fun c hc k hr => h.least c hc k (R.mono (fun x hl hh => by rw [e x hl]; exact hh) hr)⟩
theorem IsSaddle.extn {g : Gd} {t t' : Nat → Int} {r : Int} (h : IsSaddle g t r) (e : ∀ c, land g c → t c = t' c) : IsSaddle g t' r :=
  ⟨h.top, fun hr => let ⟨c, hl, ha, hh⟩ := h.hit hr; ⟨c, hl, ha, R.mono (fun x hl hh => by rw [← e x hl]; exact hh) hh⟩, fun c k ha hr => h.least c k ha (R.mono (fun x hl hh => by rw [e x hl]; exact hh) hr)⟩
/-- cell c of g is cell f c of g', sea s is sea u s; e is the way back -/
structure Iso (g g' : Gd) (f e : Nat → Nat) (u : Int → Int) : Prop where
  n : g'.n = g.n
  lt : ∀ c, c < g.n → f c < g.n
  lt' : ∀ c, c < g.n → e c < g.n
  ef : ∀ c, c < g.n → e (f c) = c
  fe : ∀ c, c < g.n → f (e c) = c
  nbr : ∀ c d, c < g.n → d < g.n → nb g c d → nb g' (f c) (f d)
  nbr' : ∀ c d, c < g.n → d < g.n → nb g' c d → nb g (e c) (e d)
  ss : ∀ c, c < g.n → g'.ss.getD (f c) 0 = u (g.ss.getD c 0)
  lo : ∀ c, c < g.n → lowT g' (f c) = lowT g c
  hi : ∀ c, c < g.n → highT g' (f c) = highT g c
  rng : ∀ c, c < g.n → 0 ≤ g.ss.getD c 0 ∧ g.ss.getD c 0 ≤ 2
  u0 : u 0 = 0
  uu : ∀ s, 0 ≤ s → s ≤ 2 → u (u s) = s
  ur : ∀ s, 0 ≤ s → s ≤ 2 → 0 ≤ u s ∧ u s ≤ 2
theorem Iso.back {g g' : Gd} {f e : Nat → Nat} {u : Int → Int} (H : Iso g g' f e u) : Iso g' g e f u := by
  have hn := H.n
  have hs : ∀ c, c < g'.n → g.ss.getD (e c) 0 = u (g'.ss.getD c 0) := fun c hc => by
    have h1 := H.ss (e c) (H.lt' c (by omega))
    rw [H.fe c (by omega)] at h1
    have h2 := H.rng (e c) (H.lt' c (by omega))
    rw [h1, H.uu _ h2.1 h2.2]
  exact ⟨by omega, fun c hc => by have := H.lt' c (by omega); omega, fun c hc => by have := H.lt c (by omega); omega, fun c hc => H.fe c (by omega), fun c hc => H.ef c (by omega),
    fun c d hc hd h => H.nbr' c d (by omega) (by omega) h, fun c d hc hd h => H.nbr c d (by omega) (by omega) h, hs,
    fun c hc => by rw [← H.lo (e c) (H.lt' c (by omega)), H.fe c (by omega)], fun c hc => by rw [← H.hi (e c) (H.lt' c (by omega)), H.fe c (by omega)],
    fun c hc => by
      have h1 := H.ss (e c) (H.lt' c (by omega))
      rw [H.fe c (by omega)] at h1
      have h2 := H.rng (e c) (H.lt' c (by omega))
      rw [h1]; exact H.ur _ h2.1 h2.2,
    H.u0, H.uu, H.ur⟩
theorem Iso.land {g g' : Gd} {f e : Nat → Nat} {u : Int → Int} (H : Iso g g' f e u) {c : Nat} (hl : land g c) : land g' (f c) :=
  ⟨by rw [H.n]; exact H.lt c hl.1, by rw [H.ss c hl.1, hl.2, H.u0]⟩
theorem at_nb {g : Gd} (hg : g.Ok) {c : Nat} (hc : c < g.n) {s : Int} : atB g c s = true ↔ ∃ k, nb g c k ∧ g.ss.getD k 0 = s := by
  unfold atB
  rw [List.any_eq_true]
  refine ⟨fun ⟨x, hx, h⟩ => ?_, fun ⟨k, hk, h⟩ => ⟨(k : Int), hk, by simpa using h⟩⟩
  obtain ⟨k, rfl, hk⟩ := mem_nbrL (N := g.n) hg.w0 hg.dv hc hx
  exact ⟨k, hx, by simpa using h⟩
theorem Iso.at {g g' : Gd} {f e : Nat → Nat} {u : Int → Int} (hg : g.Ok) (hg' : g'.Ok) (H : Iso g g' f e u) {c : Nat} (hc : c < g.n) {s : Int} (h : atB g c s = true) : atB g' (f c) (u s) = true := by
  obtain ⟨k, hk, hs⟩ := (at_nb hg hc).1 h
  have hkl := nb_lt hg hc hk
  exact (at_nb hg' (by rw [H.n]; exact H.lt c hc)).2 ⟨f k, H.nbr c k hc hkl hk, by rw [H.ss k hkl, hs]⟩
theorem Iso.reach {g g' : Gd} {f e : Nat → Nat} {u : Int → Int} (hg : g.Ok) (hg' : g'.Ok) (H : Iso g g' f e u) {t : Nat → Int} {s h : Int} {c : Nat} (hr : R g t s h c) : R g' (fun x => t (e x)) (u s) h (f c) := by
  induction hr with
  | @base c ha hb => exact .base ⟨H.land ha.1, by show t (e (f c)) ≤ h; rw [H.ef c ha.1.1]; exact ha.2⟩ (H.at hg hg' ha.1.1 hb)
  | @step c k ha hn hr ih => exact .step ⟨H.land ha.1, by show t (e (f c)) ≤ h; rw [H.ef c ha.1.1]; exact ha.2⟩ (H.nbr c k ha.1.1 (nb_lt hg ha.1.1 hn) hn) ih
theorem Iso.reach_back {g g' : Gd} {f e : Nat → Nat} {u : Int → Int} (hg : g.Ok) (hg' : g'.Ok) (H : Iso g g' f e u) {t : Nat → Int} {s h : Int} (hs : 0 ≤ s ∧ s ≤ 2) {c : Nat} (hr : R g' (fun x => t (e x)) (u s) h c) : R g t s h (e c) := by
  have h1 := H.back.reach hg' hg hr
  rw [H.uu s hs.1 hs.2] at h1
  exact R.mono (t := fun x => t (e (f x))) (fun c hl hh => by rw [H.ef c hl.1] at hh; exact hh) h1
theorem Iso.pass {g g' : Gd} {f e : Nat → Nat} {u : Int → Int} (hg : g.Ok) (hg' : g'.Ok) (H : Iso g g' f e u) {t p : Nat → Int} {s : Int} (hs : 0 ≤ s ∧ s ≤ 2) (h : IsPass g t s p) : IsPass g' (fun x => t (e x)) (u s) (fun x => p (e x)) := by
  have hn := H.n
  refine ⟨fun c hc => h.top _ (H.lt' c (by omega)), fun c hc hp => ?_, fun c hc k hr => h.least _ (H.lt' c (by omega)) k (H.reach_back hg hg' hs hr)⟩
  have h1 := H.reach hg hg' (h.sound _ (H.lt' c (by omega)) hp)
  rw [H.fe c (by omega)] at h1
  exact h1
theorem Iso.saddle {g g' : Gd} {f e : Nat → Nat} {u : Int → Int} (hg : g.Ok) (hg' : g'.Ok) (H : Iso g g' f e u) (u1 : u 1 = 1) (u2 : u 2 = 2) {t : Nat → Int} {r : Int} (h : IsSaddle g t r) : IsSaddle g' (fun x => t (e x)) r := by
  have hn := H.n
  refine ⟨h.top, fun hr => ?_, fun c k ha hk => ?_⟩
  · obtain ⟨c, hl, ha, hh⟩ := h.hit hr
    have h1 := H.at hg hg' hl.1 ha
    have h2 := H.reach hg hg' hh
    rw [u1] at h1
    rw [u2] at h2
    exact ⟨f c, H.land hl, h1, h2⟩
  · have hl := (Re.in_A hk).1
    have h1 := H.back.at hg' hg hl.1 ha
    rw [u1] at h1
    exact h.least (e c) k h1 (H.reach_back hg hg' (s := 2) (by omega) (by rw [u2]; exact hk))
/-- a way is gone back -/
theorem back_way {g : Gd} (hg : g.Ok) {A S B : Nat → Prop} {c : Nat} (hS : B c) (hA : ∀ x, A x → x < g.n) (hr : Re g A S c) : ∃ d, S d ∧ Re g A B d := by
  suffices ∀ c, Re g A S c → Re g A B c → ∃ d, S d ∧ Re g A B d from this c hr (.base (Re.in_A hr) hS)
  intro c hr
  induction hr with
  | @base c ha hs => exact fun h => ⟨c, hs, h⟩
  | @step c k ha hn hr ih =>
    exact fun h => ih (.step (Re.in_A hr) (nb_symm hg (hA c ha) hn) h)
theorem saddle_swap {g g' : Gd} {u : Int → Int} (hg : g.Ok) (hg' : g'.Ok) (H : Iso g g' id id u) (u1 : u 1 = 2) (u2 : u 2 = 1) {t : Nat → Int} {r : Int} (h : IsSaddle g t r) : IsSaddle g' t r := by
  have hn := H.n
  refine ⟨h.top, fun hr => ?_, fun c k ha hk => ?_⟩
  · obtain ⟨c, hl, ha, hh⟩ := h.hit hr
    have h1 := H.at hg hg' hl.1 ha
    rw [u1] at h1
    have h2 := H.reach hg hg' hh
    rw [u2] at h2
    obtain ⟨d, hd, hrd⟩ := back_way hg' (B := fun c => atB g' c 2 = true) h1 (fun x hx => hx.1.1) h2
    exact ⟨d, (Re.in_A hrd).1, hd, hrd⟩
  · obtain ⟨d, hd, hrd⟩ := back_way hg' (B := fun c => atB g' c 1 = true) ha (fun x hx => hx.1.1) hk
    have hdl := (Re.in_A hrd).1
    have h1 := H.back.at hg' hg hdl.1 hd
    rw [u2] at h1
    exact h.least d k h1 (H.reach_back hg hg' (s := 2) (t := t) (by omega) (by rw [u2]; exact hrd))
theorem Iso.tr {g g' : Gd} {f e : Nat → Nat} {u : Int → Int} (H : Iso g g' f e u) {t : Nat → Int} (ht : Tr g t) : Tr g' (fun x => t (e x)) := fun c hl => by
  have hl' := H.back.land hl
  have h1 := ht _ hl'
  have h2 := H.lo (e c) hl'.1
  have h3 := H.hi (e c) hl'.1
  rw [H.fe c (by have := hl.1; rw [H.n] at this; exact this)] at h2 h3
  rw [h2, h3]; exact h1
end Go.Proofs.Ytdgibmgifgdpbaa
/-
  What the answers of a ground become where it is looked at otherwise.
-/
namespace Go.Proofs.Ytdgibmgifgdpbaa

theorem len_le {f : Nat → Nat} : ∀ {L L' : List Nat}, L.Nodup → (∀ a ∈ L, ∀ b ∈ L, f a = f b → a = b) → (∀ a ∈ L, f a ∈ L') → L.length ≤ L'.length
  | [], L', _, _, _ => Nat.zero_le _
  | a :: L, L', hn, hi, hs => by
    have h1 := List.nodup_cons.1 hn
    have h2 : L.length ≤ (L'.erase (f a)).length := len_le h1.2 (fun x hx y hy => hi x (.tail _ hx) y (.tail _ hy)) (fun b hb => by
      have hne : f b ≠ f a := fun e => by
        have := hi b (.tail _ hb) a (.head _) e
        subst this
        exact h1.1 hb
      exact (List.mem_erase_of_ne hne).2 (hs b (.tail _ hb)))
    have h3 := List.length_erase_of_mem (hs a (.head _))
    have h4 := List.length_pos_of_mem (hs a (.head _))
    simp only [List.length_cons]
    omega
/-- how the seas are called: as they are, or each as the other -/
def Same (u : Int → Int) : Prop := u 1 = 1 ∧ u 2 = 2
def Swap (u : Int → Int) : Prop := u 1 = 2 ∧ u 2 = 1
def vv (u : Int → Int) (k : Int) : Int := if k = 1 ∨ k = 2 then u k else k
theorem drainI_swap (a b : Int) : drainI b a = if drainI a b = 1 then 2 else if drainI a b = 2 then 1 else drainI a b := by
  by_cases h : a = 10001 ∧ b = 10001
  · obtain ⟨rfl, rfl⟩ := h; decide
  · have h' : ¬ (b = 10001 ∧ a = 10001) := fun e => h ⟨e.2, e.1⟩
    unfold drainI
    rw [if_neg h, if_neg h']
    by_cases h1 : b < a
    · rw [if_pos h1, if_neg (by omega : ¬ a < b), if_pos h1]; rfl
    · by_cases h2 : a < b
      · rw [if_neg h1, if_pos h2, if_pos h2]; rfl
      · rw [if_neg h1, if_neg h2, if_neg h2, if_neg h1]; rfl
theorem Iso.dr {g g' : Gd} {f e : Nat → Nat} {u : Int → Int} (hg : g.Ok) (hg' : g'.Ok) (H : Iso g g' f e u) (hu : Same u ∨ Swap u) {t : Nat → Int} {c : Nat} (hc : c < g.n) {k : Int} (h : Dr g t c k) : Dr g' (fun x => t (e x)) (f c) (vv u k) := by
  obtain ⟨p, q, hp, hq, hk⟩ := h
  have h1 := H.pass hg hg' (s := 1) (by omega) hp
  have h2 := H.pass hg hg' (s := 2) (by omega) hq
  have hss := H.ss c hc
  have hr := H.rng c hc
  have hef := H.ef c hc
  rcases hu with ⟨u1, u2⟩ | ⟨u1, u2⟩
  · rw [u1] at h1
    rw [u2] at h2
    refine ⟨_, _, h1, h2, ?_⟩
    rw [← hk]
    unfold drainOf
    simp only [hss, hef]
    by_cases h0 : g.ss.getD c 0 = 0
    · simp only [h0, H.u0, if_true]
      unfold vv
      have : ∀ k, (if k = 1 ∨ k = 2 then u k else k) = k := fun k => by
        split
        · rename_i h; rcases h with rfl | rfl <;> assumption
        · rfl
      rw [this]
    · have hor : g.ss.getD c 0 = 1 ∨ g.ss.getD c 0 = 2 := by omega
      rcases hor with h | h
      · rw [h, u1]; simp [vv, u1, u2]
      · rw [h, u2]; simp [vv, u1, u2]
  · rw [u1] at h1
    rw [u2] at h2
    refine ⟨_, _, h2, h1, ?_⟩
    rw [← hk]
    unfold drainOf
    simp only [hss, hef]
    by_cases h0 : g.ss.getD c 0 = 0
    · simp only [h0, H.u0, if_true]
      rw [drainI_swap (p c) (q c)]
      unfold vv
      by_cases e1 : drainI (p c) (q c) = 1
      · simp [e1, u1]
      · by_cases e2 : drainI (p c) (q c) = 2
        · simp [e2, u2]
        · simp [e1, e2]
    · have hor : g.ss.getD c 0 = 1 ∨ g.ss.getD c 0 = 2 := by omega
      rcases hor with h | h
      · rw [h, u1]; simp [vv, u1, u2]
      · rw [h, u2]; simp [vv, u1, u2]
theorem Iso.can {g g' : Gd} {f e : Nat → Nat} {u : Int → Int} (hg : g.Ok) (hg' : g'.Ok) (H : Iso g g' f e u) (hu : Same u ∨ Swap u) {c : Nat} (hc : c < g.n) (k : Int) : (∃ t, Tr g t ∧ Dr g t c k) → ∃ t, Tr g' t ∧ Dr g' t (f c) (vv u k) :=
  fun ⟨_, ht, hd⟩ => ⟨_, H.tr ht, H.dr hg hg' hu hc hd⟩
theorem vv_vv {u : Int → Int} (hu : Same u ∨ Swap u) (k : Int) : vv u (vv u k) = k := by
  unfold vv
  rcases hu with ⟨u1, u2⟩ | ⟨u1, u2⟩
  · by_cases h1 : k = 1
    · subst h1; simp [u1]
    · by_cases h2 : k = 2
      · subst h2; simp [u2]
      · simp [h1, h2]
  · by_cases h1 : k = 1
    · subst h1; simp [u1, u2]
    · by_cases h2 : k = 2
      · subst h2; simp [u1, u2]
      · simp [h1, h2]
theorem Iso.can_iff {g g' : Gd} {f e : Nat → Nat} {u : Int → Int} (hg : g.Ok) (hg' : g'.Ok) (H : Iso g g' f e u) (hu : Same u ∨ Swap u) {c : Nat} (hc : c < g.n) (k : Int) : (∃ t, Tr g' t ∧ Dr g' t (f c) (vv u k)) ↔ ∃ t, Tr g t ∧ Dr g t c k := by
  refine ⟨fun h => ?_, H.can hg hg' hu hc k⟩
  have hn := H.n
  have hf := H.lt c hc
  have := H.back.can hg' hg hu (c := f c) (by omega) (vv u k) h
  rw [vv_vv hu, H.ef c hc] at this
  exact this
theorem Iso.sides {g g' : Gd} {f e : Nat → Nat} {u : Int → Int} (hg : g.Ok) (hg' : g'.Ok) (H : Iso g g' f e u) (hu : Same u ∨ Swap u) (hs : SpansOk g) (hs' : SpansOk g') {l l' : List (Bool × Bool × Bool)} (h : SidesG g l) (h' : SidesG g' l') :
    l'.length = l.length ∧ ∀ c, c < g.n → (Same u → l'.getD (f c) (false, false, false) = l.getD c (false, false, false)) ∧ (Swap u → l'.getD (f c) (false, false, false) = ((l.getD c (false, false, false)).2.1, (l.getD c (false, false, false)).1, (l.getD c (false, false, false)).2.2)) := by
  have hn := H.n
  obtain ⟨h1, h2⟩ := sides_say hg hs H.rng h
  obtain ⟨h3, h4⟩ := sides_say hg' hs' H.back.rng h'
  refine ⟨by omega, fun c hc => ?_⟩
  obtain ⟨a1, a2, a3⟩ := h2 c hc
  obtain ⟨b1, b2, b3⟩ := h4 (f c) (by have := H.lt c hc; omega)
  have key := fun k => H.can_iff hg hg' hu hc k
  generalize l.getD c (false, false, false) = x at *
  generalize l'.getD (f c) (false, false, false) = y at *
  obtain ⟨x1, x2, x3⟩ := x
  obtain ⟨y1, y2, y3⟩ := y
  have k3 : y3 = x3 := by
    have := key 3
    have e : vv u 3 = 3 := by unfold vv; simp
    rw [e] at this
    exact Bool.eq_iff_iff.2 (b3.trans (this.trans a3.symm))
  refine ⟨fun ⟨u1, u2⟩ => ?_, fun ⟨u1, u2⟩ => ?_⟩
  · have e1 : vv u 1 = 1 := by unfold vv; simp [u1]
    have e2 : vv u 2 = 2 := by unfold vv; simp [u2]
    have t1 := key 1
    rw [e1] at t1
    have t2 := key 2
    rw [e2] at t2
    have k1 : y1 = x1 := Bool.eq_iff_iff.2 (b1.trans (t1.trans a1.symm))
    have k2 : y2 = x2 := Bool.eq_iff_iff.2 (b2.trans (t2.trans a2.symm))
    rw [k1, k2, k3]
  · have e1 : vv u 1 = 2 := by unfold vv; simp [u1]
    have e2 : vv u 2 = 1 := by unfold vv; simp [u2]
    have t1 := key 1
    rw [e1] at t1
    have t2 := key 2
    rw [e2] at t2
    have k1 : y1 = x2 := Bool.eq_iff_iff.2 (b1.trans (t2.trans a2.symm))
    have k2 : y2 = x1 := Bool.eq_iff_iff.2 (b2.trans (t1.trans a1.symm))
    rw [k1, k2, k3]
theorem Iso.lowT {g g' : Gd} {f e : Nat → Nat} {u : Int → Int} (H : Iso g g' f e u) {c : Nat} (hc : c < g'.n) : lowT g' c = lowT g (e c) := by
  have hn := H.n
  have := H.lo (e c) (H.lt' c (by omega))
  rw [H.fe c (by omega)] at this
  exact this
theorem Iso.highT {g g' : Gd} {f e : Nat → Nat} {u : Int → Int} (H : Iso g g' f e u) {c : Nat} (hc : c < g'.n) : highT g' c = highT g (e c) := by
  have hn := H.n
  have := H.hi (e c) (H.lt' c (by omega))
  rw [H.fe c (by omega)] at this
  exact this
theorem Iso.sads {g g' : Gd} {f e : Nat → Nat} {u : Int → Int} (hg : g.Ok) (hg' : g'.Ok) (H : Iso g g' f e u) (hu : Same u ∨ Swap u) {a b a' b' : Nat → Int} {y : Int}
    (ha : IsPass g (Go.Proofs.Ytdgibmgifgdpbaa.lowT g) 1 a) (hb : IsPass g (Go.Proofs.Ytdgibmgifgdpbaa.lowT g) 2 b) (ha' : IsPass g' (Go.Proofs.Ytdgibmgifgdpbaa.lowT g') 1 a') (hb' : IsPass g' (Go.Proofs.Ytdgibmgifgdpbaa.lowT g') 2 b') :
    (∀ c, c < g.n → (f c ∈ sadList g' a' b' y ↔ c ∈ sadList g a b y)) ∧ (sadList g' a' b' y).length = (sadList g a b y).length := by
  have hn := H.n
  have h1 := (H.pass hg hg' (s := 1) (by omega) ha).extn (t' := Go.Proofs.Ytdgibmgifgdpbaa.lowT g') (fun c hc => (H.lowT hc.1).symm)
  have h2 := (H.pass hg hg' (s := 2) (by omega) hb).extn (t' := Go.Proofs.Ytdgibmgifgdpbaa.lowT g') (fun c hc => (H.lowT hc.1).symm)
  have key : ∀ c, c < g.n → (f c ∈ sadList g' a' b' y ↔ c ∈ sadList g a b y) := fun c hc => by
    have hf := H.lt c hc
    have hef := H.ef c hc
    have hm : max (a' (f c)) (b' (f c)) = max (a c) (b c) := by
      rcases hu with ⟨u1, u2⟩ | ⟨u1, u2⟩
      · rw [u1] at h1
        rw [u2] at h2
        rw [ha'.unique h1 (c := f c) (by omega), hb'.unique h2 (c := f c) (by omega), hef]
      · rw [u1] at h1
        rw [u2] at h2
        rw [ha'.unique h2 (c := f c) (by omega), hb'.unique h1 (c := f c) (by omega), hef, Int.max_comm]
    have hz : (g'.ss.getD (f c) 0 == 0) = (g.ss.getD c 0 == 0) := by
      rw [H.ss c hc, Bool.eq_iff_iff, beq_iff_eq, beq_iff_eq]
      have hr := H.rng c hc
      refine ⟨fun h => ?_, fun h => by rw [h, H.u0]⟩
      have := H.uu _ hr.1 hr.2
      rw [h, H.u0] at this
      exact this.symm
    unfold sadList
    simp only [List.mem_filter, List.mem_range, hm, hz, H.hi c hc, hn]
    exact ⟨fun h => ⟨hc, h.2⟩, fun h => ⟨hf, h.2⟩⟩
  have nd : ∀ (g : Gd) (a b : Nat → Int), (sadList g a b y).Nodup := fun g a b => List.Pairwise.filter _ List.nodup_range
  have lt : ∀ (g : Gd) (a b : Nat → Int), ∀ c ∈ sadList g a b y, c < g.n := fun g a b c hc => List.mem_range.1 (List.mem_filter.1 hc).1
  refine ⟨key, Nat.le_antisymm (len_le (f := e) (nd _ _ _) (fun x hx z hz h => ?_) (fun x hx => ?_)) (len_le (f := f) (nd _ _ _) (fun x hx z hz h => ?_) (fun x hx => (key x (lt _ _ _ x hx)).2 hx))⟩
  · have h3 := lt _ _ _ x hx
    have h4 := lt _ _ _ z hz
    rw [← H.fe x (by omega), ← H.fe z (by omega), h]
  · have h3 := lt _ _ _ x hx
    have := (key (e x) (H.lt' x (by omega))).1
    rw [H.fe x (by omega)] at this
    exact this hx
  · have h3 := lt _ _ _ x hx
    have h4 := lt _ _ _ z hz
    rw [← H.ef x (by omega), ← H.ef z (by omega), h]
theorem Iso.sad {g g' : Gd} {f e : Nat → Nat} {u : Int → Int} (hg : g.Ok) (hg' : g'.Ok) (H : Iso g g' f e u) (hu : Same u ∨ (Swap u ∧ f = id ∧ e = id)) {a b : Int}
    (ha : IsSaddle g (Go.Proofs.Ytdgibmgifgdpbaa.lowT g) a) (hb : IsSaddle g (Go.Proofs.Ytdgibmgifgdpbaa.highT g) b) : IsSaddle g' (Go.Proofs.Ytdgibmgifgdpbaa.lowT g') a ∧ IsSaddle g' (Go.Proofs.Ytdgibmgifgdpbaa.highT g') b := by
  rcases hu with ⟨u1, u2⟩ | ⟨⟨u1, u2⟩, rfl, rfl⟩
  · exact ⟨(H.saddle hg hg' u1 u2 ha).extn (fun c hc => (H.lowT hc.1).symm), (H.saddle hg hg' u1 u2 hb).extn (fun c hc => (H.highT hc.1).symm)⟩
  · exact ⟨(saddle_swap hg hg' H u1 u2 ha).extn (fun c hc => (H.lowT hc.1).symm), (saddle_swap hg hg' H u1 u2 hb).extn (fun c hc => (H.highT hc.1).symm)⟩
end Go.Proofs.Ytdgibmgifgdpbaa
/-
  Grounds that are made of a deck are right.
-/
namespace Go.Proofs.Ytdgibmgifgdpbaa
open Lim

theorem mem_getD {l : List Int} {c : Nat} (hc : c < l.length) : l.getD c 0 ∈ l := by
  rw [List.getD_eq_getElem?_getD, List.getElem?_eq_getElem hc]
  exact List.getElem_mem hc
theorem inB_t {n a b : Int} (h : a ≤ n ∧ n ≤ b) : inB n a b = true := inB_iff.2 h
/-- a ground whose seas do not meet is right -/
theorem open_zero {m N : Nat} {hs : List (Int × Int)} {ss : List Int} (hm : 0 < m) (hN : 2 ≤ N) (hN2 : N ≤ 100) (hd : N % m = 0) (hl : hs.length = N) (hh : ∀ c, c < N → 0 ≤ (hs.getD c (0, 0)).1 ∧ (hs.getD c (0, 0)).1 ≤ (hs.getD c (0, 0)).2 ∧ (hs.getD c (0, 0)).2 ≤ 10000)
    (hs2 : ss.length = N) (hv : ∀ c, c < N → 0 ≤ ss.getD c 0 ∧ ss.getD c 0 ≤ 2) (h1 : (1 : Int) ∈ ss) (h2 : (2 : Int) ∈ ss) (no : ∀ c j, c < N → j < N → ss.getD c 0 = 2 → ss.getD j 0 = 1 → bes m c j = false) : openErr (m : Int) hs ss = 0 := by
  have g1 : goodCount (m : Int) hs ss = true := by
    unfold goodCount
    simp only [hl, hs2, Bool.and_eq_true, decide_eq_true_eq, Int.toNat_natCast]
    exact ⟨⟨⟨⟨by omega, by omega⟩, by omega⟩, hd⟩, trivial⟩
  have g2 : badSea ss = false := by
    unfold badSea
    rw [List.any_eq_false]
    intro k hk
    have := hv k (by have := List.mem_range.1 hk; omega)
    rw [inB_t this]
    simp
  have g3 : badSpan hs = false := by
    unfold badSpan
    rw [List.any_eq_false]
    intro k hk
    have := hh k (by have := List.mem_range.1 hk; omega)
    rw [inB_t ⟨this.1, this.2.1⟩]
    have h3 : decide (10000 < (hs.getD k (0, 0)).2) = false := by rw [decide_eq_false_iff_not]; omega
    rw [h3]; decide
  have g4 : clash ⟨(m : Int).toNat, hs, ss⟩ = false := by
    have hok : Gd.Ok ⟨m, hs, ss⟩ := goodCount_ok (m := m) g1
    unfold clash
    rw [List.any_eq_false]
    intro c hc
    have hc' : c < N := by have h : c < ss.length := List.mem_range.1 hc; omega
    simp only [Bool.and_eq_true, decide_eq_true_eq, not_and, Bool.not_eq_true]
    intro e1
    apply Bool.eq_false_iff.2
    intro e2
    have e2' : atB ⟨m, hs, ss⟩ c 2 = true := e2
    obtain ⟨k, hk, hk2⟩ := (at_nb hok (by show c < ss.length; omega)).1 e2'
    have hkl := nb_lt hok (by show c < ss.length; omega) hk
    have hkl' : k < N := by have : k < ss.length := hkl; omega
    have hb : bes m c k = true := (bes_iff (N := ss.length) hm (by rw [hs2]; exact hd) (by omega) hkl).2 hk
    have hb2 : bes m k c = true := (bes_iff (N := ss.length) hm (by rw [hs2]; exact hd) hkl (by omega)).2 (nb_symm hok (by show c < ss.length; omega) hk)
    rw [no k c hkl' hc' hk2 e1] at hb2
    cases hb2
  unfold openErr
  rw [g1, g2, g3, g4, if_neg (by decide), if_neg (by decide), if_neg (by simp [h1, h2]), if_neg (by decide)]
theorem MadeG.size {C R : Int} {m rows : Nat} {hs : List (Int × Int)} {ss T : List Int} (h : MadeG C R m rows hs ss T) (hC : C ≤ 10) (hR : R ≤ 10) : 6 ≤ m * rows ∧ m * rows ≤ 100 := by
  have h1 := h.c
  have h2 := h.r
  have h3 : 3 * 2 ≤ m * rows := Nat.mul_le_mul h1.1 h2.1
  have h4 : m * rows ≤ 10 * 10 := Nat.mul_le_mul (by omega) (by omega)
  omega
theorem MadeG.right {C R : Int} {m rows : Nat} {hs : List (Int × Int)} {ss T : List Int} (h : MadeG C R m rows hs ss T) (hC : C ≤ 10) (hR : R ≤ 10) : openErr (m : Int) hs ss = 0 := by
  have hsz := h.size hC hR
  have hl := h.sea.len
  refine open_zero (N := m * rows) (by have := h.c; omega) (by omega) hsz.2 (Nat.mul_mod_right m rows) h.cells.l1 (fun c hc => by have := h.cells.h c hc; omega) hl h.sea.v ?_ ?_ (fun c j hc hj e1 e2 => h.sea.no c j trivial hc hj e1 e2)
  · have := mem_getD (l := ss) (c := 0) (by omega); rw [h.sea.a] at this; exact this
  · have := mem_getD (l := ss) (c := m * rows - 1) (by omega); rw [h.sea.b] at this; exact this
theorem MadeG.ok {C R : Int} {m rows : Nat} {hs : List (Int × Int)} {ss T : List Int} (h : MadeG C R m rows hs ss T) (hC : C ≤ 10) (hR : R ≤ 10) : Gd.Ok ⟨m, hs, ss⟩ := openErr_ok (h.right hC hR)
/-- the heights of a made ground -/
theorem low_get (m : Nat) (hs : List (Int × Int)) (ss : List Int) (c : Nat) : lowT ⟨m, hs, ss⟩ c = (hs.getD c (0, 0)).1 := lowT_eq _ _
theorem high_get (m : Nat) (hs : List (Int × Int)) (ss : List Int) (c : Nat) : highT ⟨m, hs, ss⟩ c = (hs.getD c (0, 0)).2 := highT_eq _ _
end Go.Proofs.Ytdgibmgifgdpbaa
