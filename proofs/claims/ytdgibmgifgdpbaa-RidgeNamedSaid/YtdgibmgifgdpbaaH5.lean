/-
  Parts of the proof, in the order in which they build: Tr.
-/
import Derived.Test.YtdgibmgifgdpbaaG14
import Derived.Test.YtdgibmgifgdpbaaG12
import Derived.Test.YtdgibmgifgdpbaaG8
set_option linter.unusedVariables false
set_option linter.unusedSimpArgs false
namespace Go.Proofs.Ytdgibmgifgdpbaa
open Go.RowKit Go.Shelf
open Lim

theorem ends_range2 {wd : Int} {hs : List (Int × Int)} {ss : List Int} (he : openErr wd hs ss = 0) {c : Nat} (hc : c < ss.length) : 0 ≤ lowT ⟨wd.toNat, hs, ss⟩ c ∧ lowT ⟨wd.toNat, hs, ss⟩ c ≤ highT ⟨wd.toNat, hs, ss⟩ c ∧ highT ⟨wd.toNat, hs, ss⟩ c ≤ 10000 := by
  have h1 := (openErr_ok he).hn
  rw [lowT_eq, highT_eq]
  exact goodSpan (openErr_zero he).2.2.1 (show c < hs.length by simp [Gd.n] at h1; omega)
/-- a truth of a ground, as far as its land goes -/
def Tr (g : Gd) (t : Nat → Int) : Prop := ∀ c, land g c → lowT g c ≤ t c ∧ t c ≤ highT g c
/-- spans that are right -/
def SpansOk (g : Gd) : Prop := ∀ c, c < g.n → 0 ≤ lowT g c ∧ lowT g c ≤ highT g c ∧ highT g c ≤ 10000
/-- how a land cell drains in a truth: passes to both seas -/
structure PP (g : Gd) (t : Nat → Int) (a b : Nat → Int) : Prop where
  one : IsPass g t 1 a
  two : IsPass g t 2 b
theorem R.ext {g : Gd} {t t' : Nat → Int} {s h : Int} {c : Nat} (e : ∀ c, land g c → t c = t' c) (hr : R g t s h c) : R g t' s h c := R.mono (fun c hl h => by rw [← e c hl]; exact h) hr
theorem IsPass.mono {g : Gd} {t t' : Nat → Int} {s : Int} {p q : Nat → Int} (hp : IsPass g t s p) (hq : IsPass g t' s q) (h : ∀ c, land g c → t c ≤ t' c) {c : Nat} (hc : c < g.n) : p c ≤ q c := by
  rcases Int.lt_or_le (q c) 10001 with h1 | h1
  · exact hp.least c hc _ (R.mono (fun k hl hk => by have := h k hl; omega) (hq.sound c hc h1))
  · have := hp.top c hc; omega
theorem IsPass.le_of {g : Gd} {t : Nat → Int} {s : Int} {p : Nat → Int} (hp : IsPass g t s p) {c : Nat} (hc : c < g.n) {h : Int} (hr : p c ≤ h) (hh : h < 10001) : R g t s h c := R.le hr (hp.sound c hc (by omega))
theorem IsSaddle.mono {g : Gd} {t t' : Nat → Int} {r q : Int} (hp : IsSaddle g t r) (hq : IsSaddle g t' q) (h : ∀ c, land g c → t c ≤ t' c) : r ≤ q := by
  rcases Int.lt_or_le q 10001 with h1 | h1
  · obtain ⟨c, hl, ha, hR⟩ := hq.hit h1
    exact hp.least c q ha (R.mono (fun k hl hk => by have := h k hl; omega) hR)
  · have := hp.top; omega
/-- the height h, as far as the spans let it -/
def clampT (g : Gd) (h : Int) (c : Nat) : Int := max (lowT g c) (min h (highT g c))
theorem clamp_tr {g : Gd} (hs : SpansOk g) (h : Int) : Tr g (clampT g h) := fun c hl => by
  have := hs c hl.1
  unfold clampT
  omega
theorem clamp_up {g : Gd} {h s k : Int} {c : Nat} (hk : k ≤ h) (hr : R g (lowT g) s k c) : R g (clampT g h) s h c :=
  R.mono (fun x _ hx => by unfold clampT; omega) hr
theorem clamp_down {g : Gd} (hs : SpansOk g) {h s k : Int} {c : Nat} (hk : k < h) (hr : R g (clampT g h) s k c) : R g (highT g) s k c :=
  R.mono (fun x hl hx => by have := hs x hl.1; unfold clampT at hx; omega) hr
/-- a free way is lower than all ways to the other sea, in some truth -/
theorem free_truth {g : Gd} (hg : g.Ok) (hs : SpansOk g) {away : Nat → Int} {sea other h : Int} {c : Nat} (hh : h < 10001) (ha : IsPass g (highT g) other away)
    (hf : Re g (fun c => land g c ∧ freeB g away h other c = true) (fun c => atB g c sea = true) c) : ∃ t, Tr g t ∧ R g t sea h c ∧ ¬ R g t other h c := by
  obtain ⟨P, hP⟩ : ∃ P : Nat → Prop, P = fun x => Re g (fun c => land g c ∧ freeB g away h other c = true) (fun c => atB g c sea = true) x := ⟨_, rfl⟩
  have hPc : P c := by rw [hP]; exact hf
  have hPin : ∀ x, P x → land g x ∧ freeB g away h other x = true := fun x hx => by rw [hP] at hx; exact hx.in_A
  obtain ⟨t, ht1, ht2⟩ : ∃ t : Nat → Int, (∀ x, P x → t x = lowT g x) ∧ (∀ x, ¬ P x → t x = highT g x) := by
    classical
    exact ⟨fun x => if P x then lowT g x else highT g x, fun x hx => if_pos hx, fun x hx => if_neg hx⟩
  have key : ∀ x, P x → t x ≤ h := fun x hx => by
    have := (hPin x hx).2
    unfold freeB at this
    simp only [Bool.and_eq_true, Bool.not_eq_true', decide_eq_false_iff_not] at this
    rw [ht1 x hx, lowT_eq]
    omega
  refine ⟨t, fun x hl => ?_, ?_, fun hr => ?_⟩
  · have := hs x hl.1
    by_cases hx : P x
    · rw [ht1 x hx]; omega
    · rw [ht2 x hx]; omega
  · have step : ∀ x, Re g (fun c => land g c ∧ freeB g away h other c = true) (fun c => atB g c sea = true) x → P x := fun x hx => by rw [hP]; exact hx
    clear ha hPc
    induction hf with
    | base ha' hs' => exact .base ⟨ha'.1, key _ (step _ (.base ha' hs'))⟩ hs'
    | step ha' hn hk ih => exact .step ⟨ha'.1, key _ (step _ (.step ha' hn hk))⟩ hn ih
  · have key2 : ∀ x, R g t other h x → ¬ P x ∧ R g (highT g) other h x := by
      intro x hx
      induction hx with
      | @base x ha' hs' =>
        have hn : ¬ P x := fun hr => by
          have := (hPin x hr).2
          unfold freeB at this
          simp only [Bool.and_eq_true, Bool.not_eq_true'] at this
          have h5 := this.1.1.2
          have hs'' : atB g x other = true := hs'
          rw [hs''] at h5
          cases h5
        have h2 := ha'.2
        rw [ht2 x hn] at h2
        exact ⟨hn, .base ⟨ha'.1, h2⟩ hs'⟩
      | @step x k ha' hnb hk ih =>
        have hn : ¬ P x := fun hr => by
          have := (hPin x hr).2
          unfold freeB at this
          simp only [Bool.and_eq_true, List.all_eq_true] at this
          have h3 := this.2 _ hnb
          have hl := (Re.in_A hk).1
          have h4 := ha.least _ hl.1 h ih.2
          have e : ((k : Nat) : Int).toNat = k := Int.toNat_natCast _
          rw [e, hl.2] at h3
          simp at h3
          omega
        have h2 := ha'.2
        rw [ht2 x hn] at h2
        exact ⟨hn, .step ⟨ha'.1, h2⟩ hnb ih.2⟩
    exact (key2 c hr).1 hPc
/-- what drains lower in some truth has a free way -/
theorem truth_free {g : Gd} (hg : g.Ok) (hs : SpansOk g) {away : Nat → Int} {sea other h0 h : Int} {c : Nat} {t : Nat → Int} (hh : h ≤ h0) (hmax : ∀ x, land g x → lowT g x ≤ h0 → lowT g x ≤ h) (ha : IsPass g (highT g) other away) (ht : Tr g t) (hh0 : h0 < 10001)
    (h1 : R g t sea h0 c) (h2 : ¬ R g t other h0 c) : Re g (fun c => land g c ∧ freeB g away h other c = true) (fun c => atB g c sea = true) c := by
  have toQ : ∀ x, land g x → away x ≤ h → R g t other h0 x := fun x hl hx => R.mono (fun k hk hle => by have := (ht k hk).2; omega) (ha.le_of hl.1 hx (by omega))
  have free : ∀ x, Low g t h0 x → ¬ R g t other h0 x → freeB g away h other x = true := fun x hx hq => by
    unfold freeB
    simp only [Bool.and_eq_true, Bool.not_eq_true', decide_eq_false_iff_not, List.all_eq_true, beq_iff_eq]
    refine ⟨⟨⟨⟨hx.1.2, ?_⟩, ?_⟩, ?_⟩, fun y hy => ?_⟩
    · have h3 := hmax x hx.1 (by have := (ht x hx.1).1; have := hx.2; omega)
      rw [lowT_eq] at h3
      omega
    · cases e : atB g x other with
      | false => rfl
      | true => exact absurd (.base hx e) hq
    · intro hle
      exact hq (toQ x hx.1 hle)
    · obtain ⟨k, rfl, hk⟩ := mem_nbrL hg.w0 hg.dv hx.1.1 hy
      have e : ((k : Nat) : Int).toNat = k := Int.toNat_natCast _
      rw [e]
      cases e1 : (g.ss.getD k 0 == 0) with
      | false => rfl
      | true =>
        have hl : land g k := ⟨hk, by simpa using e1⟩
        simp only [Bool.true_and, decide_eq_false_iff_not]
        intro hle
        exact hq (.step hx hy (toQ k hl hle))
  induction h1 with
  | base hx hsx => exact .base ⟨hx.1, free _ hx h2⟩ hsx
  | step hx hn hk ih => exact .step ⟨hx.1, free _ hx h2⟩ hn (ih (fun hq => h2 (.step hx hn hq)))
theorem land_lt {g : Gd} (hg : g.Ok) {c : Nat} (h : land g c) : c < 100 := by have h1 := hg.n1; have h2 : c < g.ss.length := h.1; omega
theorem Tr.ex {g : Gd} (hs : SpansOk g) {t : Nat → Int} (ht : Tr g t) (s : Int) : ∃ p, IsPass g t s p := IsPass.ex (fun c hl => by have := hs c hl.1; have := (ht c hl).1; omega)
theorem max_low {g : Gd} {h0 : Int} {c : Nat} (hl : land g c) (hc : lowT g c ≤ h0) : ∃ i, land g i ∧ lowT g i ≤ h0 ∧ ∀ x, land g x → lowT g x ≤ h0 → lowT g x ≤ lowT g i := by
  obtain ⟨m, ⟨i, hi, hle, hm⟩, hmin⟩ := least_nat (fun m => ∃ i, land g i ∧ lowT g i ≤ h0 ∧ (h0 - lowT g i).toNat = m) _ ⟨c, hl, hc, rfl⟩
  refine ⟨i, hi, hle, fun x hx hxl => ?_⟩
  have := hmin _ ⟨x, hx, hxl, rfl⟩
  omega
/-- a cell is said to drain to a sea just if it does in some truth -/
theorem low_iff {g : Gd} (hg : g.Ok) (hs : SpansOk g) {sea other : Int} {f : Nat → Bool} (hf : LowAns g sea other f) {c : Nat} (hl : land g c) :
    f c = true ↔ ∃ t p q, Tr g t ∧ IsPass g t sea p ∧ IsPass g t other q ∧ p c < q c := by
  obtain ⟨away, ha, hf⟩ := hf
  rw [hf c]
  constructor
  · rintro ⟨-, i, hi, hre⟩
    have hin : i < g.n := by have := hg.hn; show i < g.ss.length; omega
    have h1 := hs i hin
    rw [← lowT_eq] at hre
    obtain ⟨t, ht, hR, hN⟩ := free_truth hg hs (by omega) ha hre
    obtain ⟨p, hp⟩ := ht.ex hs sea
    obtain ⟨q, hq⟩ := ht.ex hs other
    refine ⟨t, p, q, ht, hp, hq, ?_⟩
    have h2 := hp.least c hl.1 _ hR
    rcases Int.lt_or_le (lowT g i) (q c) with h3 | h3
    · omega
    · exact absurd (hq.le_of hl.1 h3 (by omega)) hN
  · rintro ⟨t, p, q, ht, hp, hq, hlt⟩
    have h1 := hq.top c hl.1
    have hR := hp.sound c hl.1 (by omega)
    have hc0 : lowT g c ≤ p c := by have := (Re.in_A hR).2; have := (ht c hl).1; omega
    obtain ⟨i, hi, hle, hmax⟩ := max_low hl hc0
    refine ⟨land_lt hg hl, i, by have h1 : i < g.ss.length := hi.1; have := hg.hn; omega, ?_⟩
    rw [← lowT_eq]
    exact truth_free hg hs hle hmax ha ht (by omega) hR (fun hr => by have := hq.least c hl.1 _ hr; omega)
/-- a cell is said to drain to both seas alike just if it does in some truth -/
theorem even_iff {g : Gd} (hs : SpansOk g) {a b d e : Nat → Int} (ha : IsPass g (lowT g) 1 a) (hb : IsPass g (highT g) 1 b) (hd : IsPass g (lowT g) 2 d) (he : IsPass g (highT g) 2 e) {c : Nat} (hl : land g c) :
    (!(a c == 10001) && (!(d c == 10001) && (decide (a c ≤ e c) && decide (d c ≤ b c)))) = true ↔ ∃ t p q, Tr g t ∧ IsPass g t 1 p ∧ IsPass g t 2 q ∧ p c = q c ∧ p c ≠ 10001 := by
  have a1 := ha.top c hl.1
  have d1 := hd.top c hl.1
  have lh : ∀ x, land g x → lowT g x ≤ highT g x := fun x hx => (hs x hx.1).2.1
  have ab := ha.mono hb lh hl.1
  have de := hd.mono he lh hl.1
  simp only [Bool.and_eq_true, Bool.not_eq_true', beq_eq_false_iff_ne, decide_eq_true_eq]
  constructor
  · rintro ⟨h1, h2, h3, h4⟩
    obtain ⟨h, hh⟩ : ∃ h, h = max (a c) (d c) := ⟨_, rfl⟩
    have ht := clamp_tr hs h
    obtain ⟨p, hp⟩ := ht.ex hs 1
    obtain ⟨q, hq⟩ := ht.ex hs 2
    have up1 := hp.least c hl.1 h (clamp_up (by omega) (ha.sound c hl.1 (by omega)))
    have up2 := hq.least c hl.1 h (clamp_up (by omega) (hd.sound c hl.1 (by omega)))
    have dn1 : h ≤ p c := by
      rcases Int.lt_or_le (p c) h with h5 | h5
      · have := hb.least c hl.1 _ (clamp_down hs h5 (hp.sound c hl.1 (by omega))); omega
      · exact h5
    have dn2 : h ≤ q c := by
      rcases Int.lt_or_le (q c) h with h5 | h5
      · have := he.least c hl.1 _ (clamp_down hs h5 (hq.sound c hl.1 (by omega))); omega
      · exact h5
    exact ⟨_, p, q, ht, hp, hq, by omega, by omega⟩
  · rintro ⟨t, p, q, ht, hp, hq, e1, e2⟩
    have m1 := ha.mono hp (fun x hx => (ht x hx).1) hl.1
    have m2 := hp.mono hb (fun x hx => (ht x hx).2) hl.1
    have m3 := hd.mono hq (fun x hx => (ht x hx).1) hl.1
    have m4 := hq.mono he (fun x hx => (ht x hx).2) hl.1
    have t1 := hp.top c hl.1
    omega
/-- how a cell drains in a truth -/
def Dr (g : Gd) (t : Nat → Int) (c : Nat) (k : Int) : Prop := ∃ p q, IsPass g t 1 p ∧ IsPass g t 2 q ∧ drainOf g.ss p q c = k
theorem SpansOk.tr {g : Gd} (hs : SpansOk g) : Tr g (lowT g) := fun c hl => ⟨Int.le_refl _, (hs c hl.1).2.1⟩
/-- what sides says is what truths say -/
theorem sides_say {g : Gd} (hg : g.Ok) (hs : SpansOk g) (hss : ∀ c, c < g.n → 0 ≤ g.ss.getD c 0 ∧ g.ss.getD c 0 ≤ 2) {l : List (Bool × Bool × Bool)} (h : SidesG g l) :
    l.length = g.n ∧ ∀ c, c < g.n → ((l.getD c (false, false, false)).1 = true ↔ ∃ t, Tr g t ∧ Dr g t c 1) ∧ ((l.getD c (false, false, false)).2.1 = true ↔ ∃ t, Tr g t ∧ Dr g t c 2) ∧ ((l.getD c (false, false, false)).2.2 = true ↔ ∃ t, Tr g t ∧ Dr g t c 3) := by
  obtain ⟨f1, f2, a, b, d, e, hf1, hf2, ha, hb, hd, he, rfl⟩ := h
  refine ⟨by simp, fun c hc => ?_⟩
  have e0 : ((List.range g.n).map (sideOf g.ss f1 f2 a b d e)).getD c (false, false, false) = sideOf g.ss f1 f2 a b d e c := by
    rw [List.getD_eq_getElem?_getD, List.getElem?_map, List.getElem?_range hc]; rfl
  rw [e0]
  unfold sideOf
  by_cases hl : g.ss.getD c 0 = 0
  · rw [if_pos hl]
    have hl' : land g c := ⟨hc, hl⟩
    have dr : ∀ (t : Nat → Int) (k : Int), Dr g t c k ↔ ∃ p q, IsPass g t 1 p ∧ IsPass g t 2 q ∧ drainI (p c) (q c) = k := fun t k => by
      unfold Dr drainOf
      simp only [if_pos hl]
    refine ⟨?_, ?_, ?_⟩
    · show f1 c = true ↔ _
      rw [low_iff hg hs hf1 hl']
      constructor
      · rintro ⟨t, p, q, ht, hp, hq, hlt⟩
        refine ⟨t, ht, (dr t 1).2 ⟨p, q, hp, hq, ?_⟩⟩
        unfold drainI
        have := hq.top c hc
        rw [if_neg (by omega), if_pos hlt]
      · rintro ⟨t, ht, hdr⟩
        obtain ⟨p, q, hp, hq, hk⟩ := (dr t 1).1 hdr
        refine ⟨t, p, q, ht, hp, hq, ?_⟩
        unfold drainI at hk
        split at hk
        · cases hk
        · split at hk
          · assumption
          · split at hk <;> cases hk
    · show f2 c = true ↔ _
      rw [low_iff hg hs hf2 hl']
      constructor
      · rintro ⟨t, q, p, ht, hq, hp, hlt⟩
        refine ⟨t, ht, (dr t 2).2 ⟨p, q, hp, hq, ?_⟩⟩
        unfold drainI
        have := hp.top c hc
        rw [if_neg (by omega), if_neg (by omega), if_pos hlt]
      · rintro ⟨t, ht, hdr⟩
        obtain ⟨p, q, hp, hq, hk⟩ := (dr t 2).1 hdr
        refine ⟨t, q, p, ht, hq, hp, ?_⟩
        unfold drainI at hk
        split at hk
        · cases hk
        · split at hk
          · cases hk
          · split at hk
            · assumption
            · cases hk
    · show (!(a c == 10001) && (!(d c == 10001) && (decide (a c ≤ e c) && decide (d c ≤ b c)))) = true ↔ _
      rw [even_iff hs ha hb hd he hl']
      constructor
      · rintro ⟨t, p, q, ht, hp, hq, h1, h2⟩
        refine ⟨t, ht, (dr t 3).2 ⟨p, q, hp, hq, ?_⟩⟩
        unfold drainI
        rw [if_neg (by omega), if_neg (by omega), if_neg (by omega)]
      · rintro ⟨t, ht, hdr⟩
        obtain ⟨p, q, hp, hq, hk⟩ := (dr t 3).1 hdr
        refine ⟨t, p, q, ht, hp, hq, ?_⟩
        unfold drainI at hk
        split at hk
        · cases hk
        · split at hk
          · cases hk
          · split at hk
            · cases hk
            · omega
  · rw [if_neg hl]
    have dr : ∀ (k : Int), (∃ t, Tr g t ∧ Dr g t c k) ↔ g.ss.getD c 0 = k := fun k => by
      constructor
      · rintro ⟨t, ht, p, q, hp, hq, hk⟩
        unfold drainOf at hk
        rw [if_neg hl] at hk
        exact hk
      · intro hk
        obtain ⟨p, hp⟩ := hs.tr.ex hs 1
        obtain ⟨q, hq⟩ := hs.tr.ex hs 2
        refine ⟨_, hs.tr, p, q, hp, hq, ?_⟩
        unfold drainOf
        rw [if_neg hl]
        exact hk
    have := hss c hc
    refine ⟨?_, ?_, ?_⟩
    · rw [dr]; simp
    · rw [dr]; simp
    · rw [dr]
      exact ⟨fun h => (by cases h), fun h => by omega⟩
/-- what Saddles names is what can be a saddle -/
theorem saddles_say {g : Gd} (hg : g.Ok) (hs : SpansOk g) {a b : Nat → Int} {y : Int} (ha : IsPass g (lowT g) 1 a) (hb : IsPass g (lowT g) 2 b) (hy : IsSaddle g (highT g) y) {c : Nat} :
    c ∈ sadList g a b y ↔ land g c ∧ ∃ t h, Tr g t ∧ IsSaddle g t h ∧ R g t 1 h c ∧ R g t 2 h c ∧ t c = h := by
  unfold sadList
  rw [List.mem_filter, List.mem_range]
  simp only [Bool.and_eq_true, beq_iff_eq, decide_eq_true_eq]
  constructor
  · rintro ⟨hc, hl0, hle⟩
    have hl : land g c := ⟨hc, hl0⟩
    have hsc := hs c hc
    obtain ⟨h, hh⟩ : ∃ h, h = max (a c) (b c) := ⟨_, rfl⟩
    have Ra := ha.sound c hc (by omega)
    have Rb := hb.sound c hc (by omega)
    have hlow : lowT g c ≤ a c := (Re.in_A Ra).2
    have R1 : R g (clampT g h) 1 h c := clamp_up (by omega) Ra
    have R2 : R g (clampT g h) 2 h c := clamp_up (by omega) Rb
    refine ⟨hl, clampT g h, h, clamp_tr hs h, ⟨by omega, fun _ => ?_, fun k r hk hr => ?_⟩, R1, R2, by unfold clampT; omega⟩
    · obtain ⟨k, hk, hk1⟩ := Re.turn (T := fun c => atB g c 2 = true) hg (fun c h => h.1.1) R1 R2
      exact ⟨k, (Re.in_A hk).1, hk1, hk⟩
    · rcases Int.lt_or_le r h with h5 | h5
      · have := hy.least k r hk (clamp_down hs h5 hr); omega
      · exact h5
  · rintro ⟨hl, t, h, ht, hsd, h1, h2, hh⟩
    have a1 := ha.least c hl.1 h (R.mono (fun x hx hle => by have := (ht x hx).1; omega) h1)
    have b1 := hb.least c hl.1 h (R.mono (fun x hx hle => by have := (ht x hx).1; omega) h2)
    have hy1 := hsd.mono hy (fun x hx => (ht x hx).2)
    have := (ht c hl).2
    exact ⟨hl.1, hl.2, by omega⟩
end Go.Proofs.Ytdgibmgifgdpbaa
