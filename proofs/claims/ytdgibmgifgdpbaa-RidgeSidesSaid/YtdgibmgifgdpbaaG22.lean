/-
  Parts of the proof, in the order in which they build: Tr, RefL, RefM, RefN.
-/
import Derived.BigQuiet
import Derived.Test.YtdgibmgifgdpbaaG14
import Derived.Test.YtdgibmgifgdpbaaG12
import Derived.Test.YtdgibmgifgdpbaaG8
import Derived.Test.YtdgibmgifgdpbaaG17
import Derived.Test.YtdgibmgifgdpbaaG10
set_option linter.unusedVariables false
set_option linter.unusedSimpArgs false
/-
  What the ends of all spans say of every truth between them: sides, saddles.
-/
namespace Go.Proofs.Ytdgibmgifgdpbaa
open Go.RowKit Go.Shelf
open Lim

theorem ends_range2 {wd : Int} {hs : List (Int × Int)} {ss : List Int} (he : openErr wd hs ss = 0) {c : Nat} (hc : c < ss.length) : 0 ≤ lowT ⟨wd.toNat, hs, ss⟩ c ∧ lowT ⟨wd.toNat, hs, ss⟩ c ≤ highT ⟨wd.toNat, hs, ss⟩ c ∧ highT ⟨wd.toNat, hs, ss⟩ c ≤ 10000 := by
  have h1 := (openErr_ok he).hn
  rw [lowT_eq, highT_eq]
  exact goodSpan (openErr_zero he).2.2.1 (show c < hs.length by simp [Gd.n] at h1; omega)
/-- a truth of a ground, as far as its land goes -/
def Tr (g : Gd) (t : Nat → Int) : Prop := ∀ c, land g c → lowT g c ≤ t c ∧ t c ≤ highT g c
/-- spans that are right -/
def SpansOk (g : Gd) : Prop := ∀ c, c < g.n → 0 ≤ lowT g c ∧ lowT g c ≤ highT g c ∧ highT g c ≤ 10000
/-- how a land cell drains in a truth: passes to both seas -/
structure PP (g : Gd) (t : Nat → Int) (a b : Nat → Int) : Prop where
  one : IsPass g t 1 a
  two : IsPass g t 2 b
theorem R.ext {g : Gd} {t t' : Nat → Int} {s h : Int} {c : Nat} (e : ∀ c, land g c → t c = t' c) (hr : R g t s h c) : R g t' s h c := R.mono (fun c hl h => by rw [← e c hl]; exact h) hr
theorem IsPass.mono {g : Gd} {t t' : Nat → Int} {s : Int} {p q : Nat → Int} (hp : IsPass g t s p) (hq : IsPass g t' s q) (h : ∀ c, land g c → t c ≤ t' c) {c : Nat} (hc : c < g.n) : p c ≤ q c := by
  rcases Int.lt_or_le (q c) 10001 with h1 | h1
  · exact hp.least c hc _ (R.mono (fun k hl hk => by have := h k hl; omega) (hq.sound c hc h1))
  · have := hp.top c hc; omega
theorem IsPass.le_of {g : Gd} {t : Nat → Int} {s : Int} {p : Nat → Int} (hp : IsPass g t s p) {c : Nat} (hc : c < g.n) {h : Int} (hr : p c ≤ h) (hh : h < 10001) : R g t s h c := R.le hr (hp.sound c hc (by omega))
theorem IsSaddle.mono {g : Gd} {t t' : Nat → Int} {r q : Int} (hp : IsSaddle g t r) (hq : IsSaddle g t' q) (h : ∀ c, land g c → t c ≤ t' c) : r ≤ q := by
  rcases Int.lt_or_le q 10001 with h1 | h1
  · obtain ⟨c, hl, ha, hR⟩ := hq.hit h1
    exact hp.least c q ha (R.mono (fun k hl hk => by have := h k hl; omega) hR)
  · have := hp.top; omega
/-- the height h, as far as the spans let it -/
def clampT (g : Gd) (h : Int) (c : Nat) : Int := max (lowT g c) (min h (highT g c))
theorem clamp_tr {g : Gd} (hs : SpansOk g) (h : Int) : Tr g (clampT g h) := fun c hl => by
  have := hs c hl.1
  unfold clampT
  omega
theorem clamp_up {g : Gd} {h s k : Int} {c : Nat} (hk : k ≤ h) (hr : R g (lowT g) s k c) : R g (clampT g h) s h c :=
  R.mono (fun x _ hx => by unfold clampT; omega) hr
theorem clamp_down {g : Gd} (hs : SpansOk g) {h s k : Int} {c : Nat} (hk : k < h) (hr : R g (clampT g h) s k c) : R g (highT g) s k c :=
  R.mono (fun x hl hx => by have := hs x hl.1; unfold clampT at hx; omega) hr
/-- a free way is lower than all ways to the other sea, in some truth -/
theorem free_truth {g : Gd} (hg : g.Ok) (hs : SpansOk g) {away : Nat → Int} {sea other h : Int} {c : Nat} (hh : h < 10001) (ha : IsPass g (highT g) other away)
    (hf : Re g (fun c => land g c ∧ freeB g away h other c = true) (fun c => atB g c sea = true) c) : ∃ t, Tr g t ∧ R g t sea h c ∧ ¬ R g t other h c := by
  obtain ⟨P, hP⟩ : ∃ P : Nat → Prop, P = fun x => Re g (fun c => land g c ∧ freeB g away h other c = true) (fun c => atB g c sea = true) x := ⟨_, rfl⟩
  have hPc : P c := by rw [hP]; exact hf
  have hPin : ∀ x, P x → land g x ∧ freeB g away h other x = true := fun x hx => by rw [hP] at hx; exact hx.in_A
  obtain ⟨t, ht1, ht2⟩ : ∃ t : Nat → Int, (∀ x, P x → t x = lowT g x) ∧ (∀ x, ¬ P x → t x = highT g x) := by
    classical
    exact ⟨fun x => if P x then lowT g x else highT g x, fun x hx => if_pos hx, fun x hx => if_neg hx⟩
  have key : ∀ x, P x → t x ≤ h := fun x hx => by
    have := (hPin x hx).2
    unfold freeB at this
    simp only [Bool.and_eq_true, Bool.not_eq_true', decide_eq_false_iff_not] at this
    rw [ht1 x hx, lowT_eq]
    omega
  refine ⟨t, fun x hl => ?_, ?_, fun hr => ?_⟩
  · have := hs x hl.1
    by_cases hx : P x
    · rw [ht1 x hx]; omega
    · rw [ht2 x hx]; omega
  · have step : ∀ x, Re g (fun c => land g c ∧ freeB g away h other c = true) (fun c => atB g c sea = true) x → P x := fun x hx => by rw [hP]; exact hx
    clear ha hPc
    induction hf with
    | base ha' hs' => exact .base ⟨ha'.1, key _ (step _ (.base ha' hs'))⟩ hs'
    | step ha' hn hk ih => exact .step ⟨ha'.1, key _ (step _ (.step ha' hn hk))⟩ hn ih
  · have key2 : ∀ x, R g t other h x → ¬ P x ∧ R g (highT g) other h x := by
      intro x hx
      induction hx with
      | @base x ha' hs' =>
        have hn : ¬ P x := fun hr => by
          have := (hPin x hr).2
          unfold freeB at this
          simp only [Bool.and_eq_true, Bool.not_eq_true'] at this
          have h5 := this.1.1.2
          have hs'' : atB g x other = true := hs'
          rw [hs''] at h5
          cases h5
        have h2 := ha'.2
        rw [ht2 x hn] at h2
        exact ⟨hn, .base ⟨ha'.1, h2⟩ hs'⟩
      | @step x k ha' hnb hk ih =>
        have hn : ¬ P x := fun hr => by
          have := (hPin x hr).2
          unfold freeB at this
          simp only [Bool.and_eq_true, List.all_eq_true] at this
          have h3 := this.2 _ hnb
          have hl := (Re.in_A hk).1
          have h4 := ha.least _ hl.1 h ih.2
          have e : ((k : Nat) : Int).toNat = k := Int.toNat_natCast _
          rw [e, hl.2] at h3
          simp at h3
          omega
        have h2 := ha'.2
        rw [ht2 x hn] at h2
        exact ⟨hn, .step ⟨ha'.1, h2⟩ hnb ih.2⟩
    exact (key2 c hr).1 hPc
/-- what drains lower in some truth has a free way -/
theorem truth_free {g : Gd} (hg : g.Ok) (hs : SpansOk g) {away : Nat → Int} {sea other h0 h : Int} {c : Nat} {t : Nat → Int} (hh : h ≤ h0) (hmax : ∀ x, land g x → lowT g x ≤ h0 → lowT g x ≤ h) (ha : IsPass g (highT g) other away) (ht : Tr g t) (hh0 : h0 < 10001)
    (h1 : R g t sea h0 c) (h2 : ¬ R g t other h0 c) : Re g (fun c => land g c ∧ freeB g away h other c = true) (fun c => atB g c sea = true) c := by
  have toQ : ∀ x, land g x → away x ≤ h → R g t other h0 x := fun x hl hx => R.mono (fun k hk hle => by have := (ht k hk).2; omega) (ha.le_of hl.1 hx (by omega))
  have free : ∀ x, Low g t h0 x → ¬ R g t other h0 x → freeB g away h other x = true := fun x hx hq => by
    unfold freeB
    simp only [Bool.and_eq_true, Bool.not_eq_true', decide_eq_false_iff_not, List.all_eq_true, beq_iff_eq]
    refine ⟨⟨⟨⟨hx.1.2, ?_⟩, ?_⟩, ?_⟩, fun y hy => ?_⟩
    · have h3 := hmax x hx.1 (by have := (ht x hx.1).1; have := hx.2; omega)
      rw [lowT_eq] at h3
      omega
    · cases e : atB g x other with
      | false => rfl
      | true => exact absurd (.base hx e) hq
    · intro hle
      exact hq (toQ x hx.1 hle)
    · obtain ⟨k, rfl, hk⟩ := mem_nbrL hg.w0 hg.dv hx.1.1 hy
      have e : ((k : Nat) : Int).toNat = k := Int.toNat_natCast _
      rw [e]
      cases e1 : (g.ss.getD k 0 == 0) with
      | false => rfl
      | true =>
        have hl : land g k := ⟨hk, by simpa using e1⟩
        simp only [Bool.true_and, decide_eq_false_iff_not]
        intro hle
        exact hq (.step hx hy (toQ k hl hle))
  induction h1 with
  | base hx hsx => exact .base ⟨hx.1, free _ hx h2⟩ hsx
  | step hx hn hk ih => exact .step ⟨hx.1, free _ hx h2⟩ hn (ih (fun hq => h2 (.step hx hn hq)))
theorem land_lt {g : Gd} (hg : g.Ok) {c : Nat} (h : land g c) : c < 100 := by have h1 := hg.n1; have h2 : c < g.ss.length := h.1; omega
theorem Tr.ex {g : Gd} (hs : SpansOk g) {t : Nat → Int} (ht : Tr g t) (s : Int) : ∃ p, IsPass g t s p := IsPass.ex (fun c hl => by have := hs c hl.1; have := (ht c hl).1; omega)
theorem max_low {g : Gd} {h0 : Int} {c : Nat} (hl : land g c) (hc : lowT g c ≤ h0) : ∃ i, land g i ∧ lowT g i ≤ h0 ∧ ∀ x, land g x → lowT g x ≤ h0 → lowT g x ≤ lowT g i := by
  obtain ⟨m, ⟨i, hi, hle, hm⟩, hmin⟩ := least_nat (fun m => ∃ i, land g i ∧ lowT g i ≤ h0 ∧ (h0 - lowT g i).toNat = m) _ ⟨c, hl, hc, rfl⟩
  refine ⟨i, hi, hle, fun x hx hxl => ?_⟩
  have := hmin _ ⟨x, hx, hxl, rfl⟩
  omega
/-- a cell is said to drain to a sea just if it does in some truth -/
theorem low_iff {g : Gd} (hg : g.Ok) (hs : SpansOk g) {sea other : Int} {f : Nat → Bool} (hf : LowAns g sea other f) {c : Nat} (hl : land g c) :
    f c = true ↔ ∃ t p q, Tr g t ∧ IsPass g t sea p ∧ IsPass g t other q ∧ p c < q c := by
  obtain ⟨away, ha, hf⟩ := hf
  rw [hf c]
  constructor
  · rintro ⟨-, i, hi, hre⟩
    have hin : i < g.n := by have := hg.hn; show i < g.ss.length; omega
    have h1 := hs i hin
    rw [← lowT_eq] at hre
    obtain ⟨t, ht, hR, hN⟩ := free_truth hg hs (by omega) ha hre
    obtain ⟨p, hp⟩ := ht.ex hs sea
    obtain ⟨q, hq⟩ := ht.ex hs other
    refine ⟨t, p, q, ht, hp, hq, ?_⟩
    have h2 := hp.least c hl.1 _ hR
    rcases Int.lt_or_le (lowT g i) (q c) with h3 | h3
    · omega
    · exact absurd (hq.le_of hl.1 h3 (by omega)) hN
  · rintro ⟨t, p, q, ht, hp, hq, hlt⟩
    have h1 := hq.top c hl.1
    have hR := hp.sound c hl.1 (by omega)
    have hc0 : lowT g c ≤ p c := by have := (Re.in_A hR).2; have := (ht c hl).1; omega
    obtain ⟨i, hi, hle, hmax⟩ := max_low hl hc0
    refine ⟨land_lt hg hl, i, by have h1 : i < g.ss.length := hi.1; have := hg.hn; omega, ?_⟩
    rw [← lowT_eq]
    exact truth_free hg hs hle hmax ha ht (by omega) hR (fun hr => by have := hq.least c hl.1 _ hr; omega)
/-- a cell is said to drain to both seas alike just if it does in some truth -/
theorem even_iff {g : Gd} (hs : SpansOk g) {a b d e : Nat → Int} (ha : IsPass g (lowT g) 1 a) (hb : IsPass g (highT g) 1 b) (hd : IsPass g (lowT g) 2 d) (he : IsPass g (highT g) 2 e) {c : Nat} (hl : land g c) :
    (!(a c == 10001) && (!(d c == 10001) && (decide (a c ≤ e c) && decide (d c ≤ b c)))) = true ↔ ∃ t p q, Tr g t ∧ IsPass g t 1 p ∧ IsPass g t 2 q ∧ p c = q c ∧ p c ≠ 10001 := by
  have a1 := ha.top c hl.1
  have d1 := hd.top c hl.1
  have lh : ∀ x, land g x → lowT g x ≤ highT g x := fun x hx => (hs x hx.1).2.1
  have ab := ha.mono hb lh hl.1
  have de := hd.mono he lh hl.1
  simp only [Bool.and_eq_true, Bool.not_eq_true', beq_eq_false_iff_ne, decide_eq_true_eq]
  constructor
  · rintro ⟨h1, h2, h3, h4⟩
    obtain ⟨h, hh⟩ : ∃ h, h = max (a c) (d c) := ⟨_, rfl⟩
    have ht := clamp_tr hs h
    obtain ⟨p, hp⟩ := ht.ex hs 1
    obtain ⟨q, hq⟩ := ht.ex hs 2
    have up1 := hp.least c hl.1 h (clamp_up (by omega) (ha.sound c hl.1 (by omega)))
    have up2 := hq.least c hl.1 h (clamp_up (by omega) (hd.sound c hl.1 (by omega)))
    have dn1 : h ≤ p c := by
      rcases Int.lt_or_le (p c) h with h5 | h5
      · have := hb.least c hl.1 _ (clamp_down hs h5 (hp.sound c hl.1 (by omega))); omega
      · exact h5
    have dn2 : h ≤ q c := by
      rcases Int.lt_or_le (q c) h with h5 | h5
      · have := he.least c hl.1 _ (clamp_down hs h5 (hq.sound c hl.1 (by omega))); omega
      · exact h5
    exact ⟨_, p, q, ht, hp, hq, by omega, by omega⟩
  · rintro ⟨t, p, q, ht, hp, hq, e1, e2⟩
    have m1 := ha.mono hp (fun x hx => (ht x hx).1) hl.1
    have m2 := hp.mono hb (fun x hx => (ht x hx).2) hl.1
    have m3 := hd.mono hq (fun x hx => (ht x hx).1) hl.1
    have m4 := hq.mono he (fun x hx => (ht x hx).2) hl.1
    have t1 := hp.top c hl.1
    omega
/-- how a cell drains in a truth -/
def Dr (g : Gd) (t : Nat → Int) (c : Nat) (k : Int) : Prop := ∃ p q, IsPass g t 1 p ∧ IsPass g t 2 q ∧ drainOf g.ss p q c = k
theorem SpansOk.tr {g : Gd} (hs : SpansOk g) : Tr g (lowT g) := fun c hl => ⟨Int.le_refl _, (hs c hl.1).2.1⟩
/-- what sides says is what truths say -/
theorem sides_say {g : Gd} (hg : g.Ok) (hs : SpansOk g) (hss : ∀ c, c < g.n → 0 ≤ g.ss.getD c 0 ∧ g.ss.getD c 0 ≤ 2) {l : List (Bool × Bool × Bool)} (h : SidesG g l) :
    l.length = g.n ∧ ∀ c, c < g.n → ((l.getD c (false, false, false)).1 = true ↔ ∃ t, Tr g t ∧ Dr g t c 1) ∧ ((l.getD c (false, false, false)).2.1 = true ↔ ∃ t, Tr g t ∧ Dr g t c 2) ∧ ((l.getD c (false, false, false)).2.2 = true ↔ ∃ t, Tr g t ∧ Dr g t c 3) := by
  obtain ⟨f1, f2, a, b, d, e, hf1, hf2, ha, hb, hd, he, rfl⟩ := h
  refine ⟨by simp, fun c hc => ?_⟩
  have e0 : ((List.range g.n).map (sideOf g.ss f1 f2 a b d e)).getD c (false, false, false) = sideOf g.ss f1 f2 a b d e c := by
    rw [List.getD_eq_getElem?_getD, List.getElem?_map, List.getElem?_range hc]; rfl
  rw [e0]
  unfold sideOf
  by_cases hl : g.ss.getD c 0 = 0
  · rw [if_pos hl]
    have hl' : land g c := ⟨hc, hl⟩
    have dr : ∀ (t : Nat → Int) (k : Int), Dr g t c k ↔ ∃ p q, IsPass g t 1 p ∧ IsPass g t 2 q ∧ drainI (p c) (q c) = k := fun t k => by
      unfold Dr drainOf
      simp only [if_pos hl]
    refine ⟨?_, ?_, ?_⟩
    · show f1 c = true ↔ _
      rw [low_iff hg hs hf1 hl']
      constructor
      · rintro ⟨t, p, q, ht, hp, hq, hlt⟩
        refine ⟨t, ht, (dr t 1).2 ⟨p, q, hp, hq, ?_⟩⟩
        unfold drainI
        have := hq.top c hc
        rw [if_neg (by omega), if_pos hlt]
      · rintro ⟨t, ht, hdr⟩
        obtain ⟨p, q, hp, hq, hk⟩ := (dr t 1).1 hdr
        refine ⟨t, p, q, ht, hp, hq, ?_⟩
        unfold drainI at hk
        split at hk
        · cases hk
        · split at hk
          · assumption
          · split at hk <;> cases hk
    · show f2 c = true ↔ _
      rw [low_iff hg hs hf2 hl']
      constructor
      · rintro ⟨t, q, p, ht, hq, hp, hlt⟩
        refine ⟨t, ht, (dr t 2).2 ⟨p, q, hp, hq, ?_⟩⟩
        unfold drainI
        have := hp.top c hc
        rw [if_neg (by omega), if_neg (by omega), if_pos hlt]
      · rintro ⟨t, ht, hdr⟩
        obtain ⟨p, q, hp, hq, hk⟩ := (dr t 2).1 hdr
        refine ⟨t, q, p, ht, hq, hp, ?_⟩
        unfold drainI at hk
        split at hk
        · cases hk
        · split at hk
          · cases hk
          · split at hk
            · assumption
            · cases hk
    · show (!(a c == 10001) && (!(d c == 10001) && (decide (a c ≤ e c) && decide (d c ≤ b c)))) = true ↔ _
      rw [even_iff hs ha hb hd he hl']
      constructor
      · rintro ⟨t, p, q, ht, hp, hq, h1, h2⟩
        refine ⟨t, ht, (dr t 3).2 ⟨p, q, hp, hq, ?_⟩⟩
        unfold drainI
        rw [if_neg (by omega), if_neg (by omega), if_neg (by omega)]
      · rintro ⟨t, ht, hdr⟩
        obtain ⟨p, q, hp, hq, hk⟩ := (dr t 3).1 hdr
        refine ⟨t, p, q, ht, hp, hq, ?_⟩
        unfold drainI at hk
        split at hk
        · cases hk
        · split at hk
          · cases hk
          · split at hk
            · cases hk
            · omega
  · rw [if_neg hl]
    have dr : ∀ (k : Int), (∃ t, Tr g t ∧ Dr g t c k) ↔ g.ss.getD c 0 = k := fun k => by
      constructor
      · rintro ⟨t, ht, p, q, hp, hq, hk⟩
        unfold drainOf at hk
        rw [if_neg hl] at hk
        exact hk
      · intro hk
        obtain ⟨p, hp⟩ := hs.tr.ex hs 1
        obtain ⟨q, hq⟩ := hs.tr.ex hs 2
        refine ⟨_, hs.tr, p, q, hp, hq, ?_⟩
        unfold drainOf
        rw [if_neg hl]
        exact hk
    have := hss c hc
    refine ⟨?_, ?_, ?_⟩
    · rw [dr]; simp
    · rw [dr]; simp
    · rw [dr]
      exact ⟨fun h => (by cases h), fun h => by omega⟩
/-- what Saddles names is what can be a saddle -/
theorem saddles_say {g : Gd} (hg : g.Ok) (hs : SpansOk g) {a b : Nat → Int} {y : Int} (ha : IsPass g (lowT g) 1 a) (hb : IsPass g (lowT g) 2 b) (hy : IsSaddle g (highT g) y) {c : Nat} :
    c ∈ sadList g a b y ↔ land g c ∧ ∃ t h, Tr g t ∧ IsSaddle g t h ∧ R g t 1 h c ∧ R g t 2 h c ∧ t c = h := by
  unfold sadList
  rw [List.mem_filter, List.mem_range]
  simp only [Bool.and_eq_true, beq_iff_eq, decide_eq_true_eq]
  constructor
  · rintro ⟨hc, hl0, hle⟩
    have hl : land g c := ⟨hc, hl0⟩
    have hsc := hs c hc
    obtain ⟨h, hh⟩ : ∃ h, h = max (a c) (b c) := ⟨_, rfl⟩
    have Ra := ha.sound c hc (by omega)
    have Rb := hb.sound c hc (by omega)
    have hlow : lowT g c ≤ a c := (Re.in_A Ra).2
    have R1 : R g (clampT g h) 1 h c := clamp_up (by omega) Ra
    have R2 : R g (clampT g h) 2 h c := clamp_up (by omega) Rb
    refine ⟨hl, clampT g h, h, clamp_tr hs h, ⟨by omega, fun _ => ?_, fun k r hk hr => ?_⟩, R1, R2, by unfold clampT; omega⟩
    · obtain ⟨k, hk, hk1⟩ := Re.turn (T := fun c => atB g c 2 = true) hg (fun c h => h.1.1) R1 R2
      exact ⟨k, (Re.in_A hk).1, hk1, hk⟩
    · rcases Int.lt_or_le r h with h5 | h5
      · have := hy.least k r hk (clamp_down hs h5 hr); omega
      · exact h5
  · rintro ⟨hl, t, h, ht, hsd, h1, h2, hh⟩
    have a1 := ha.least c hl.1 h (R.mono (fun x hx hle => by have := (ht x hx).1; omega) h1)
    have b1 := hb.least c hl.1 h (R.mono (fun x hx hle => by have := (ht x hx).1; omega) h2)
    have hy1 := hsd.mono hy (fun x hx => (ht x hx).2)
    have := (ht c hl).2
    exact ⟨hl.1, hl.2, by omega⟩
end Go.Proofs.Ytdgibmgifgdpbaa
/-
  Truths as the reference numbers them: the contracts of Truths and truth.
-/
namespace Go.Proofs.Ytdgibmgifgdpbaa
open Go.RowKit Go.Shelf
open Lim

/-- how many heights a cell has -/
def wideN (g : Gd) (c : Nat) : Nat := (highT g c - lowT g c + 1).toNat
/-- how many truths the first k cells have; too many are cut -/
def trsTo (g : Gd) : Nat → Int
  | 0 => 1
  | k + 1 => if g.ss.getD k 0 = 0 then min 1000000 (trsTo g k * (highT g k - lowT g k + 1)) else trsTo g k
theorem trsTo_range {g : Gd} (hs : SpansOk g) : ∀ k, k ≤ g.n → 1 ≤ trsTo g k ∧ trsTo g k ≤ 1000000
  | 0, _ => by unfold trsTo; omega
  | k + 1, h => by
    have ih := trsTo_range hs k (by omega)
    have hk := hs k (by omega)
    unfold trsTo
    split
    · have h1 : 1 * 1 ≤ trsTo g k * (highT g k - lowT g k + 1) := Int.mul_le_mul ih.1 (by omega) (by omega) (by omega)
      omega
    · exact ih
set_option maxRecDepth 20000 in
set_option maxHeartbeats 1000000 in
theorem truths_any {B m : Nat} {hv sv : Value} {hs : List (Int × Int)} {ss : List Int} {w : World} (hB : B ≤ w.heap.size) (hh : RS B w hv hs.length (spans hs)) (hss : RS B w sv ss.length (ints ss)) (hg : Gd.Ok ⟨m, hs, ss⟩) (hso : SpansOk ⟨m, hs, ss⟩) :
    Calls Try.prog 17 #[.agg #[.int .i64 m, hv, sv]] w fun e w' => e = .returned (.int .i64 (trsTo ⟨m, hs, ss⟩ ss.length)) ∧ Below w.heap.size w w' := by
  have hlen : hs.length = ss.length := hg.hn
  have hl : ss.length ≤ 100 := hg.n1
  have HS := Lib.hid (And.intro hso hB)
  obtain ⟨ha, hcap, rfl, hhc⟩ := hh
  obtain ⟨sa, scap, rfl, hsc⟩ := hss
  have HC := Lib.hid (And.intro hhc hsc)
  clear hhc hsc hso
  have HL := Lib.hid hlen
  have HGo := Lib.hid hg
  have hl2 : hs.length ≤ 100 := by omega
  clear hg hlen
  go_enter Try.func17, Try.ntmps17
  have f1 : (w.alloc (.cells #[.int .i64 m, .slice ha hs.length hcap, .slice sa ss.length scap] 28)).cell? ⟨w.heap.size, 1, none⟩ = some (.slice ha hs.length hcap) := by simp [go_sem]
  have f2 : (w.alloc (.cells #[.int .i64 m, .slice ha hs.length hcap, .slice sa ss.length scap] 28)).cell? ⟨w.heap.size, 2, none⟩ = some (.slice sa ss.length scap) := by simp [go_sem]
  have HF := Lib.hid (And.intro ((Below.refl w.heap.size w).alloc (Nat.le_refl _) (.cells #[.int .i64 m, .slice ha hs.length hcap, .slice sa ss.length scap] 28)) (And.intro f1 f2))
  clear f1 f2
  go_wp2_with fail
  go_loopw [3, 4] (fun p i wr => ∃ k : Nat, k ≤ hs.length ∧ p = .int .i64 (trsTo ⟨m, hs, ss⟩ k) ∧ i = .int .i64 k ∧ Hid (Below w.heap.size w wr) ∧ wr.cell? ⟨w.heap.size, 1, none⟩ = some (.slice ha hs.length hcap) ∧ wr.cell? ⟨w.heap.size, 2, none⟩ = some (.slice sa ss.length scap)) (fun _ i _ => hs.length - (intOf i).toNat)
  case atStart => exact ⟨0, Nat.zero_le _, rfl, rfl, Lib.hid HF.out.1, HF.out.2.1, HF.out.2.2⟩
  case round =>
    obtain ⟨k, hk, rfl, rfl, hbr, f1, f2⟩ := hrel
    by_cases hlt2 : k < hs.length
    · have hlt : k < ss.length := by have := HL.out; omega
      obtain ⟨hb, hoff, rfl, hhb, hhcell⟩ := HC.out.1 (spans_ne (by omega))
      obtain ⟨sb, soff, rfl, hsb, hscell⟩ := HC.out.2 (ints_ne (by omega))
      obtain ⟨z, hz⟩ : ∃ z, z = ss.getD k 0 := ⟨_, rfl⟩
      obtain ⟨lo, hlo⟩ : ∃ lo, lo = lowT ⟨m, hs, ss⟩ k := ⟨_, rfl⟩
      obtain ⟨up, hup⟩ : ∃ up, up = highT ⟨m, hs, ss⟩ k := ⟨_, rfl⟩
      obtain ⟨P, hP⟩ : ∃ P, P = trsTo ⟨m, hs, ss⟩ k := ⟨_, rfl⟩
      have q0 : wr.cell? ⟨sb, soff + k, none⟩ = some (.int .i64 z) := by rw [hz, List.getD_eq_getElem?_getD]; exact cell_below hbr.out (hscell _ _ (ints_at' ss k hlt)) (by have := HS.out.2; show sb < w.heap.size; omega)
      have q1 : wr.cell? ⟨hb, hoff + k * 2, none⟩ = some (.int .i64 lo) := by rw [hlo, lowT_eq, List.getD_eq_getElem?_getD, List.getElem?_eq_getElem hlt2]; exact cell_below hbr.out (hhcell _ _ (spans_lo _ k hlt2)) (by have := HS.out.2; show hb < w.heap.size; omega)
      have q2 : wr.cell? ⟨hb, hoff + k * 2 + 1, none⟩ = some (.int .i64 up) := by rw [hup, highT_eq, List.getD_eq_getElem?_getD, List.getElem?_eq_getElem hlt2]; exact cell_below hbr.out (hhcell _ _ (spans_hi _ k hlt2)) (by have := HS.out.2; show hb < w.heap.size; omega)
      have hr := trsTo_range HS.out.1 k (by show k ≤ ss.length; omega)
      have hso := HS.out.1 k hlt
      rw [← hP] at hr
      rw [← hlo, ← hup] at hso
      have hst : Hid (trsTo ⟨m, hs, ss⟩ (k + 1) = if z = 0 then min 1000000 (P * (up - lo + 1)) else P) := Lib.hid (by rw [hz, hP, hlo, hup]; rfl)
      rw [← hP]
      clear hz hlo hup hP hhcell hscell
      by_cases hz0 : z = 0
      · have d0 : (z == 0) = true := by simpa using hz0
        have e1 : IntKind.i64.wrap (up - lo) = up - lo := IntWalk.i64_in _ (by omega)
        have e2 : IntKind.i64.wrap (up - lo + 1) = up - lo + 1 := IntWalk.i64_in _ (by omega)
        have hm1 : 0 ≤ P * (up - lo + 1) := Int.mul_nonneg (by omega) (by omega)
        have hm2 : P * (up - lo + 1) ≤ 1000000 * 10001 := Int.mul_le_mul hr.2 (by omega) (by omega) (by omega)
        have e3 : IntKind.i64.wrap (P * (up - lo + 1)) = P * (up - lo + 1) := IntWalk.i64_in _ (by omega)
        have HST : Hid (trsTo ⟨m, hs, ss⟩ (k + 1) = min 1000000 (P * (up - lo + 1))) := Lib.hid (by rw [hst.out, if_pos hz0])
        clear hz0 hm1 hm2 hst hr hso
        go_wp2_with fail
        go_quiet (fail)
        go_wp2
        go_roundw
        case rel => exact ⟨k + 1, by omega, by rw [HST.out], by go_num, Lib.hid (below_drewN hbr.out _), f1, f2⟩
        case measure => simp [intOf]; omega
      · have d0 : (z == 0) = false := by rw [beq_eq_false_iff_ne]; exact hz0
        have HST : Hid (trsTo ⟨m, hs, ss⟩ (k + 1) = P) := Lib.hid (by rw [hst.out, if_neg hz0])
        clear hz0 hst hr hso
        go_wp2
        go_roundw
        case rel => exact ⟨k + 1, by omega, by rw [HST.out], by go_num, hbr, f1, f2⟩
        case measure => simp [intOf]; omega
    · obtain rfl : k = hs.length := by omega
      go_wp2
      go_ret
      exact ⟨by rw [← HL.out]; rfl, hbr.out⟩
end Go.Proofs.Ytdgibmgifgdpbaa
/-
  A truth with a number, as the reference makes it: the contract of truth.
-/
namespace Go.Proofs.Ytdgibmgifgdpbaa
open Go.RowKit Go.Shelf
open Lim

/-- what is left of a truth's number behind the first k cells -/
def restN (g : Gd) (n : Nat) : Nat → Nat
  | 0 => n
  | k + 1 => if g.ss.getD k 0 = 0 then restN g n k / wideN g k else restN g n k
/-- the truth with a number -/
def decT (g : Gd) (n c : Nat) : Int := if g.ss.getD c 0 = 0 then lowT g c + ((restN g n c % wideN g c : Nat) : Int) else lowT g c
theorem restN_le (g : Gd) (n : Nat) : ∀ k, restN g n k ≤ n
  | 0 => Nat.le_refl _
  | k + 1 => by
    have := restN_le g n k
    unfold restN
    split
    · have := Nat.div_le_self (restN g n k) (wideN g k); omega
    · exact this
/-- memory while a truth is made -/
structure WcM (w : World) (m : Nat) (hv sv : Value) (q n cap : Nat) (p : Nat → Int) (W : World) : Prop where
  f0 : W.cell? ⟨w.heap.size, 0, none⟩ = some (.int .i64 m)
  f1 : W.cell? ⟨w.heap.size, 1, none⟩ = some hv
  f2 : W.cell? ⟨w.heap.size, 2, none⟩ = some sv
  own : W.ownsRow (w.heap.size + 1) 3 1 (.slice (some ⟨q, 0, none⟩) n cap) n (lv n p)
  lt : w.heap.size < q
  be : Below w.heap.size w W
theorem WcM.at {w : World} {m : Nat} {hv sv : Value} {q n cap : Nat} {p : Nat → Int} {W : World} (h : WcM w m hv sv q n cap p W) {k : Nat} (hk : k < n) : W.cell? ⟨q, k, none⟩ = some (.int .i64 (p k)) := by
  rw [h.own.cellAt k (by omega), lv_at p hk]
theorem WcM.below {w : World} {m : Nat} {hv sv : Value} {q n cap : Nat} {p : Nat → Int} {W W' : World} (h : WcM w m hv sv q n cap p W) (hb : Below W.heap.size W W') : WcM w m hv sv q n cap p W' :=
  ⟨cell_on hb h.f0, cell_on hb h.f1, cell_on hb h.f2, owns_below h.own hb, h.lt, h.be.trans (hb.mono h.be.size)⟩
theorem WcM.store {w : World} {m : Nat} {hv sv : Value} {q n cap : Nat} {p : Nat → Int} {W : World} (h : WcM w m hv sv q n cap p W) {k : Nat} (hk : k < n) (x : Int) : WcM w m hv sv q n cap (fun y => if y = k then x else p y) (W.setCell ⟨q, k, none⟩ (.int .i64 x)) := by
  refine ⟨(setCell_far _ _ (Nat.ne_of_gt h.lt)).trans h.f0, (setCell_far _ _ (Nat.ne_of_gt h.lt)).trans h.f1, (setCell_far _ _ (Nat.ne_of_gt h.lt)).trans h.f2, ?_, h.lt, h.be.setCell (p := ⟨q, k, none⟩) (Nat.le_of_lt h.lt) _⟩
  have := (h.own.stored k (.int .i64 x)).1
  rw [lv_set p x hk] at this
  exact this
theorem WcM.ext {w : World} {m : Nat} {hv sv : Value} {q n cap : Nat} {p p' : Nat → Int} {W : World} (h : WcM w m hv sv q n cap p W) (e : ∀ c, c < n → p c = p' c) : WcM w m hv sv q n cap p' W :=
  ⟨h.f0, h.f1, h.f2, by rw [← lv_ext e]; exact h.own, h.lt, h.be⟩
theorem owns_at {w : World} {base e size n : Nat} {v : Value} {xs : List Value} (h : w.ownsRow base e size v n xs) (hn : 0 < n) : ∃ q cap, v = .slice (some ⟨q, 0, none⟩) n cap ∧ base ≤ q := by
  rcases h.2 with ⟨rfl, rfl⟩ | ⟨g, cap, cur, rfl, hB, r⟩
  · omega
  · exact ⟨g, cap, rfl, hB⟩

set_option maxRecDepth 20000 in
set_option maxHeartbeats 2000000 in
theorem rtruth_any {B m n : Nat} {hv sv : Value} {hs : List (Int × Int)} {ss : List Int} {w : World} (hB : B ≤ w.heap.size) (hh : RS B w hv hs.length (spans hs)) (hss : RS B w sv ss.length (ints ss)) (hg : Gd.Ok ⟨m, hs, ss⟩) (hso : SpansOk ⟨m, hs, ss⟩) (hn0 : 0 < ss.length) (hn : n ≤ 1000000) :
    Calls Try.prog 59 #[.agg #[.int .i64 m, hv, sv], .int .i64 n] w fun e w' => ∃ v, e = .returned v ∧ w'.ownsRow w.heap.size 3 1 v hs.length (ints ((List.range hs.length).map (decT ⟨m, hs, ss⟩ n))) ∧ Below w.heap.size w w' := by
  have hlen : hs.length = ss.length := hg.hn
  have hl : hs.length ≤ 100 := by have : ss.length ≤ 100 := hg.n1; omega
  have hpos : 0 < hs.length := by omega
  have HS := Lib.hid (And.intro hso hB)
  have B1 : Below w.heap.size w (w.alloc (.cells #[.int .i64 m, hv, sv] 28)) := (Below.refl _ w).alloc (Nat.le_refl _) _
  have CE := Lib.hid (ends_any (B := B) (wd := m) (sv := sv) (b := false) (w := w.alloc (.cells #[.int .i64 m, hv, sv] 28)) hl (by have := B1.size; omega) (hh.below (B1.mono hB)))
  obtain ⟨ha, hcap, rfl, hhc⟩ := hh
  obtain ⟨sa, scap, rfl, hsc⟩ := hss
  obtain ⟨hb, hoff, rfl, hhb, hhcell⟩ := hhc (spans_ne hpos)
  obtain ⟨sb, soff, rfl, hsb, hscell⟩ := hsc (ints_ne hn0)
  have HC : Hid (∀ k, k < hs.length → ∀ W, Below w.heap.size w W → W.cell? ⟨sb, soff + k, none⟩ = some (.int .i64 (ss.getD k 0)) ∧ W.cell? ⟨hb, hoff + k * 2, none⟩ = some (.int .i64 (lowT ⟨m, hs, ss⟩ k)) ∧ W.cell? ⟨hb, hoff + k * 2 + 1, none⟩ = some (.int .i64 (highT ⟨m, hs, ss⟩ k))) := Lib.hid (fun k hk W hbW => by
    refine ⟨?_, ?_, ?_⟩
    · rw [List.getD_eq_getElem?_getD]; exact cell_below hbW (hscell _ _ (ints_at' ss k (by omega))) (by show sb < w.heap.size; omega)
    · rw [lowT_eq, List.getD_eq_getElem?_getD, List.getElem?_eq_getElem hk]; exact cell_below hbW (hhcell _ _ (spans_lo _ k hk)) (by show hb < w.heap.size; omega)
    · rw [highT_eq, List.getD_eq_getElem?_getD, List.getElem?_eq_getElem hk]; exact cell_below hbW (hhcell _ _ (spans_hi _ k hk)) (by show hb < w.heap.size; omega))
  clear hhc hsc hhcell hscell hso
  have HL := Lib.hid hlen
  clear hg hlen
  have f0 : (w.alloc (.cells #[.int .i64 m, .slice (some ⟨hb, hoff, none⟩) hs.length hcap, .slice (some ⟨sb, soff, none⟩) ss.length scap] 28)).cell? ⟨w.heap.size, 0, none⟩ = some (.int .i64 m) := by simp [go_sem]
  have f1 : (w.alloc (.cells #[.int .i64 m, .slice (some ⟨hb, hoff, none⟩) hs.length hcap, .slice (some ⟨sb, soff, none⟩) ss.length scap] 28)).cell? ⟨w.heap.size, 1, none⟩ = some (.slice (some ⟨hb, hoff, none⟩) hs.length hcap) := by simp [go_sem]
  have f2 : (w.alloc (.cells #[.int .i64 m, .slice (some ⟨hb, hoff, none⟩) hs.length hcap, .slice (some ⟨sb, soff, none⟩) ss.length scap] 28)).cell? ⟨w.heap.size, 2, none⟩ = some (.slice (some ⟨sb, soff, none⟩) ss.length scap) := by simp [go_sem]
  have HF := Lib.hid (And.intro B1 (And.intro f0 (And.intro f1 f2)))
  clear f0 f1 f2 B1
  go_enter Try.func59, Try.ntmps59
  go_wp2_with fail
  refine CE.out.mono ?_
  clear CE
  rintro e w1 ⟨v1, rfl, hown, hb1⟩
  obtain ⟨q, cap, rfl, hq⟩ := owns_at hown hpos
  have HM : Hid (WcM w m (.slice (some ⟨hb, hoff, none⟩) hs.length hcap) (.slice (some ⟨sb, soff, none⟩) ss.length scap) q hs.length cap (fun c => if c < 0 then decT ⟨m, hs, ss⟩ n c else lowT ⟨m, hs, ss⟩ c) w1) := Lib.hid (by
    have hq1 : w.heap.size + 1 ≤ q := by rw [World.size_alloc] at hq; exact hq
    refine ⟨cell_on hb1 HF.out.2.1, cell_on hb1 HF.out.2.2.1, cell_on hb1 HF.out.2.2.2, ?_, by omega, HF.out.1.trans (hb1.mono HF.out.1.size)⟩
    rw [World.size_alloc] at hown
    rw [lv_ints]
    have e : (List.range hs.length).map (fun c => if c < 0 then decT ⟨m, hs, ss⟩ n c else lowT ⟨m, hs, ss⟩ c) = hs.map (endOf false) := by
      apply List.ext_getElem?
      intro j
      rw [List.getElem?_map, List.getElem?_map]
      by_cases hj : j < hs.length
      · rw [List.getElem?_range hj, List.getElem?_eq_getElem hj]
        simp [lowT, endOf, hj]
      · rw [List.getElem?_eq_none (by simp; omega), List.getElem?_eq_none (by omega)]; rfl
    rw [e]
    exact hown)
  clear hown hb1 HF hq
  go_wp2_with fail
  go_loopw [1, 6] (fun r i wr => ∃ k : Nat, k ≤ hs.length ∧ r = .int .i64 (restN ⟨m, hs, ss⟩ n k : Nat) ∧ i = .int .i64 k ∧ WcM w m (.slice (some ⟨hb, hoff, none⟩) hs.length hcap) (.slice (some ⟨sb, soff, none⟩) ss.length scap) q hs.length cap (fun c => if c < k then decT ⟨m, hs, ss⟩ n c else lowT ⟨m, hs, ss⟩ c) wr) (fun _ i _ => hs.length - (intOf i).toNat)
  case atStart => exact ⟨0, Nat.zero_le _, rfl, rfl, HM.out⟩
  case round =>
    clear HM
    obtain ⟨k, hk, rfl, rfl, L⟩ := hrel
    have HLL := Lib.hid L
    have f1 := L.f1
    have f2 := L.f2
    clear L
    by_cases hlt : k < hs.length
    · have hls : k < ss.length := by have := HL.out; omega
      obtain ⟨q0, q1, q2⟩ := HC.out k hlt wr HLL.out.be
      have hso := HS.out.1 k (by have := HL.out; show k < ss.length; omega)
      obtain ⟨z, hz⟩ : ∃ z, z = ss.getD k 0 := ⟨_, rfl⟩
      obtain ⟨lo, hlo⟩ : ∃ lo, lo = lowT ⟨m, hs, ss⟩ k := ⟨_, rfl⟩
      obtain ⟨up, hup⟩ : ∃ up, up = highT ⟨m, hs, ss⟩ k := ⟨_, rfl⟩
      obtain ⟨wN, hwN⟩ : ∃ wN, wN = wideN ⟨m, hs, ss⟩ k := ⟨_, rfl⟩
      obtain ⟨r, hr⟩ : ∃ r, r = restN ⟨m, hs, ss⟩ n k := ⟨_, rfl⟩
      have hwu : (wN : Int) = up - lo + 1 := by rw [hwN]; unfold wideN; omega
      have hrn : r ≤ 1000000 := by have := restN_le ⟨m, hs, ss⟩ n k; omega
      have HD : Hid (restN ⟨m, hs, ss⟩ n (k + 1) = (if z = 0 then r / wN else r) ∧ decT ⟨m, hs, ss⟩ n k = if z = 0 then lo + ((r % wN : Nat) : Int) else lo) := Lib.hid ⟨by rw [hz, hwN, hr]; rfl, by rw [hz, hwN, hr, hlo]; rfl⟩
      have p0 : wr.cell? ⟨q, k, none⟩ = some (.int .i64 lo) := by
        have := HLL.out.at hlt
        rw [if_neg (by omega), ← hlo] at this
        exact this
      have HLO := Lib.hid hlo
      rw [← hz] at q0
      rw [← hlo] at q1
      rw [← hup] at q2
      rw [← hr]
      rw [← hlo, ← hup] at hso
      clear hz hlo hup hwN hr
      by_cases hz0 : z = 0
      · have d0 : (z == 0) = true := by simpa using hz0
        have e1 : IntKind.i64.wrap (up - lo) = up - lo := IntWalk.i64_in _ (by omega)
        have e2 : IntKind.i64.wrap (up - lo + 1) = (wN : Int) := by rw [IntWalk.i64_in _ (by omega)]; omega
        have hw1 : ¬ wN = 0 := by omega
        have hw0 : ((wN : Int) == 0) = false := by rw [beq_eq_false_iff_ne]; omega
        obtain ⟨md, hmd⟩ : ∃ md, md = r % wN := ⟨_, rfl⟩
        obtain ⟨dv, hdv⟩ : ∃ dv, dv = r / wN := ⟨_, rfl⟩
        have e3 : (r : Int).tmod (wN : Int) = (md : Int) := by rw [hmd]; exact (Int.ofNat_tmod _ _).symm
        have e4 : (r : Int).tdiv (wN : Int) = (dv : Int) := by rw [hdv]; exact (Int.ofNat_tdiv _ _).symm
        have hmod : md < wN := by rw [hmd]; exact Nat.mod_lt _ (by omega)
        have hdiv : dv ≤ r := by rw [hdv]; exact Nat.div_le_self _ _
        have e5 : IntKind.i64.wrap (lo + (md : Int)) = lo + (md : Int) := IntWalk.i64_in _ (by omega)
        have e6 : IntKind.i64.wrap (dv : Int) = (dv : Int) := IntWalk.i64_in _ (by omega)
        have e7 : IntKind.i64.wrap (md : Int) = (md : Int) := IntWalk.i64_in _ (by omega)
        have HDD : Hid (restN ⟨m, hs, ss⟩ n (k + 1) = dv ∧ decT ⟨m, hs, ss⟩ n k = lo + (md : Int)) := Lib.hid ⟨by rw [HD.out.1, if_pos hz0, hdv], by rw [HD.out.2, if_pos hz0, hmd]⟩
        clear hmd hdv
        have fr := HLL.out.own.frozenAt k
        clear hz0 hwu hso hrn hmod hdiv HD
        go_wp2_with fail
        go_quiet (fail)
        have HLW := Lib.hid (HLL.out.below (below_drewN (Below.refl _ wr) nq))
        have p1 : (wr.drewN nq).cell? ⟨q, k, none⟩ = some (.int .i64 lo) := p0
        have fr1 : (wr.drewN nq).frozen? ⟨q, k, none⟩ = false := fr
        clear q0 q1 q2 f1 f2 p0 fr HLL
        go_wp2_with fail
        generalize wr.drewN nq = w6 at HLW p1 fr1 ⊢
        have hC : (fun W => W.cell? ⟨q, k, none⟩ = some (.int .i64 lo)) w6.drew := p1
        refine Lim.regC' (fun W => W.cell? ⟨q, k, none⟩ = some (.int .i64 lo)) [11] #[false, false, false, false, false, false, false, false, false, false, false, false] (by kernel_rfl) rfl ?_
        refine Lim.stepR 0 (fun _ => trivial) rfl (by kernel_rfl) (fun _ _ _ _ h => h) hC rfl ?_; apply Exists.intro; refine ⟨?_, ?_⟩
        · rintro w r1; go_simp; try with_reducible rfl
        simp only [Act.put, List.setIfInBounds_toArray, List.set_cons_succ, List.set_cons_zero]
        refine Lim.stepR 1 (fun _ => trivial) rfl (by kernel_rfl) (fun _ _ _ _ h => h) hC rfl ?_; apply Exists.intro; refine ⟨?_, ?_⟩
        · rintro w r1; go_simp; try with_reducible rfl
        simp only [Act.put, List.setIfInBounds_toArray, List.set_cons_succ, List.set_cons_zero]
        refine Lim.stepR 2 (fun _ => trivial) rfl (by kernel_rfl) (fun _ _ _ _ h => h) hC rfl ?_; apply Exists.intro; refine ⟨?_, ?_⟩
        · rintro w r1; go_simp; try with_reducible rfl
        simp only [Act.put, List.setIfInBounds_toArray, List.set_cons_succ, List.set_cons_zero]
        refine Lim.stepR 3 (fun _ => trivial) rfl (by kernel_rfl) (fun _ _ _ _ h => h) hC rfl ?_; apply Exists.intro; refine ⟨?_, ?_⟩
        · rintro w r1; go_simp; try with_reducible rfl
        simp only [Act.put, List.setIfInBounds_toArray, List.set_cons_succ, List.set_cons_zero]
        refine Lim.stepR 4 (fun _ => trivial) rfl (by kernel_rfl) (fun _ _ _ _ h => h) hC rfl ?_; apply Exists.intro; refine ⟨?_, ?_⟩
        · rintro w r1; go_simp; try with_reducible rfl
        simp only [Act.put, List.setIfInBounds_toArray, List.set_cons_succ, List.set_cons_zero]
        refine Lim.stepR 5 (fun _ => trivial) rfl (by kernel_rfl) (fun _ _ _ _ h => h) hC rfl ?_; apply Exists.intro; refine ⟨?_, ?_⟩
        · rintro w r1; go_simp; try with_reducible rfl
        simp only [Act.put, List.setIfInBounds_toArray, List.set_cons_succ, List.set_cons_zero]
        refine Lim.stepR 6 (fun _ => trivial) rfl (by kernel_rfl) (fun _ _ _ _ h => h) hC rfl ?_; apply Exists.intro; refine ⟨?_, ?_⟩
        · rintro w r1; go_simp; try with_reducible rfl
        simp only [Act.put, List.setIfInBounds_toArray, List.set_cons_succ, List.set_cons_zero]
        refine Lim.stepR 7 (fun _ => trivial) rfl (by kernel_rfl) (fun _ _ _ _ h => h) hC rfl ?_; apply Exists.intro; refine ⟨?_, ?_⟩
        · rintro w r1; go_simp; try with_reducible rfl
        simp only [Act.put, List.setIfInBounds_toArray, List.set_cons_succ, List.set_cons_zero]
        refine Lim.stepR 8 (fun _ => trivial) rfl (by kernel_rfl) (fun _ _ _ _ h => h) hC rfl ?_; apply Exists.intro; refine ⟨?_, ?_⟩
        · rintro w r1; go_simp; try with_reducible rfl
        simp only [Act.put, List.setIfInBounds_toArray, List.set_cons_succ, List.set_cons_zero]
        refine Lim.stepR 9 (fun _ => trivial) rfl (by kernel_rfl) (fun _ _ _ _ h => h) hC rfl ?_; apply Exists.intro; refine ⟨?_, ?_⟩
        · rintro w r1; go_simp; try with_reducible rfl
        simp only [Act.put, List.setIfInBounds_toArray, List.set_cons_succ, List.set_cons_zero]
        refine Lim.stepR 10 (fun _ => trivial) rfl (by kernel_rfl) (fun _ _ _ _ h => h) hC rfl ?_; apply Exists.intro; refine ⟨?_, ?_⟩
        · rintro w r1; go_simp; try with_reducible rfl
        simp only [Act.put, List.setIfInBounds_toArray, List.set_cons_succ, List.set_cons_zero]
        refine Lim.stepX 11 (fun _ => trivial) rfl (by kernel_rfl) rfl rfl (fun K hK => ?_)
        go_simp
        refine hK _ _ ?_
        refine Lim.segC (fun _ => True) [] (Lim.stepD (by kernel_rfl) ?_)
        have HST := Lib.hid ((HLW.out.store hlt (lo + (md : Int))).below (Below.refl _ _).drew)
        clear hC p1 fr1 HLW
        go_wp2
        go_roundw
        case rel => exact ⟨k + 1, by omega, by rw [HDD.out.1], by go_num, HST.out.ext (fun c hc => by
          by_cases e : c = k
          · subst e; rw [if_pos rfl, if_pos (by omega), HDD.out.2]
          · rw [if_neg e]
            by_cases h2 : c < k
            · rw [if_pos h2, if_pos (by omega)]
            · rw [if_neg h2, if_neg (by omega)])⟩
        case measure => simp [intOf]; omega
      · have d0 : (z == 0) = false := by rw [beq_eq_false_iff_ne]; exact hz0
        have HDD : Hid (restN ⟨m, hs, ss⟩ n (k + 1) = r ∧ decT ⟨m, hs, ss⟩ n k = lo) := Lib.hid ⟨by rw [HD.out.1, if_neg hz0], by rw [HD.out.2, if_neg hz0]⟩
        clear hz0 hwu hso hrn HD p0
        go_wp2
        go_roundw
        case rel => exact ⟨k + 1, by omega, by rw [HDD.out.1], by go_num, HLL.out.ext (fun c hc => by
          by_cases h2 : c < k
          · rw [if_pos h2, if_pos (by omega)]
          · rw [if_neg h2]
            by_cases e : c = k
            · subst e; rw [if_pos (by omega), HDD.out.2, HLO.out]
            · rw [if_neg (by omega)])⟩
        case measure => simp [intOf]; omega
    · obtain rfl : k = hs.length := by omega
      go_wp2
      go_ret
      refine ⟨_, rfl, ?_, HLL.out.be⟩
      have h1 := (HLL.out.ext (p' := decT ⟨m, hs, ss⟩ n) (fun c hc => if_pos hc)).own
      rw [lv_ints] at h1
      exact owns_mono h1 (Nat.le_succ _)
end Go.Proofs.Ytdgibmgifgdpbaa
/-
  Sides as the reference counts them, truth by truth: the contract of Sides.
-/
namespace Go.Proofs.Ytdgibmgifgdpbaa
open Go.RowKit Go.Shelf
open Lim

theorem rs_grow {W W' : World} {v : Value} {n : Nat} {xs : List Value} (h : RS W.heap.size W v n xs) (hb : Below W.heap.size W W') : RS W'.heap.size W' v n xs := (h.below hb).mono hb.size
theorem sea_range {ss : List Int} (h : badSea ss = false) (c : Nat) (hc : c < ss.length) : 0 ≤ ss.getD c 0 ∧ ss.getD c 0 ≤ 2 := by
  have := List.any_eq_false.1 h c (List.mem_range.2 hc)
  have h2 : inB (ss.getD c 0) 0 2 = true := by
    cases e : inB (ss.getD c 0) 0 2 with
    | true => rfl
    | false => rw [e] at this; exact absurd rfl this
  exact inB_iff.1 h2
theorem drain_range {ss : List Int} {p q : Nat → Int} {c : Nat} (h : 0 ≤ ss.getD c 0 ∧ ss.getD c 0 ≤ 2) : 0 ≤ drainOf ss p q c ∧ drainOf ss p q c ≤ 3 := by
  unfold drainOf drainI
  split
  · split
    · omega
    · split
      · omega
      · split <;> omega
  · omega
theorem IsPass.ext {g : Gd} {t t' : Nat → Int} {s : Int} {p : Nat → Int} (e : ∀ c, land g c → t c = t' c) (h : IsPass g t s p) : IsPass g t' s p :=
  ⟨h.top, fun c hc hp => R.ext e (h.sound c hc hp), fun c hc k hr => h.least c hc k (R.ext (fun c hl => (e c hl).symm) hr)⟩
theorem IsSaddle.ext {g : Gd} {t t' : Nat → Int} {r : Int} (e : ∀ c, land g c → t c = t' c) (h : IsSaddle g t r) : IsSaddle g t' r :=
  ⟨h.top, fun hr => let ⟨c, hl, ha, hR⟩ := h.hit hr; ⟨c, hl, ha, R.ext e hR⟩, fun c k ha hr => h.least c k ha (R.ext (fun c hl => (e c hl).symm) hr)⟩
theorem Dr.iff {g : Gd} {t : Nat → Int} {p q : Nat → Int} (hp : IsPass g t 1 p) (hq : IsPass g t 2 q) {c : Nat} (hc : c < g.n) (k : Int) : Dr g t c k ↔ drainOf g.ss p q c = k := by
  constructor
  · rintro ⟨p', q', hp', hq', h⟩
    unfold drainOf at h ⊢
    rw [hp.unique hp' hc, hq.unique hq' hc]
    exact h
  · intro h
    exact ⟨p, q, hp, hq, h⟩
/-- what the first k truths say -/
def Said (g : Gd) (k : Nat) (o : Nat → Bool) : Prop := ∀ c, c < g.n → ∀ j, j < 3 → (o (c * 3 + j) = true ↔ ∃ t, t < k ∧ Dr g (decT g t) c ((j : Int) + 1))
/-- and the next truth, as far as the first d cells go -/
def SaidTo (g : Gd) (k d : Nat) (o : Nat → Bool) : Prop := ∀ c, c < g.n → ∀ j, j < 3 → (o (c * 3 + j) = true ↔ (∃ t, t < k ∧ Dr g (decT g t) c ((j : Int) + 1)) ∨ (c < d ∧ Dr g (decT g k) c ((j : Int) + 1)))
theorem SaidTo.zero {g : Gd} {k : Nat} {o : Nat → Bool} (h : Said g k o) : SaidTo g k 0 o := fun c hc j hj => by
  rw [h c hc j hj]
  exact ⟨.inl, fun h => h.elim id (fun h => absurd h.1 (by omega))⟩
theorem SaidTo.done {g : Gd} {k : Nat} {o : Nat → Bool} (h : SaidTo g k g.n o) : Said g (k + 1) o := fun c hc j hj => by
  rw [h c hc j hj]
  constructor
  · rintro (⟨t, ht, hd⟩ | ⟨-, hd⟩)
    · exact ⟨t, by omega, hd⟩
    · exact ⟨k, by omega, hd⟩
  · rintro ⟨t, ht, hd⟩
    by_cases e : t = k
    · subst e; exact .inr ⟨hc, hd⟩
    · exact .inl ⟨t, by omega, hd⟩
theorem SaidTo.skip {g : Gd} {k d : Nat} {o : Nat → Bool} (h : SaidTo g k d o) (hn : ∀ j : Nat, ¬ Dr g (decT g k) d ((j : Int) + 1)) : SaidTo g k (d + 1) o := fun c hc j hj => by
  rw [h c hc j hj]
  constructor
  · rintro (h1 | ⟨h1, h2⟩)
    · exact .inl h1
    · exact .inr ⟨by omega, h2⟩
  · rintro (h1 | ⟨h1, h2⟩)
    · exact .inl h1
    · by_cases e : c = d
      · subst e; exact absurd h2 (hn j)
      · exact .inr ⟨by omega, h2⟩
theorem SaidTo.set {g : Gd} {k d i : Nat} {o : Nat → Bool} (h : SaidTo g k d o) (hi : i < 3) (hd : ∀ j : Nat, Dr g (decT g k) d ((j : Int) + 1) ↔ j = i) : SaidTo g k (d + 1) (fun x => if x = d * 3 + i then true else o x) := fun c hc j hj => by
  dsimp only
  by_cases e : c * 3 + j = d * 3 + i
  · have e1 : c = d := by omega
    have e2 : j = i := by omega
    subst e1 e2
    rw [if_pos rfl]
    exact ⟨fun _ => .inr ⟨by omega, (hd j).2 rfl⟩, fun _ => rfl⟩
  · rw [if_neg e, h c hc j hj]
    constructor
    · rintro (h1 | ⟨h1, h2⟩)
      · exact .inl h1
      · exact .inr ⟨by omega, h2⟩
    · rintro (h1 | ⟨h1, h2⟩)
      · exact .inl h1
      · by_cases e1 : c = d
        · subst e1
          have := (hd j).1 h2
          subst this
          exact absurd rfl e
        · exact .inr ⟨by omega, h2⟩
theorem Said.none {g : Gd} : Said g 0 (fun _ => false) := fun c hc j hj => ⟨fun h => (by cases h), fun ⟨t, h, _⟩ => absurd h (by omega)⟩
/-- memory while sides are counted -/
structure SiM (w : World) (m : Nat) (hv sv : Value) (q n : Nat) (o : Nat → Bool) (W : World) : Prop where
  f0 : W.cell? ⟨w.heap.size, 0, none⟩ = some (.int .i64 m)
  f1 : W.cell? ⟨w.heap.size, 1, none⟩ = some hv
  f2 : W.cell? ⟨w.heap.size, 2, none⟩ = some sv
  own : W.ownsRow (w.heap.size + 1) 42 3 (.slice (some ⟨q, 0, none⟩) n n) n (bl (n * 3) o)
  lt : w.heap.size < q
  be : Below w.heap.size w W
theorem SiM.at {w : World} {m : Nat} {hv sv : Value} {q n : Nat} {o : Nat → Bool} {W : World} (h : SiM w m hv sv q n o W) {k : Nat} (hk : k < n * 3) : W.cell? ⟨q, k, none⟩ = some (.bool (o k)) := by
  rw [h.own.cellAt k (by omega), bl_at o hk]
theorem SiM.below {w : World} {m : Nat} {hv sv : Value} {q n : Nat} {o : Nat → Bool} {W W' : World} (h : SiM w m hv sv q n o W) (hb : Below W.heap.size W W') : SiM w m hv sv q n o W' :=
  ⟨cell_on hb h.f0, cell_on hb h.f1, cell_on hb h.f2, owns_below h.own hb, h.lt, h.be.trans (hb.mono h.be.size)⟩
theorem SiM.store {w : World} {m : Nat} {hv sv : Value} {q n : Nat} {o : Nat → Bool} {W : World} (h : SiM w m hv sv q n o W) {k : Nat} (hk : k < n * 3) : SiM w m hv sv q n (fun y => if y = k then true else o y) (W.setCell ⟨q, k, none⟩ (.bool true)) := by
  refine ⟨(setCell_far _ _ (Nat.ne_of_gt h.lt)).trans h.f0, (setCell_far _ _ (Nat.ne_of_gt h.lt)).trans h.f1, (setCell_far _ _ (Nat.ne_of_gt h.lt)).trans h.f2, ?_, h.lt, h.be.setCell (p := ⟨q, k, none⟩) (Nat.le_of_lt h.lt) _⟩
  have := (h.own.stored k (.bool true)).1
  rw [bl_set o hk] at this
  exact this
theorem bl3_made (n : Nat) : (madeCells (Value.agg #[.bool false, .bool false, .bool false]).cells (n * 3)).toList = bl (n * 3) (fun _ => false) := by
  have e : (Value.agg #[.bool false, .bool false, .bool false]).cells = #[.bool false, .bool false, .bool false] := rfl
  rw [e]
  apply List.ext_getElem?
  intro j
  by_cases hj : j < n * 3
  · rw [bl_at _ hj]
    have h3 : j % 3 = 0 ∨ j % 3 = 1 ∨ j % 3 = 2 := by omega
    rcases h3 with h | h | h <;> simp [madeCells, hj, h]
  · simp [madeCells, bl, hj]
theorem infoTri : (Try.prog.info? 42).map (fun i => (i.zero, i.size, i.bytes)) = some (some (.agg #[.bool false, .bool false, .bool false]), 3, 3) := by kernel_rfl

set_option maxRecDepth 20000 in
set_option maxHeartbeats 4000000 in
theorem rsides_any {B m : Nat} {hv sv : Value} {hs : List (Int × Int)} {ss : List Int} {w : World} (hB : B ≤ w.heap.size) (hh : RS B w hv hs.length (spans hs)) (hss : RS B w sv ss.length (ints ss)) (he : openErr m hs ss = 0) :
    Calls Try.prog 20 #[.agg #[.int .i64 m, hv, sv]] w fun e w' => ∃ v o, e = .returned (.tuple #[v, .int .i64 0]) ∧ w'.ownsRow w.heap.size 42 3 v ss.length (bl (ss.length * 3) o) ∧ Said ⟨m, hs, ss⟩ (trsTo ⟨m, hs, ss⟩ ss.length).toNat o ∧ Below w.heap.size w w' := by
  have B1 : Below w.heap.size w (w.alloc (.cells #[.int .i64 m, hv, sv] 28)) := (Below.refl _ w).alloc (Nat.le_refl _) _
  have CO := Lib.hid (rcheck_any (B := B) (wd := m) (w := w.alloc (.cells #[.int .i64 m, hv, sv] 28)) (by have := B1.size; omega) (hh.below (B1.mono hB)) (hss.below (B1.mono hB)))
  rw [he] at CO
  have HOK : Hid (Gd.Ok ⟨m, hs, ss⟩) := Lib.hid (openErr_ok he)
  have HSO : Hid (SpansOk ⟨m, hs, ss⟩) := Lib.hid (fun c hc => ends_range2 (wd := m) he hc)
  have HSS : Hid (∀ c, c < ss.length → 0 ≤ ss.getD c 0 ∧ ss.getD c 0 ≤ 2) := Lib.hid (sea_range (openErr_zero he).2.1)
  have hlen : hs.length = ss.length := HOK.out.hn
  have hl : ss.length ≤ 100 := HOK.out.n1
  have hpos : 0 < ss.length := by
    have := (openErr_zero he).2.2.2.1
    exact List.length_pos_of_mem this
  have HRS := Lib.hid (And.intro hh (And.intro hss hB))
  obtain ⟨ha, hcap, rfl, -⟩ := hh
  obtain ⟨sa, scap, rfl, -⟩ := hss
  have HL := Lib.hid hlen
  obtain ⟨i0, hi, hz0, hz1, hz2⟩ := info_parts infoTri
  have HI := Lib.hid (And.intro hi (And.intro hz0 (And.intro hz1 hz2)))
  clear he hi hz0 hz1 hz2 hlen
  have f0 : (w.alloc (.cells #[.int .i64 m, .slice ha hs.length hcap, .slice sa ss.length scap] 28)).cell? ⟨w.heap.size, 0, none⟩ = some (.int .i64 m) := by simp [go_sem]
  have f1 : (w.alloc (.cells #[.int .i64 m, .slice ha hs.length hcap, .slice sa ss.length scap] 28)).cell? ⟨w.heap.size, 1, none⟩ = some (.slice ha hs.length hcap) := by simp [go_sem]
  have f2 : (w.alloc (.cells #[.int .i64 m, .slice ha hs.length hcap, .slice sa ss.length scap] 28)).cell? ⟨w.heap.size, 2, none⟩ = some (.slice sa ss.length scap) := by simp [go_sem]
  have HF := Lib.hid (And.intro B1 (And.intro f0 (And.intro f1 f2)))
  clear f0 f1 f2 B1
  have CTR : Hid (∀ W, Below w.heap.size w W → Calls Try.prog 17 #[.agg #[.int .i64 m, .slice ha hs.length hcap, .slice sa ss.length scap]] W fun e w' => e = .returned (.int .i64 (trsTo ⟨m, hs, ss⟩ ss.length)) ∧ Below W.heap.size W w') := Lib.hid (fun W hbW =>
    truths_any (B := B) (by have h1 := HRS.out.2.2; have h2 := hbW.size; omega) (HRS.out.1.below (hbW.mono HRS.out.2.2)) (HRS.out.2.1.below (hbW.mono HRS.out.2.2)) HOK.out HSO.out)
  have CTH : Hid (∀ (n : Nat) W, n ≤ 1000000 → Below w.heap.size w W → Calls Try.prog 59 #[.agg #[.int .i64 m, .slice ha hs.length hcap, .slice sa ss.length scap], .int .i64 n] W fun e w' => ∃ v, e = .returned v ∧ w'.ownsRow W.heap.size 3 1 v hs.length (ints ((List.range hs.length).map (decT ⟨m, hs, ss⟩ n))) ∧ Below W.heap.size W w') := Lib.hid (fun n W hn hbW =>
    rtruth_any (B := B) (by have h1 := HRS.out.2.2; have h2 := hbW.size; omega) (HRS.out.1.below (hbW.mono HRS.out.2.2)) (HRS.out.2.1.below (hbW.mono HRS.out.2.2)) HOK.out HSO.out hpos hn)
  obtain ⟨N, hN⟩ : ∃ N : Nat, trsTo ⟨m, hs, ss⟩ ss.length = N ∧ N ≤ 1000000 := by
    have := trsTo_range HSO.out ss.length (Nat.le_refl _)
    exact ⟨(trsTo ⟨m, hs, ss⟩ ss.length).toNat, by omega, by omega⟩
  have hN2 := hN.2
  have HN := Lib.hid hN.1
  rw [hN.1] at CTR ⊢
  clear hN
  go_enter Try.func20, Try.ntmps20
  go_wp2_with fail
  refine CO.out.mono ?_
  clear CO
  rintro e w1 ⟨rfl, hb1⟩
  have HF1 := Lib.hid (And.intro (HF.out.1.trans (hb1.mono HF.out.1.size)) (And.intro (cell_on hb1 HF.out.2.1) (And.intro (cell_on hb1 HF.out.2.2.1) (cell_on hb1 HF.out.2.2.2))))
  clear hb1 HF
  have f2 := HF1.out.2.2.2
  have hlt1 : w.heap.size < w1.heap.size := World.block_lt_of_cell? _ _ HF1.out.2.1
  go_wp2_with (refine wpList_make_full _ rfl _ _ 37 rfl (w.heap.size + 1) 42 i0 (.agg #[.bool false, .bool false, .bool false]) 3 Try.underlying37 HI.out.1 HI.out.2.1 HI.out.2.2.1 .i64 .i64 _ _ ss.length rfl rfl rfl rfl (by rw [HI.out.2.2.2]; omega) (by unfold maxLen; omega) hlt1 ?_; intro w3 hown3 hgr3)
  have HM0 : Hid (SiM w m (.slice ha hs.length hcap) (.slice sa ss.length scap) w1.heap.size ss.length (fun _ => false) w3) := Lib.hid (by
    rw [bl3_made] at hown3
    have hb : Below w1.heap.size w1 w3 := ⟨hgr3.os, hgr3.tape, hgr3.output, hgr3.size, fun k hk => hgr3.block k hk (by simp)⟩
    exact ⟨cell_on hb HF1.out.2.1, cell_on hb HF1.out.2.2.1, cell_on hb HF1.out.2.2.2, hown3, hlt1, HF1.out.1.trans (hb.mono HF1.out.1.size)⟩)
  clear hown3 hgr3 HF1 f2 hlt1
  generalize w1.heap.size = q at HM0 ⊢
  go_loopw [6] (fun i W => ∃ (k : Nat) (o : Nat → Bool), k ≤ N ∧ i = .int .i64 k ∧ SiM w m (.slice ha hs.length hcap) (.slice sa ss.length scap) q ss.length o W ∧ Hid (Said ⟨m, hs, ss⟩ k o)) (fun i _ => N - (intOf i).toNat)
  case atStart => exact ⟨0, _, Nat.zero_le _, rfl, HM0.out, Lib.hid Said.none⟩
  case round =>
    clear HM0
    obtain ⟨k, o, hk, rfl, L, hO⟩ := hrel
    have HLL := Lib.hid L
    obtain ⟨f0, f1, f2, -, -, -⟩ := L
    go_wp2_with fail
    refine (CTR.out wr HLL.out.be).mono ?_
    rintro e w6 ⟨rfl, hb6⟩
    have HL6 := Lib.hid (HLL.out.below hb6)
    clear hb6 HLL f0 f1 f2
    obtain ⟨f0, f1, f2, -, -, -⟩ := HL6.out
    by_cases hkN : k < N
    · go_wp2_with fail
      refine (CTH.out k w6 (by omega) HL6.out.be).mono ?_
      rintro e w8 ⟨v7, rfl, ho7, hb8⟩
      have HL8 := Lib.hid (HL6.out.below hb8)
      obtain ⟨ta, tcap, rfl, -⟩ := RS.of_owns ho7
      have HT7 := Lib.hid (RS.of_owns ho7)
      clear ho7 hb8 HL6 f0 f1 f2
      have HLD := Lib.hid (HL8.out.below (Below.refl _ w8).drew)
      have HQQ1 : q + 1 ≤ w8.drew.heap.size := by have := World.block_lt_of_cell? _ _ (HLD.out.at (k := 0) (by omega)); exact this
      have hC : (fun W => W.cell? ⟨w.heap.size, 0, none⟩ = some (.int .i64 m) ∧ W.cell? ⟨w.heap.size, 1, none⟩ = some (.slice ha hs.length hcap) ∧ W.cell? ⟨w.heap.size, 2, none⟩ = some (.slice sa ss.length scap)) w8.drew := ⟨HLD.out.f0, HLD.out.f1, HLD.out.f2⟩
      have CPP : Hid (∀ (s : Int) (W : World), Below w.heap.size w W → RS W.heap.size W (.slice ta hs.length tcap) hs.length (ints ((List.range hs.length).map (decT ⟨m, hs, ss⟩ k))) → Calls Try.prog 60 #[.agg #[.int .i64 m, .slice ha hs.length hcap, .slice sa ss.length scap], .slice ta hs.length tcap, .int .i64 s] W fun e w' => ∃ v p, e = .returned v ∧ w'.ownsRow W.heap.size 3 1 v ss.length (ints ((List.range ss.length).map p)) ∧ IsPass ⟨m, hs, ss⟩ (decT ⟨m, hs, ss⟩ k) s p ∧ Below W.heap.size W w') := Lib.hid (fun s W hbW hv => by
        have h := Pass_any (B := W.heap.size) (g := ⟨m, hs, ss⟩) (hv := .slice ha hs.length hcap) (sv := .slice sa ss.length scap) (T := (List.range hs.length).map (decT ⟨m, hs, ss⟩ k)) (s := s) (tv := .slice ta hs.length tcap) (w := W) HOK.out (by simp; exact HL.out) (Nat.le_refl _) ((HRS.out.2.1.below (hbW.mono HRS.out.2.2)).mono (by have h1 := HRS.out.2.2; have h2 := hbW.size; omega)) (by simpa using hv)
        refine h.mono ?_
        rintro e w' ⟨v, p, h1, h2, h3, h4⟩
        exact ⟨v, p, h1, h2, h3.ext (fun c hl => by
          have hc : c < hs.length := by have h5 : c < ss.length := hl.1; have := HL.out; omega
          simp [List.getD_eq_getElem?_getD, hc]), h4⟩)
      go_wp2_with fail
      refine Lim.regC' (fun W => W.cell? ⟨w.heap.size, 0, none⟩ = some (.int .i64 m) ∧ W.cell? ⟨w.heap.size, 1, none⟩ = some (.slice ha hs.length hcap) ∧ W.cell? ⟨w.heap.size, 2, none⟩ = some (.slice sa ss.length scap)) [] #[false, false, false, false, false, false, false, false] (by kernel_rfl) rfl ?_
      refine Lim.stepR 0 (fun _ => trivial) rfl (by kernel_rfl) (fun _ _ _ _ h => h) hC rfl ?_; apply Exists.intro; refine ⟨?_, ?_⟩
      · rintro w ⟨r1, r2, r3⟩; go_simp; try with_reducible rfl
      simp only [Act.put, List.setIfInBounds_toArray, List.set_cons_succ, List.set_cons_zero]
      refine Lim.stepR 1 (fun _ => trivial) rfl (by kernel_rfl) (fun _ _ _ _ h => h) hC rfl ?_; apply Exists.intro; refine ⟨?_, ?_⟩
      · rintro w ⟨r1, r2, r3⟩; go_simp; try with_reducible rfl
      simp only [Act.put, List.setIfInBounds_toArray, List.set_cons_succ, List.set_cons_zero]
      refine Lim.stepR 3 (fun _ => trivial) rfl (by kernel_rfl) (fun _ _ _ _ h => h) hC rfl ?_; apply Exists.intro; refine ⟨?_, ?_⟩
      · rintro w ⟨r1, r2, r3⟩; go_simp; try with_reducible rfl
      simp only [Act.put, List.setIfInBounds_toArray, List.set_cons_succ, List.set_cons_zero]
      refine Lim.stepR 4 (fun _ => trivial) rfl (by kernel_rfl) (fun _ _ _ _ h => h) hC rfl ?_; apply Exists.intro; refine ⟨?_, ?_⟩
      · rintro w ⟨r1, r2, r3⟩; go_simp; try with_reducible rfl
      simp only [Act.put, List.setIfInBounds_toArray, List.set_cons_succ, List.set_cons_zero]
      refine Lim.stepE 2 (fun _ => trivial) rfl (by kernel_rfl) rfl (fun K hK => ?_)   -- E call
      go_simp
      refine ⟨rfl, (callsIn_wide.2 (CPP.out 1 w8.drew HLD.out.be (rs_grow HT7.out ((Below.refl _ _).drew)))).mono ?_⟩
      rintro e w9 ⟨v1, p1, rfl, ho1, hp1, hb1⟩
      have HL1 := Lib.hid (HLD.out.below hb1)
      have HP1 := Lib.hid hp1
      have HO1 := Lib.hid (owns_mono ho1 (HQQ1))
      have hC1 : (fun W => W.cell? ⟨w.heap.size, 0, none⟩ = some (.int .i64 m) ∧ W.cell? ⟨w.heap.size, 1, none⟩ = some (.slice ha hs.length hcap) ∧ W.cell? ⟨w.heap.size, 2, none⟩ = some (.slice sa ss.length scap)) w9 := ⟨HL1.out.f0, HL1.out.f1, HL1.out.f2⟩
      have HB1 := Lib.hid hb1
      have HQQ2 : q + 1 ≤ w9.heap.size := Nat.le_trans HQQ1 hb1.size
      clear ho1 hp1 hb1
      refine hK _ _ hC1 ?_
      simp only [Act.put, List.setIfInBounds_toArray, List.set_cons_succ, List.set_cons_zero]
      refine Lim.stepE 5 (fun _ => trivial) rfl (by kernel_rfl) rfl (fun K hK => ?_)   -- E call
      go_simp
      refine ⟨rfl, (callsIn_wide.2 (CPP.out 2 w9 HL1.out.be (rs_grow HT7.out ((Below.refl w8.heap.size w8).drew.trans (HB1.out.mono (Nat.le_refl _)))))).mono ?_⟩
      rintro e w10 ⟨v2, p2, rfl, ho2, hp2, hb2⟩
      have HL2 := Lib.hid (HL1.out.below hb2)
      have HP2 := Lib.hid hp2
      have HO2 := Lib.hid (owns_mono ho2 (HQQ2))
      have hC2 : (fun W => W.cell? ⟨w.heap.size, 0, none⟩ = some (.int .i64 m) ∧ W.cell? ⟨w.heap.size, 1, none⟩ = some (.slice ha hs.length hcap) ∧ W.cell? ⟨w.heap.size, 2, none⟩ = some (.slice sa ss.length scap)) w10 := ⟨HL2.out.f0, HL2.out.f1, HL2.out.f2⟩
      have HB2 := Lib.hid hb2
      clear ho2 hp2 hb2
      refine hK _ _ hC2 ?_
      simp only [Act.put, List.setIfInBounds_toArray, List.set_cons_succ, List.set_cons_zero]
      refine Lim.stepR 6 (fun _ => trivial) rfl (by kernel_rfl) (fun _ _ _ _ h => h) hC2 rfl ?_; apply Exists.intro; refine ⟨?_, ?_⟩
      · rintro w ⟨r1, r2, r3⟩; go_simp; try with_reducible rfl
      simp only [Act.put, List.setIfInBounds_toArray, List.set_cons_succ, List.set_cons_zero]
      refine Lim.stepR 7 (fun _ => trivial) rfl (by kernel_rfl) (fun _ _ _ _ h => h) hC2 rfl ?_; apply Exists.intro; refine ⟨?_, ?_⟩
      · rintro w ⟨r1, r2, r3⟩; go_simp; try with_reducible rfl
      simp only [Act.put, List.setIfInBounds_toArray, List.set_cons_succ, List.set_cons_zero]
      refine Lim.stepD (by kernel_rfl) ?_
      have HO1b := Lib.hid (owns_below HO1.out HB2.out)
      clear hC hC1 hC2 HO1 HB1 HB2 HL1 HLD HL8 CPP
      go_wp2_with fail
      go_loopw [10] (fun i W => ∃ (d : Nat) (o : Nat → Bool), d ≤ hs.length ∧ i = .int .i64 d ∧ SiM w m (.slice ha hs.length hcap) (.slice sa ss.length scap) q ss.length o W ∧ Hid (SaidTo ⟨m, hs, ss⟩ k d o) ∧ Hid (W.ownsRow (q + 1) 3 1 v1 ss.length (ints ((List.range ss.length).map p1)) ∧ W.ownsRow (q + 1) 3 1 v2 ss.length (ints ((List.range ss.length).map p2)))) (fun i _ => hs.length - (intOf i).toNat)
      case atStart => exact ⟨0, o, Nat.zero_le _, rfl, HL2.out, Lib.hid SaidTo.zero hO.out, Lib.hid ⟨HO1b.out, HO2.out⟩⟩
      case round =>
        clear HL2 HO1b HO2 HT7
        obtain ⟨d, o', hd, rfl, L, hT, hV⟩ := hrel
        have HLL := Lib.hid L
        obtain ⟨f0, f1, f2, -, -, -⟩ := L
        by_cases hlt : d < hs.length
        · have hds : d < ss.length := by have := HL.out; omega
          go_wp2_with fail
          refine (drain_any (B := wr.heap.size) (ss := ss) (a := p1) (b := p2) (c := d) hl hds (Nat.le_refl _) ((HRS.out.2.1.below (HLL.out.be.mono HRS.out.2.2)).mono (by have h1 := HRS.out.2.2; have h2 := HLL.out.be.size; omega)) (RS.of_owns hV.out.1) (RS.of_owns hV.out.2)).mono ?_
          rintro e w13 ⟨rfl, hb13⟩
          have HL13 := Lib.hid (HLL.out.below hb13)
          have hV2 := Lib.hid (And.intro (owns_below hV.out.1 hb13) (owns_below hV.out.2 hb13))
          clear hb13 HLL hV f0 f1 f2
          have hdr := drain_range (p := p1) (q := p2) (HSS.out d hds)
          have HDR : Hid (∀ j : Nat, Dr ⟨m, hs, ss⟩ (decT ⟨m, hs, ss⟩ k) d ((j : Int) + 1) ↔ drainOf ss p1 p2 d = (j : Int) + 1) := Lib.hid (fun j => Dr.iff HP1.out HP2.out hds _)
          obtain ⟨dr, hdre⟩ : ∃ dr, dr = drainOf ss p1 p2 d := ⟨_, rfl⟩
          rw [← hdre] at HDR hdr ⊢
          clear hdre
          by_cases hd0 : dr = 0
          · have d0 : decide ((0 : Int) < dr) = false := by simp; omega
            have HSK : Hid (SaidTo ⟨m, hs, ss⟩ k (d + 1) o') := Lib.hid (SaidTo.skip hT.out (fun j hj => by have := (HDR.out j).1 hj; omega))
            clear hd0 hdr HDR
            go_wp2
            go_roundw
            case rel => exact ⟨d + 1, o', by omega, by go_num, HL13.out, HSK, hV2⟩
            case measure => simp [intOf]; omega
          · have d0 : decide ((0 : Int) < dr) = true := by simp; omega
            obtain ⟨j, hj⟩ : ∃ j : Nat, dr = (j : Int) + 1 := ⟨(dr - 1).toNat, by omega⟩
            have hj3 : j < 3 := by omega
            have e1 : IntKind.i64.wrap (dr - 1) = (j : Int) := by rw [IntWalk.i64_in _ (by omega)]; omega
            have hi3 : d * 3 + j < ss.length * 3 := by omega
            have q0 := HL13.out.at hi3
            have fr := HL13.out.own.frozenAt (d * 3 + j)
            have HST := Lib.hid (HL13.out.store hi3)
            have HSE : Hid (SaidTo ⟨m, hs, ss⟩ k (d + 1) (fun x => if x = d * 3 + j then true else o' x)) := Lib.hid (SaidTo.set hT.out hj3 (fun i => by rw [HDR.out i]; omega))
            have hV3 := Lib.hid (And.intro (owns_setCell hV2.out.1 (p := q) (j := d * 3 + j) (.bool true) (Nat.lt_succ_self _)) (owns_setCell hV2.out.2 (p := q) (j := d * 3 + j) (.bool true) (Nat.lt_succ_self _)))
            clear hd0 hdr HDR hV2 HL13 hj hi3
            go_wp2
            go_roundw
            case rel => exact ⟨d + 1, _, by omega, by go_num, HST.out, HSE, hV3⟩
            case measure => simp [intOf]; omega
        · obtain rfl : d = hs.length := by omega
          have HSD : Hid (Said ⟨m, hs, ss⟩ (k + 1) o') := Lib.hid (by have h := hT.out; rw [HL.out] at h; exact SaidTo.done h)
          have hkb : (k : Int) < 1000000 := by omega
          clear hT hV f0 f1 f2
          go_wp2
          go_roundw
          case rel => exact ⟨k + 1, o', by omega, by go_num, HLL.out, HSD⟩
          case measure => simp [intOf]; omega
    · obtain rfl : k = N := by omega
      go_wp2
      go_ret2
      exact ⟨_, o, rfl, owns_mono HL6.out.own (Nat.le_succ _), hO.out, HL6.out.be⟩
end Go.Proofs.Ytdgibmgifgdpbaa
