/-
  Parts of the proof, in the order in which they build: PlainB, SureP.
-/
import Derived.Test.YtdgibmgifgdpbaaH12
import Derived.Test.YtdgibmgifgdpbaaH13
set_option linter.unusedVariables false
set_option linter.unusedSimpArgs false
/-
  Plain laws for the statements that try truths: what does not depend on heights, and what lies between.
-/
namespace Go.Proofs.Ytdgibmgifgdpbaa
open Lim

theorem R.hs {m : Nat} {hs hs' : List (Int × Int)} {ss : List Int} {t : Nat → Int} {s h : Int} {c : Nat} (hr : R ⟨m, hs, ss⟩ t s h c) : R ⟨m, hs', ss⟩ t s h c := by
  induction hr with
  | base ha hb => exact .base ha hb
  | step ha hn _ ih => exact .step ha hn ih
theorem IsPass.hs {m : Nat} {hs hs' : List (Int × Int)} {ss : List Int} {t p : Nat → Int} {s : Int} (h : IsPass ⟨m, hs, ss⟩ t s p) : IsPass ⟨m, hs', ss⟩ t s p :=
  ⟨h.top, fun c hc hp => (h.sound c hc hp).hs, fun c hc k hr => h.least c hc k hr.hs⟩
theorem IsSaddle.hs {m : Nat} {hs hs' : List (Int × Int)} {ss : List Int} {t : Nat → Int} {r : Int} (h : IsSaddle ⟨m, hs, ss⟩ t r) : IsSaddle ⟨m, hs', ss⟩ t r :=
  ⟨h.top, fun hr => let ⟨c, hl, ha, hh⟩ := h.hit hr; ⟨c, hl, ha, hh.hs⟩, fun c k ha hr => h.least c k ha hr.hs⟩
/-- whether there is a way does not depend on the heights -/
theorem IsPass.never {g : Gd} {t t' p p' : Nat → Int} {s : Int} (h : IsPass g t s p) (h' : IsPass g t' s p') (hb : ∀ c, land g c → t' c ≤ 10000) {c : Nat} (hc : c < g.n) (e : p' c = 10001) : p c = 10001 := by
  have h1 := h.top c hc
  rcases Int.lt_or_le (p c) 10001 with h2 | h2
  · have h3 : R g t' s 10000 c := R.mono (fun x hl _ => hb x hl) (h.sound c hc h2)
    have := h'.least c hc _ h3
    omega
  · omega
theorem IsSaddle.never {g : Gd} {t t' : Nat → Int} {r r' : Int} (h : IsSaddle g t r) (h' : IsSaddle g t' r') (hb : ∀ c, land g c → t' c ≤ 10000) (e : r' = 10001) : r = 10001 := by
  have h1 := h.top
  rcases Int.lt_or_le r 10001 with h2 | h2
  · obtain ⟨c, hl, ha, hr⟩ := h.hit h2
    have h3 : R g t' 2 10000 c := R.mono (fun x hl _ => hb x hl) hr
    have := h'.least c _ ha h3
    omega
  · omega
theorem IsSaddle.low {g : Gd} {t : Nat → Int} {r k : Int} (h : IsSaddle g t r) (hk : k ≤ 10000) (hb : ∀ c, land g c → k ≤ t c) : k ≤ r := by
  rcases Int.lt_or_le r 10001 with h2 | h2
  · obtain ⟨c, hl, ha, hr⟩ := h.hit h2
    have := (Re.in_A hr).2
    have := hb c hl
    omega
  · omega
theorem IsPass.low {g : Gd} {t p : Nat → Int} {s k : Int} (h : IsPass g t s p) (hk : k ≤ 10000) (hb : ∀ c, land g c → k ≤ t c) {c : Nat} (hc : c < g.n) : k ≤ p c := by
  rcases Int.lt_or_le (p c) 10001 with h2 | h2
  · have := Re.in_A (h.sound c hc h2)
    have h3 := this.2
    have := hb c this.1
    omega
  · omega
/-- where there is a saddle, some cell is one -/
theorem saddle_cell {g : Gd} (hg : g.Ok) {t : Nat → Int} {h : Int} (hs : IsSaddle g t h) (hh : h < 10001) : ∃ c, R g t 1 h c ∧ R g t 2 h c ∧ t c = h := by
  apply Classical.byContradiction
  intro hno
  have hlt : ∀ c, R g t 1 h c → R g t 2 h c → t c ≤ h - 1 := fun c h1 h2 => by
    have h3 := (Re.in_A h1).2
    by_cases e : t c = h
    · exact absurd ⟨c, h1, h2, e⟩ hno
    · omega
  obtain ⟨c, hl, ha, hr⟩ := hs.hit hh
  have key : ∀ c, R g t 2 h c → R g t 1 h c → R g t 2 (h - 1) c := by
    intro c hr
    induction hr with
    | @base c ha hb => exact fun h1 => .base ⟨ha.1, hlt c h1 (.base ha hb)⟩ hb
    | @step c k ha hn hr ih => exact fun h1 => .step ⟨ha.1, hlt c h1 (.step ha hn hr)⟩ hn (ih (.step (Re.in_A hr) (nb_symm hg ha.1.1 hn) h1))
  have h1 : R g t 1 h c := .base (Re.in_A hr) ha
  have := hs.least c _ ha (key c hr h1)
  omega
/-- a truth as a list -/
structure InSp (hs : List (Int × Int)) (T : List Int) : Prop where
  len : T.length = hs.length
  r : ∀ c, c < hs.length → (hs.getD c (0, 0)).1 ≤ T.getD c 0 ∧ T.getD c 0 ≤ (hs.getD c (0, 0)).2
theorem InSp.in {hs : List (Int × Int)} {T : List Int} (h : InSp hs T) : inSpans hs T = true := by
  unfold inSpans
  rw [List.all_eq_true]
  intro c hc
  exact inB_iff.2 (h.r c (List.mem_range.1 hc))
theorem InSp.tr {m : Nat} {hs : List (Int × Int)} {ss T : List Int} (h : InSp hs T) (hl : hs.length = ss.length) : Tr ⟨m, hs, ss⟩ (fun c => T.getD c 0) := fun c hc => by
  rw [low_get, high_get]
  exact h.r c (by have : c < ss.length := hc.1; omega)
/-- the ground of a truth is right -/
theorem just_open {m : Nat} {hs H : List (Int × Int)} {ss T : List Int} (ho : openErr (m : Int) hs ss = 0) (hT : InSp hs T) (hH : H.length = hs.length) (hg : ∀ c, c < hs.length → 0 ≤ (H.getD c (0, 0)).1 ∧ (H.getD c (0, 0)).1 ≤ (H.getD c (0, 0)).2 ∧ (H.getD c (0, 0)).2 ≤ 10000) : openErr (m : Int) H ss = 0 := by
  have hok : Gd.Ok ⟨m, hs, ss⟩ := openErr_ok ho
  have hz := openErr_zero ho
  have hn : hs.length = ss.length := hok.hn
  have g1 : goodCount (m : Int) H ss = true := by
    have := hz.1
    unfold goodCount at this ⊢
    rw [hH]; exact this
  have g3 : badSpan H = false := by
    unfold badSpan
    rw [List.any_eq_false]
    intro k hk
    have := hg k (by have := List.mem_range.1 hk; omega)
    rw [inB_t ⟨this.1, this.2.1⟩]
    have h3 : decide (10000 < (H.getD k (0, 0)).2) = false := by rw [decide_eq_false_iff_not]; omega
    rw [h3]; decide
  have g4 : clash ⟨(m : Int).toNat, H, ss⟩ = false := hz.2.2.2.2.2
  unfold openErr
  rw [g1, hz.2.1, g3, g4, if_neg (by decide), if_neg (by decide), if_neg (by simp [hz.2.2.2.1, hz.2.2.2.2.1]), if_neg (by decide)]
end Go.Proofs.Ytdgibmgifgdpbaa
/-
  What a watershed says of each truth: plain laws.
-/
namespace Go.Proofs.Ytdgibmgifgdpbaa
open Lim

theorem drain_len {wd : Int} {hs : List (Int × Int)} {ss T : List Int} {er : Int} {l : List Int} (ho : openErr wd hs ss = 0) (hT : InSp hs T) (h : DrainAns wd hs ss T er l) :
    er = 0 ∧ ∃ a b, IsPass ⟨wd.toNat, hs, ss⟩ (fun c => T.getD c 0) 1 a ∧ IsPass ⟨wd.toNat, hs, ss⟩ (fun c => T.getD c 0) 2 b ∧ l = (List.range ss.length).map (drainOf ss a b) := by
  rcases h with ⟨h0, -⟩ | ⟨-, h1, -⟩ | ⟨-, -, h1, -⟩ | ⟨-, -, -, h1, h2⟩
  · exact absurd ho h0
  · exact absurd hT.len h1
  · rw [hT.in] at h1; cases h1
  · exact ⟨h1, h2⟩
theorem SpansOk.of {m : Nat} {hs : List (Int × Int)} {ss : List Int} (ho : openErr (m : Int) hs ss = 0) : SpansOk ⟨m, hs, ss⟩ := fun c hc => by
  have := ends_range2 ho (c := c) hc
  exact this
theorem seas_of {m : Nat} {hs : List (Int × Int)} {ss : List Int} (ho : openErr (m : Int) hs ss = 0) : ∀ c, c < ss.length → 0 ≤ ss.getD c 0 ∧ ss.getD c 0 ≤ 2 := fun c hc => by
  have h := List.any_eq_false.1 (openErr_zero ho).2.1 c (List.mem_range.2 hc)
  simp only [Bool.not_eq_true', Bool.not_eq_false] at h
  exact inB_iff.1 h
/-- a cell that is dry in a truth is dry in each -/
theorem dry_all {g : Gd} (hs : SpansOk g) {t t' : Nat → Int} (ht : Tr g t) (ht' : Tr g t') {c : Nat} (hc : c < g.n) {k : Int} (h : Dr g t c 0) (h' : Dr g t' c k) (hv : 0 ≤ g.ss.getD c 0) : k = 0 := by
  obtain ⟨p, q, hp, hq, hk⟩ := h
  obtain ⟨p', q', hp', hq', rfl⟩ := h'
  unfold drainOf at hk ⊢
  by_cases hl : g.ss.getD c 0 = 0
  · rw [if_pos hl] at hk ⊢
    have h1 : p c = 10001 ∧ q c = 10001 := by
      unfold drainI at hk
      split at hk
      · assumption
      · split at hk
        · cases hk
        · split at hk <;> cases hk
    have hb : ∀ x, land g x → t x ≤ 10000 := fun x hx => by have := (ht x hx).2; have := hs x hx.1; omega
    have e1 := hp'.never hp hb hc h1.1
    have e2 := hq'.never hq hb hc h1.2
    unfold drainI
    rw [if_pos ⟨e1, e2⟩]
  · rw [if_neg hl] at hk
    exact absurd hk hl
theorem sure_drains {m : Nat} {hs : List (Int × Int)} {ss T : List Int} {er : Int} {l : List Int} {sl : List (Bool × Bool × Bool)} (ho : openErr (m : Int) hs ss = 0) (hT : InSp hs T) (h : DrainAns (m : Int) hs ss T er l) (hsl : SidesG ⟨m, hs, ss⟩ sl) :
    er = 0 ∧ l.length = ss.length ∧ ∀ c, c < ss.length → (l.getD c 0 = 1 → (sl.getD c (false, false, false)).1 = true) ∧ (l.getD c 0 = 2 → (sl.getD c (false, false, false)).2.1 = true) ∧ (l.getD c 0 = 3 → (sl.getD c (false, false, false)).2.2 = true) ∧
      (l.getD c 0 = 0 → sl.getD c (false, false, false) = (false, false, false)) := by
  have hok : Gd.Ok ⟨m, hs, ss⟩ := openErr_ok ho
  have hso := SpansOk.of ho
  have hv := seas_of ho
  obtain ⟨h0, a, b, ha, hb, rfl⟩ := drain_len ho hT h
  have ht := hT.tr (m := m) (ss := ss) hok.hn
  obtain ⟨-, hsay⟩ := sides_say hok hso hv hsl
  refine ⟨h0, by simp, fun c hc => ?_⟩
  obtain ⟨s1, s2, s3⟩ := hsay c hc
  have e : ((List.range ss.length).map (drainOf ss a b)).getD c 0 = drainOf ss a b c := by
    rw [List.getD_eq_getElem?_getD, List.getElem?_map, List.getElem?_range hc]; rfl
  rw [e]
  have hd : Dr ⟨m, hs, ss⟩ (fun c => T.getD c 0) c (drainOf ss a b c) := ⟨a, b, ha, hb, rfl⟩
  refine ⟨fun h => s1.2 ⟨_, ht, h ▸ hd⟩, fun h => s2.2 ⟨_, ht, h ▸ hd⟩, fun h => s3.2 ⟨_, ht, h ▸ hd⟩, fun h => ?_⟩
  rw [h] at hd
  have k : ∀ k, (∃ t, Tr ⟨m, hs, ss⟩ t ∧ Dr ⟨m, hs, ss⟩ t c k) → k = 0 := fun k ⟨t', ht', hd'⟩ => dry_all hso ht ht' hc hd hd' (hv c hc).1
  have f1 : (sl.getD c (false, false, false)).1 = false := Bool.eq_false_iff.2 fun h => absurd (k 1 (s1.1 h)) (by decide)
  have f2 : (sl.getD c (false, false, false)).2.1 = false := Bool.eq_false_iff.2 fun h => absurd (k 2 (s2.1 h)) (by decide)
  have f3 : (sl.getD c (false, false, false)).2.2 = false := Bool.eq_false_iff.2 fun h => absurd (k 3 (s3.1 h)) (by decide)
  generalize sl.getD c (false, false, false) = x at *
  obtain ⟨x1, x2, x3⟩ := x
  simp only at f1 f2 f3
  rw [f1, f2, f3]
/-- the ground of a truth: as H -/
structure Own (hs : List (Int × Int)) (T : List Int) (H : List (Int × Int)) : Prop where
  len : H.length = hs.length
  eq : ∀ c, c < hs.length → H.getD c (0, 0) = (T.getD c 0, T.getD c 0)
theorem own_just (hs : List (Int × Int)) (T : List Int) : Own hs T (justTo hs T hs.length) := ⟨justTo_len _ _ _, fun c hc => by rw [justTo_get hs T _ c hc, if_pos hc]⟩
theorem Own.right {m : Nat} {hs H : List (Int × Int)} {ss T : List Int} (h : Own hs T H) (ho : openErr (m : Int) hs ss = 0) (hT : InSp hs T) : openErr (m : Int) H ss = 0 := by
  have hn : hs.length = ss.length := (openErr_ok ho).hn
  refine just_open ho hT h.len (fun c hc => ?_)
  have h1 := goodSpan (openErr_zero ho).2.2.1 hc
  have h2 := hT.r c hc
  rw [h.eq c hc]
  dsimp only
  omega
theorem Own.lows {m : Nat} {hs H : List (Int × Int)} {ss T : List Int} (h : Own hs T H) (hn : hs.length = ss.length) {c : Nat} (hc : c < ss.length) : lowT ⟨m, H, ss⟩ c = T.getD c 0 ∧ highT ⟨m, H, ss⟩ c = T.getD c 0 := by
  rw [low_get, high_get, h.eq c (by omega)]
  exact ⟨rfl, rfl⟩
theorem sure_saddle {m : Nat} {hs H : List (Int × Int)} {ss T : List Int} {x y er a b er' : Int} (ho : openErr (m : Int) hs ss = 0) (hT : InSp hs T) (hH : Own hs T H) (h : SadAns (m : Int) hs ss x y er) (h' : SadAns (m : Int) H ss a b er') :
    er' = er ∧ (er = 0 ∨ er = 7) ∧ (er = 0 → b = a ∧ x ≤ a ∧ a ≤ y ∧ IsSaddle ⟨m, hs, ss⟩ (fun c => T.getD c 0) a ∧ a < 10001 ∧ IsSaddle ⟨m, hs, ss⟩ (highT ⟨m, hs, ss⟩) y) := by
  have ho' := hH.right ho hT
  have hn : hs.length = ss.length := (openErr_ok ho).hn
  have hso := SpansOk.of ho
  have htr := hT.tr (m := m) (ss := ss) hn
  rcases h with ⟨h0, -⟩ | ⟨-, a1, b1, ha1, hb1, h⟩
  · exact absurd ho h0
  rcases h' with ⟨h0, -⟩ | ⟨-, a2, b2, ha2, hb2, h'⟩
  · exact absurd ho' h0
  have ha3 : IsSaddle ⟨m, hs, ss⟩ (fun c => T.getD c 0) a2 := (IsSaddle.hs ha2).extn (fun c hc => (hH.lows (m := m) hn hc.1).1)
  have hb3 : IsSaddle ⟨m, hs, ss⟩ (fun c => T.getD c 0) b2 := (IsSaddle.hs hb2).extn (fun c hc => (hH.lows (m := m) hn hc.1).2)
  have hab : b2 = a2 := hb3.unique ha3
  subst hab
  have hb : ∀ c, land ⟨m, hs, ss⟩ c → (fun c => T.getD c 0) c ≤ 10000 := fun c hl => by have := (htr c hl).2; have := hso c hl.1; omega
  have hlb : ∀ c, land ⟨m, hs, ss⟩ c → lowT ⟨m, hs, ss⟩ c ≤ 10000 := fun c hl => by have := hso c hl.1; omega
  have n1 : b2 = 10001 → a1 = 10001 := fun e => IsSaddle.never ha1 ha3 hb e
  have n2 : a1 = 10001 → b2 = 10001 := fun e => IsSaddle.never ha3 ha1 hlb e
  have l1 : a1 ≤ b2 := IsSaddle.mono ha1 ha3 (fun c hl => (htr c hl).1)
  have l2 : b2 ≤ b1 := IsSaddle.mono ha3 hb1 (fun c hl => (htr c hl).2)
  have t2 := ha3.top
  rcases h with ⟨e1, rfl, rfl, rfl⟩ | ⟨e1, rfl, rfl, rfl⟩
  · rcases h' with ⟨e2, rfl, rfl, rfl⟩ | ⟨e2, rfl, rfl, rfl⟩
    · exact ⟨rfl, .inr rfl, fun h => by cases h⟩
    · exact absurd (n2 e1) e2
  · rcases h' with ⟨e2, rfl, rfl, rfl⟩ | ⟨e2, rfl, rfl, rfl⟩
    · exact absurd (n1 e2) e1
    · exact ⟨rfl, .inl rfl, fun _ => ⟨rfl, l1, l2, ha3, by omega, hb1⟩⟩
theorem sure_cells {m : Nat} {hs H : List (Int × Int)} {ss T : List Int} {a b a' b' : Nat → Int} {y h : Int} (ho : openErr (m : Int) hs ss = 0) (hT : InSp hs T) (hH : Own hs T H)
    (ha : IsPass ⟨m, hs, ss⟩ (lowT ⟨m, hs, ss⟩) 1 a) (hb : IsPass ⟨m, hs, ss⟩ (lowT ⟨m, hs, ss⟩) 2 b) (ha' : IsPass ⟨m, H, ss⟩ (lowT ⟨m, H, ss⟩) 1 a') (hb' : IsPass ⟨m, H, ss⟩ (lowT ⟨m, H, ss⟩) 2 b')
    (hy : IsSaddle ⟨m, hs, ss⟩ (highT ⟨m, hs, ss⟩) y) (hh : IsSaddle ⟨m, hs, ss⟩ (fun c => T.getD c 0) h) (hh1 : h < 10001) :
    sadList ⟨m, H, ss⟩ a' b' h ≠ [] ∧ ∀ c ∈ sadList ⟨m, H, ss⟩ a' b' h, c ∈ sadList ⟨m, hs, ss⟩ a b y := by
  have hok : Gd.Ok ⟨m, hs, ss⟩ := openErr_ok ho
  have ho' := hH.right ho hT
  have hok' : Gd.Ok ⟨m, H, ss⟩ := openErr_ok ho'
  have hn : hs.length = ss.length := hok.hn
  have hso := SpansOk.of ho
  have hso' := SpansOk.of ho'
  have htr := hT.tr (m := m) (ss := ss) hn
  have hhH : IsSaddle ⟨m, H, ss⟩ (highT ⟨m, H, ss⟩) h := (IsSaddle.hs hh).extn (fun c hc => (hH.lows (m := m) hn hc.1).2.symm)
  have say' := fun c => saddles_say (c := c) hok' hso' ha' hb' hhH
  have say := fun c => saddles_say (c := c) hok hso ha hb hy
  have trH : ∀ t, Tr ⟨m, H, ss⟩ t → ∀ c, land ⟨m, hs, ss⟩ c → t c = T.getD c 0 := fun t ht c hl => by
    have h1 := ht c hl
    have h2 := hH.lows (m := m) hn hl.1
    rw [h2.1, h2.2] at h1
    omega
  refine ⟨?_, fun c hc => ?_⟩
  · obtain ⟨c, h1, h2, h3⟩ := saddle_cell hok hh hh1
    have hl := (Re.in_A h1).1
    have : c ∈ sadList ⟨m, H, ss⟩ a' b' h := (say' c).2 ⟨hl, fun c => T.getD c 0, h, fun c hc => by
      have h2 := hH.lows (m := m) hn hc.1
      rw [h2.1, h2.2]; exact ⟨Int.le_refl _, Int.le_refl _⟩, IsSaddle.hs hh, h1.hs, h2.hs, h3⟩
    intro e
    rw [e] at this
    cases this
  · obtain ⟨hl, t, k, ht, hk, r1, r2, e⟩ := (say' c).1 hc
    have hte := trH t ht
    refine (say c).2 ⟨hl, t, k, fun c hc => ?_, IsSaddle.hs hk, r1.hs, r2.hs, e⟩
    rw [hte c hc]
    exact htr c hc
theorem pass_ans {m : Nat} {hs : List (Int × Int)} {ss : List Int} {sea er : Int} {l : List (Int × Int)} (ho : openErr (m : Int) hs ss = 0) (hsea : sea = 1 ∨ sea = 2) (h : PassAns (m : Int) hs ss sea er l) :
    er = 0 ∧ ∃ a b, IsPass ⟨m, hs, ss⟩ (lowT ⟨m, hs, ss⟩) sea a ∧ IsPass ⟨m, hs, ss⟩ (highT ⟨m, hs, ss⟩) sea b ∧ l = (List.range hs.length).map (pspan a b) := by
  rcases h with ⟨h0, -⟩ | ⟨-, h1, -⟩ | ⟨-, -, h1, h2⟩
  · exact absurd ho h0
  · have : inB sea 1 2 = true := inB_iff.2 (by omega)
    rw [this] at h1; cases h1
  · exact ⟨h1, h2⟩
theorem pspan_at (a b : Nat → Int) {n c : Nat} (hc : c < n) : ((List.range n).map (pspan a b)).getD c (0, 0) = pspan a b c := by
  rw [List.getD_eq_getElem?_getD, List.getElem?_map, List.getElem?_range hc]; rfl
theorem sure_pass {m : Nat} {hs H : List (Int × Int)} {ss T : List Int} {sea e1 e2 : Int} {la lb : List (Int × Int)} (ho : openErr (m : Int) hs ss = 0) (hT : InSp hs T) (hH : Own hs T H) (hsea : sea = 1 ∨ sea = 2) (h1 : PassAns (m : Int) hs ss sea e1 la) (h2 : PassAns (m : Int) H ss sea e2 lb) :
    e1 = 0 ∧ e2 = 0 ∧ la.length = ss.length ∧ lb.length = ss.length ∧ ∀ c, c < ss.length → (la.getD c (0, 0)).1 ≤ (lb.getD c (0, 0)).1 ∧ (lb.getD c (0, 0)).2 ≤ (la.getD c (0, 0)).2 ∧ (((la.getD c (0, 0)).1 == -1) = ((lb.getD c (0, 0)).1 == -1)) := by
  have hok : Gd.Ok ⟨m, hs, ss⟩ := openErr_ok ho
  have hn : hs.length = ss.length := hok.hn
  have hso := SpansOk.of ho
  have htr := hT.tr (m := m) (ss := ss) hn
  obtain ⟨z1, a, b, ha, hb, rfl⟩ := pass_ans ho hsea h1
  obtain ⟨z2, a', b', ha', hb', rfl⟩ := pass_ans (hH.right ho hT) hsea h2
  have hl := hH.len
  refine ⟨z1, z2, by simp [hn], by simp [hl, hn], fun c hc => ?_⟩
  rw [pspan_at a b (by omega), pspan_at a' b' (by omega)]
  have pa : IsPass ⟨m, hs, ss⟩ (fun c => T.getD c 0) sea a' := (IsPass.hs ha').extn (fun c hc => (hH.lows (m := m) hn hc.1).1)
  have pb : IsPass ⟨m, hs, ss⟩ (fun c => T.getD c 0) sea b' := (IsPass.hs hb').extn (fun c hc => (hH.lows (m := m) hn hc.1).2)
  have e : b' c = a' c := pb.unique pa hc
  have l1 : a c ≤ a' c := ha.mono pa (fun c hl => (htr c hl).1) hc
  have l2 : a' c ≤ b c := pa.mono hb (fun c hl => (htr c hl).2) hc
  have hbt : ∀ c, land ⟨m, hs, ss⟩ c → (fun c => T.getD c 0) c ≤ 10000 := fun c hl => by have := (htr c hl).2; have := hso c hl.1; omega
  have hbl : ∀ c, land ⟨m, hs, ss⟩ c → lowT ⟨m, hs, ss⟩ c ≤ 10000 := fun c hl => by have := hso c hl.1; omega
  have hbh : ∀ c, land ⟨m, hs, ss⟩ c → highT ⟨m, hs, ss⟩ c ≤ 10000 := fun c hl => by have := hso c hl.1; omega
  have n1 : a' c = 10001 → a c = 10001 := ha.never pa hbt hc
  have n2 : b c = 10001 → a' c = 10001 := pa.never hb hbh hc
  have n3 : a c = 10001 → b c = 10001 := hb.never ha hbl hc
  have b0 : 0 ≤ a c := ha.low (by omega) (fun c hl => (hso c hl.1).1) hc
  have t1 := pa.top c hc
  unfold pspan
  by_cases q : a' c = 10001
  · have q1 := n1 q
    have q2 := n3 q1
    rw [if_pos ⟨q1, q2⟩, if_pos ⟨q, by omega⟩]
    exact ⟨Int.le_refl _, Int.le_refl _, rfl⟩
  · have q1 : ¬ a c = 10001 := fun h => q (n2 (n3 h))
    rw [if_neg (fun h => q1 h.1), if_neg (fun h => q h.1)]
    refine ⟨l1, by dsimp only; omega, ?_⟩
    have f1 : (a c == -1) = false := by rw [beq_eq_false_iff_ne]; omega
    have f2 : (a' c == -1) = false := by rw [beq_eq_false_iff_ne]; omega
    rw [f1, f2]
theorem sides_ok {m : Nat} {hs : List (Int × Int)} {ss : List Int} {er : Int} {l : List (Bool × Bool × Bool)} (ho : openErr (m : Int) hs ss = 0) (h : SidesAns (m : Int) hs ss er l) : er = 0 ∧ SidesG ⟨m, hs, ss⟩ l ∧ l.length = ss.length := by
  rcases h with ⟨h0, -⟩ | ⟨-, h1, h2⟩
  · exact absurd ho h0
  · exact ⟨h1, h2, (sides_say (openErr_ok ho) (SpansOk.of ho) (seas_of ho) h2).1⟩
theorem sides_unique {m : Nat} {hs : List (Int × Int)} {ss : List Int} {l l' : List (Bool × Bool × Bool)} (ho : openErr (m : Int) hs ss = 0) (h : SidesG ⟨m, hs, ss⟩ l) (h' : SidesG ⟨m, hs, ss⟩ l') : l = l' := by
  obtain ⟨n1, s1⟩ := sides_say (openErr_ok ho) (SpansOk.of ho) (seas_of ho) h
  obtain ⟨n2, s2⟩ := sides_say (openErr_ok ho) (SpansOk.of ho) (seas_of ho) h'
  apply List.ext_getElem (by omega)
  intro c h1 h2
  have hc : c < ss.length := by have : l.length = ss.length := n1; omega
  obtain ⟨a1, a2, a3⟩ := s1 c hc
  obtain ⟨b1, b2, b3⟩ := s2 c hc
  have e1 : l.getD c (false, false, false) = l[c] := by rw [List.getD_eq_getElem?_getD, List.getElem?_eq_getElem h1]; rfl
  have e2 : l'.getD c (false, false, false) = l'[c] := by rw [List.getD_eq_getElem?_getD, List.getElem?_eq_getElem h2]; rfl
  rw [e1] at a1 a2 a3
  rw [e2] at b1 b2 b3
  have k1 := Bool.eq_iff_iff.2 (a1.trans b1.symm)
  have k2 := Bool.eq_iff_iff.2 (a2.trans b2.symm)
  have k3 := Bool.eq_iff_iff.2 (a3.trans b3.symm)
  exact Prod.ext k1 (Prod.ext k2 k3)
theorem doubt_ok {m : Nat} {hs : List (Int × Int)} {ss : List Int} {er : Int} {L : List Nat} {l : List (Bool × Bool × Bool)} (ho : openErr (m : Int) hs ss = 0) (hl : SidesG ⟨m, hs, ss⟩ l) (h : DoubtAns (m : Int) hs ss er L) : er = 0 ∧ L = doubtTo l l.length := by
  rcases h with ⟨h0, -⟩ | ⟨-, h1, l', h2, h3⟩
  · exact absurd ho h0
  · rw [sides_unique ho hl h2]; exact ⟨h1, h3⟩
theorem doubt_mem {l : List (Bool × Bool × Bool)} {c : Nat} (hc : c < l.length) : decide ((c : Int) ∈ (doubtTo l l.length).map Int.ofNat) = doubtB (l.getD c (false, false, false)) := by
  rw [Bool.eq_iff_iff, decide_eq_true_eq, List.mem_map]
  unfold doubtTo
  constructor
  · rintro ⟨a, ha, e⟩
    have : a = c := by have : (a : Int) = c := e; omega
    subst this
    exact (List.mem_filter.1 ha).2
  · intro h
    exact ⟨c, List.mem_filter.2 ⟨List.mem_range.2 hc, h⟩, rfl⟩
theorem saddle_errs {m : Nat} {hs : List (Int × Int)} {ss : List Int} {x y er : Int} (ho : openErr (m : Int) hs ss = 0) (h : SadAns (m : Int) hs ss x y er) : er = 0 ∨ er = 7 := by
  rcases h with ⟨h0, -⟩ | ⟨-, a, b, -, -, h⟩
  · exact absurd ho h0
  · rcases h with ⟨-, -, -, rfl⟩ | ⟨-, -, -, rfl⟩
    · exact .inr rfl
    · exact .inl rfl
/-- what Saddles names, where there is a saddle -/
def CanList (m : Nat) (hs : List (Int × Int)) (ss : List Int) (y er : Int) (L : List Nat) : Prop :=
  (er ≠ 0 → L = []) ∧ (er = 0 → ∃ a b, IsPass ⟨m, hs, ss⟩ (lowT ⟨m, hs, ss⟩) 1 a ∧ IsPass ⟨m, hs, ss⟩ (lowT ⟨m, hs, ss⟩) 2 b ∧ L = sadList ⟨m, hs, ss⟩ a b y)
theorem sad_len (g : Gd) (a b : Nat → Int) (y : Int) : (sadList g a b y).length ≤ g.n := Nat.le_trans (List.length_filter_le _ _) (by simp)
theorem CanList.len {m : Nat} {hs : List (Int × Int)} {ss : List Int} {y er : Int} {L : List Nat} (h : CanList m hs ss y er L) : L.length ≤ ss.length := by
  by_cases e : er = 0
  · obtain ⟨a, b, -, -, rfl⟩ := h.2 e; exact sad_len _ _ _ _
  · rw [h.1 e]; exact Nat.zero_le _
theorem doubt_len (l : List (Bool × Bool × Bool)) : (doubtTo l l.length).length ≤ l.length := doubtTo_len _ _
/-- the cells that are a saddle in a truth are among those that can be -/
theorem sure_can {m : Nat} {hs H : List (Int × Int)} {ss T : List Int} {x y a b : Int} {L L' : List Nat} (ho : openErr (m : Int) hs ss = 0) (hT : InSp hs T) (hH : Own hs T H) (h : SadAns (m : Int) hs ss x y 0) (h' : SadAns (m : Int) H ss a b 0)
    (hL : CanList m hs ss y 0 L) (hL' : CanList m H ss b 0 L') : L' ≠ [] ∧ ∀ c ∈ L', c ∈ L := by
  obtain ⟨-, -, h3⟩ := sure_saddle ho hT hH h h'
  obtain ⟨rfl, -, -, h4, h5, h6⟩ := h3 rfl
  obtain ⟨p, q, hp, hq, rfl⟩ := hL.2 rfl
  obtain ⟨p', q', hp', hq', rfl⟩ := hL'.2 rfl
  exact sure_cells ho hT hH hp hq hp' hq' h6 h4 h5
end Go.Proofs.Ytdgibmgifgdpbaa
