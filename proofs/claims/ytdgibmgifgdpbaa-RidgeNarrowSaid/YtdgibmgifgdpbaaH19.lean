/-
  Parts of the proof, in the order in which they build: NarrowP.
-/
import Derived.Test.YtdgibmgifgdpbaaH14
set_option linter.unusedVariables false
set_option linter.unusedSimpArgs false
namespace Go.Proofs.Ytdgibmgifgdpbaa
open Lim

structure Finer (hs H : List (Int × Int)) : Prop where
  len : H.length = hs.length
  le : ∀ c, c < hs.length → (hs.getD c (0, 0)).1 ≤ (H.getD c (0, 0)).1 ∧ (H.getD c (0, 0)).1 ≤ (H.getD c (0, 0)).2 ∧ (H.getD c (0, 0)).2 ≤ (hs.getD c (0, 0)).2
theorem Finer.right {m : Nat} {hs H : List (Int × Int)} {ss : List Int} (h : Finer hs H) (ho : openErr (m : Int) hs ss = 0) : openErr (m : Int) H ss = 0 := by
  have hok : Gd.Ok ⟨m, hs, ss⟩ := openErr_ok ho
  have hz := openErr_zero ho
  have hn : hs.length = ss.length := hok.hn
  have g1 : goodCount (m : Int) H ss = true := by
    have := hz.1
    unfold goodCount at this ⊢
    rw [h.len]; exact this
  have g3 : badSpan H = false := by
    unfold badSpan
    rw [List.any_eq_false]
    intro k hk
    have hkl : k < H.length := List.mem_range.1 hk
    have h1 := h.le k (by have := h.len; omega)
    have h2 := goodSpan hz.2.2.1 (c := k) (by have := h.len; omega)
    rw [inB_t ⟨by omega, h1.2.1⟩]
    have h3 : decide (10000 < (H.getD k (0, 0)).2) = false := by rw [decide_eq_false_iff_not]; omega
    rw [h3]; decide
  have g4 : clash ⟨(m : Int).toNat, H, ss⟩ = false := hz.2.2.2.2.2
  unfold openErr
  rw [g1, hz.2.1, g3, g4, if_neg (by decide), if_neg (by decide), if_neg (by simp [hz.2.2.2.1, hz.2.2.2.2.1]), if_neg (by decide)]
theorem Finer.tr {m : Nat} {hs H : List (Int × Int)} {ss : List Int} (h : Finer hs H) (hn : hs.length = ss.length) {t : Nat → Int} (ht : Tr ⟨m, H, ss⟩ t) : Tr ⟨m, hs, ss⟩ t := fun c hl => by
  have h1 := ht c hl
  have hc : c < ss.length := hl.1
  have h2 := h.le c (by omega)
  rw [low_get, high_get] at h1 ⊢
  omega
theorem Dr.hs {m : Nat} {hs H : List (Int × Int)} {ss : List Int} {t : Nat → Int} {c : Nat} {k : Int} (h : Dr ⟨m, hs, ss⟩ t c k) : Dr ⟨m, H, ss⟩ t c k :=
  let ⟨p, q, hp, hq, hk⟩ := h
  ⟨p, q, hp.hs, hq.hs, hk⟩
theorem Dr.same {g : Gd} {t t' : Nat → Int} (e : ∀ c, land g c → t c = t' c) {c : Nat} (hc : c < g.n) {k k' : Int} (h : Dr g t c k) (h' : Dr g t' c k') : k = k' := by
  obtain ⟨p, q, hp, hq, rfl⟩ := h
  obtain ⟨p', q', hp', hq', rfl⟩ := h'
  have e1 := (hp.extn (t' := t') e).unique hp' hc
  have e2 := (hq.extn (t' := t') e).unique hq' hc
  unfold drainOf
  rw [e1, e2]
theorem narrow_sides {m : Nat} {hs H : List (Int × Int)} {ss : List Int} {l l' : List (Bool × Bool × Bool)} (ho : openErr (m : Int) hs ss = 0) (hf : Finer hs H) (h : SidesG ⟨m, hs, ss⟩ l) (h' : SidesG ⟨m, H, ss⟩ l') {c : Nat} (hc : c < ss.length) :
    ((l'.getD c (false, false, false)).1 = true → (l.getD c (false, false, false)).1 = true) ∧ ((l'.getD c (false, false, false)).2.1 = true → (l.getD c (false, false, false)).2.1 = true) ∧ ((l'.getD c (false, false, false)).2.2 = true → (l.getD c (false, false, false)).2.2 = true) := by
  have ho' := hf.right ho
  have hn : hs.length = ss.length := (openErr_ok ho).hn
  obtain ⟨-, s1⟩ := sides_say (openErr_ok ho) (SpansOk.of ho) (seas_of ho) h
  obtain ⟨-, s2⟩ := sides_say (openErr_ok ho') (SpansOk.of ho') (seas_of ho') h'
  obtain ⟨a1, a2, a3⟩ := s1 c hc
  obtain ⟨b1, b2, b3⟩ := s2 c hc
  have key : ∀ k, (∃ t, Tr ⟨m, H, ss⟩ t ∧ Dr ⟨m, H, ss⟩ t c k) → ∃ t, Tr ⟨m, hs, ss⟩ t ∧ Dr ⟨m, hs, ss⟩ t c k := fun k ⟨t, ht, hd⟩ => ⟨t, hf.tr hn ht, hd.hs⟩
  exact ⟨fun e => a1.2 (key 1 (b1.1 e)), fun e => a2.2 (key 2 (b2.1 e)), fun e => a3.2 (key 3 (b3.1 e))⟩
theorem own_sides {m : Nat} {hs H : List (Int × Int)} {ss T l : List Int} {er : Int} {sl : List (Bool × Bool × Bool)} (ho : openErr (m : Int) hs ss = 0) (hT : InSp hs T) (hH : Own hs T H) (hd : DrainAns (m : Int) hs ss T er l) (h : SidesG ⟨m, H, ss⟩ sl) {c : Nat} (hc : c < ss.length) :
    sl.getD c (false, false, false) = (l.getD c 0 == 1, l.getD c 0 == 2, l.getD c 0 == 3) := by
  have ho' := hH.right ho hT
  have hn : hs.length = ss.length := (openErr_ok ho).hn
  obtain ⟨-, s2⟩ := sides_say (openErr_ok ho') (SpansOk.of ho') (seas_of ho') h
  obtain ⟨b1, b2, b3⟩ := s2 c hc
  obtain ⟨-, a, b, ha, hb, rfl⟩ := drain_len ho hT hd
  have e : ((List.range ss.length).map (drainOf ss a b)).getD c 0 = drainOf ss a b c := by
    rw [List.getD_eq_getElem?_getD, List.getElem?_map, List.getElem?_range hc]; rfl
  rw [e]
  have hdT : Dr ⟨m, H, ss⟩ (fun c => T.getD c 0) c (drainOf ss a b c) := ⟨a, b, ha.hs, hb.hs, rfl⟩
  have htT : Tr ⟨m, H, ss⟩ (fun c => T.getD c 0) := fun c hl => by
    have h1 := hH.lows (m := m) hn hl.1
    rw [h1.1, h1.2]; exact ⟨Int.le_refl _, Int.le_refl _⟩
  have key : ∀ k, (∃ t, Tr ⟨m, H, ss⟩ t ∧ Dr ⟨m, H, ss⟩ t c k) ↔ drainOf ss a b c = k := fun k => by
    constructor
    · rintro ⟨t, ht, hdt⟩
      refine Dr.same (fun x hl => ?_) hc hdT hdt
      have h1 := hH.lows (m := m) hn hl.1
      have h2 := ht x hl
      rw [h1.1, h1.2] at h2
      show T.getD x 0 = t x
      omega
    · rintro rfl
      exact ⟨_, htT, hdT⟩
  replace b1 := b1.trans (key 1)
  replace b2 := b2.trans (key 2)
  replace b3 := b3.trans (key 3)
  generalize sl.getD c (false, false, false) = x at *
  obtain ⟨x1, x2, x3⟩ := x
  refine Prod.ext ?_ (Prod.ext ?_ ?_)
  · rw [Bool.eq_iff_iff, beq_iff_eq]; exact b1
  · rw [Bool.eq_iff_iff, beq_iff_eq]; exact b2
  · rw [Bool.eq_iff_iff, beq_iff_eq]; exact b3
theorem own_doubt {n : Nat} {l : List Int} {sl : List (Bool × Bool × Bool)} (hl : sl.length = n) (h : ∀ c, c < n → sl.getD c (false, false, false) = (l.getD c 0 == 1, l.getD c 0 == 2, l.getD c 0 == 3)) : doubtTo sl sl.length = [] := by
  unfold doubtTo
  rw [List.filter_eq_nil_iff]
  intro c hc
  have hc' : c < n := by have := List.mem_range.1 hc; omega
  rw [h c hc']
  unfold doubtB
  generalize l.getD c 0 = k
  by_cases h1 : k = 1
  · subst h1; decide
  · by_cases h2 : k = 2
    · subst h2; decide
    · have e1 : (k == 1) = false := by rw [beq_eq_false_iff_ne]; exact h1
      have e2 : (k == 2) = false := by rw [beq_eq_false_iff_ne]; exact h2
      rw [e1, e2]; simp
theorem narrow_saddle {m : Nat} {hs H : List (Int × Int)} {ss : List Int} {x y er x' y' er' : Int} (ho : openErr (m : Int) hs ss = 0) (hf : Finer hs H) (h : SadAns (m : Int) hs ss x y er) (h' : SadAns (m : Int) H ss x' y' er') :
    er' = er ∧ (er = 0 ∨ er = 7) ∧ (er = 0 → x ≤ x' ∧ y' ≤ y ∧ IsSaddle ⟨m, hs, ss⟩ (highT ⟨m, hs, ss⟩) y ∧ IsSaddle ⟨m, H, ss⟩ (highT ⟨m, H, ss⟩) y') := by
  have ho' := hf.right ho
  have hn : hs.length = ss.length := (openErr_ok ho).hn
  have hso := SpansOk.of ho
  have hso' := SpansOk.of ho'
  have hle : ∀ c, c < ss.length → lowT ⟨m, hs, ss⟩ c ≤ lowT ⟨m, H, ss⟩ c ∧ highT ⟨m, H, ss⟩ c ≤ highT ⟨m, hs, ss⟩ c := fun c hc => by
    have := hf.le c (by omega)
    rw [low_get, low_get, high_get, high_get]
    omega
  rcases h with ⟨h0, -⟩ | ⟨-, a1, b1, ha1, hb1, h⟩
  · exact absurd ho h0
  rcases h' with ⟨h0, -⟩ | ⟨-, a2, b2, ha2, hb2, h'⟩
  · exact absurd ho' h0
  have ha3 : IsSaddle ⟨m, hs, ss⟩ (lowT ⟨m, H, ss⟩) a2 := IsSaddle.hs ha2
  have hb3 : IsSaddle ⟨m, hs, ss⟩ (highT ⟨m, H, ss⟩) b2 := IsSaddle.hs hb2
  have hlb : ∀ c, land ⟨m, hs, ss⟩ c → lowT ⟨m, hs, ss⟩ c ≤ 10000 := fun c hl => by have := hso c hl.1; omega
  have hlb' : ∀ c, land ⟨m, hs, ss⟩ c → lowT ⟨m, H, ss⟩ c ≤ 10000 := fun c hl => by have := hso' c hl.1; omega
  have n1 : a2 = 10001 → a1 = 10001 := fun e => IsSaddle.never ha1 ha3 hlb' e
  have n2 : a1 = 10001 → a2 = 10001 := fun e => IsSaddle.never ha3 ha1 hlb e
  have l1 : a1 ≤ a2 := IsSaddle.mono ha1 ha3 (fun c hl => (hle c hl.1).1)
  have l2 : b2 ≤ b1 := IsSaddle.mono hb3 hb1 (fun c hl => (hle c hl.1).2)
  rcases h with ⟨e1, rfl, rfl, rfl⟩ | ⟨e1, rfl, rfl, rfl⟩
  · rcases h' with ⟨e2, rfl, rfl, rfl⟩ | ⟨e2, rfl, rfl, rfl⟩
    · exact ⟨rfl, .inr rfl, fun h => by cases h⟩
    · exact absurd (n2 e1) e2
  · rcases h' with ⟨e2, rfl, rfl, rfl⟩ | ⟨e2, rfl, rfl, rfl⟩
    · exact absurd (n1 e2) e1
    · exact ⟨rfl, .inl rfl, fun _ => ⟨l1, l2, hb1, hb2⟩⟩
theorem narrow_can {m : Nat} {hs H : List (Int × Int)} {ss : List Int} {x y x' y' : Int} {L L' : List Nat} (ho : openErr (m : Int) hs ss = 0) (hf : Finer hs H) (h : SadAns (m : Int) hs ss x y 0) (h' : SadAns (m : Int) H ss x' y' 0) (hL : CanList m hs ss y 0 L) (hL' : CanList m H ss y' 0 L') : ∀ c ∈ L', c ∈ L := by
  have ho' := hf.right ho
  have hn : hs.length = ss.length := (openErr_ok ho).hn
  obtain ⟨-, -, h3⟩ := narrow_saddle ho hf h h'
  obtain ⟨-, -, hy, hy'⟩ := h3 rfl
  obtain ⟨p, q, hp, hq, rfl⟩ := hL.2 rfl
  obtain ⟨p', q', hp', hq', rfl⟩ := hL'.2 rfl
  intro c hc
  obtain ⟨hl, t, k, ht, hk, r1, r2, e⟩ := (saddles_say (c := c) (openErr_ok ho') (SpansOk.of ho') hp' hq' hy').1 hc
  exact (saddles_say (c := c) (openErr_ok ho) (SpansOk.of ho) hp hq hy).2 ⟨hl, t, k, hf.tr hn ht, hk.hs, r1.hs, r2.hs, e⟩
end Go.Proofs.Ytdgibmgifgdpbaa
