/-
  Parts of the proof, in the order in which they build: IsoC.
-/
import Derived.Test.YtdgibmgifgdpbaaH12
set_option linter.unusedVariables false
set_option linter.unusedSimpArgs false
namespace Go.Proofs.Ytdgibmgifgdpbaa
open Lim

theorem mem_at {l : List Int} {x : Int} (h : x ∈ l) : ∃ c, c < l.length ∧ l.getD c 0 = x := by
  obtain ⟨c, hc, rfl⟩ := List.mem_iff_getElem.1 h
  exact ⟨c, hc, by rw [List.getD_eq_getElem?_getD, List.getElem?_eq_getElem hc]; rfl⟩
theorem no_clash {m : Nat} {hs : List (Int × Int)} {ss : List Int} (ho : openErr (m : Int) hs ss = 0) {a b : Nat} (ha : a < ss.length) (hn : nb ⟨m, hs, ss⟩ a b) (h1 : ss.getD a 0 = 1) (h2 : ss.getD b 0 = 2) : False := by
  have hok : Gd.Ok ⟨m, hs, ss⟩ := openErr_ok ho
  have hc := (openErr_zero ho).2.2.2.2.2
  unfold clash at hc
  have := List.any_eq_false.1 hc a (List.mem_range.2 ha)
  have h3 : atB ⟨m, hs, ss⟩ a 2 = true := (at_nb hok ha).2 ⟨b, hn, h2⟩
  have h4 : atB ⟨(m : Int).toNat, hs, ss⟩ a 2 = true := h3
  simp only [Bool.and_eq_true, decide_eq_true_eq, not_and, Bool.not_eq_true] at this
  have h5 := this h1
  have h6 : atB ⟨(m : Int).toNat, hs, ss⟩ a 2 = false := h5
  rw [h6] at h4
  cases h4
theorem Iso.open {m m' : Nat} {hs hs' : List (Int × Int)} {ss ss' : List Int} {f e : Nat → Nat} {u : Int → Int} (H : Iso ⟨m, hs, ss⟩ ⟨m', hs', ss'⟩ f e u) (hu : Same u ∨ Swap u) (ho : openErr (m : Int) hs ss = 0) (hm' : 0 < m') (hd' : ss.length % m' = 0) (hl' : hs'.length = ss'.length) :
    openErr (m' : Int) hs' ss' = 0 := by
  have hok : Gd.Ok ⟨m, hs, ss⟩ := openErr_ok ho
  have hz := openErr_zero ho
  have hn : ss'.length = ss.length := H.n
  have hN := hok.n1
  have hN : ss.length ≤ 100 := hN
  have hr := H.back.rng
  obtain ⟨c1, hc1, e1⟩ := mem_at hz.2.2.2.1
  obtain ⟨c2, hc2, e2⟩ := mem_at hz.2.2.2.2.1
  have h2N : 2 ≤ ss.length := by
    by_cases e : c1 = c2
    · subst e; omega
    · omega
  have f1 : ss'.getD (f c1) 0 = u 1 := by have : ss'.getD (f c1) 0 = u (ss.getD c1 0) := H.ss c1 hc1; rw [this, e1]
  have f2 : ss'.getD (f c2) 0 = u 2 := by have : ss'.getD (f c2) 0 = u (ss.getD c2 0) := H.ss c2 hc2; rw [this, e2]
  have l1 : f c1 < ss.length := H.lt c1 hc1
  have l2 : f c2 < ss.length := H.lt c2 hc2
  have m1 := mem_getD (l := ss') (c := f c1) (by omega)
  have m2 := mem_getD (l := ss') (c := f c2) (by omega)
  rw [f1] at m1
  rw [f2] at m2
  refine open_zero (N := ss.length) hm' h2N hN hd' (by omega) (fun c hc => ?_) hn (fun c hc => hr c (by show c < ss'.length; omega)) ?_ ?_ (fun c j hc hj e3 e4 => ?_)
  · have h1 := H.lowT (c := c) (by show c < ss'.length; omega)
    have h2 := H.highT (c := c) (by show c < ss'.length; omega)
    rw [low_get, low_get] at h1
    rw [high_get, high_get] at h2
    have h3 : e c < ss.length := H.lt' c hc
    have hhn : hs.length = ss.length := hok.hn
    have h4 := goodSpan hz.2.2.1 (c := e c) (by omega)
    omega
  · rcases hu with ⟨u1, u2⟩ | ⟨u1, u2⟩
    · rw [u1] at m1; exact m1
    · rw [u2] at m2; exact m2
  · rcases hu with ⟨u1, u2⟩ | ⟨u1, u2⟩
    · rw [u2] at m2; exact m2
    · rw [u1] at m1; exact m1
  · apply Bool.eq_false_iff.2
    intro hb
    have hb' : nb ⟨m', hs', ss'⟩ c j := (bes_iff (N := ss'.length) hm' (by rw [hn]; exact hd') (by omega) (by omega)).1 hb
    have h1 : nb ⟨m, hs, ss⟩ (e c) (e j) := H.nbr' c j hc hj hb'
    have h2 : ss.getD (e c) 0 = u 2 := by have : ss.getD (e c) 0 = u (ss'.getD c 0) := H.back.ss c (by show c < ss'.length; omega); rw [this, e3]
    have h3 : ss.getD (e j) 0 = u 1 := by have : ss.getD (e j) 0 = u (ss'.getD j 0) := H.back.ss j (by show j < ss'.length; omega); rw [this, e4]
    have k1 : e c < ss.length := H.lt' c hc
    have k2 : e j < ss.length := H.lt' j hj
    rcases hu with ⟨u1, u2⟩ | ⟨u1, u2⟩
    · rw [u1] at h3; rw [u2] at h2
      exact no_clash ho k2 (nb_symm hok k1 h1) h3 h2
    · rw [u1] at h3; rw [u2] at h2
      exact no_clash ho k1 h1 h2 h3
/-- the seas that are changed -/
def flip (s : Int) : Int := if s = 1 then 2 else if s = 2 then 1 else 0
theorem iso_flip {m : Nat} {hs : List (Int × Int)} {ss ss' : List Int} (hv : ∀ c, c < ss.length → 0 ≤ ss.getD c 0 ∧ ss.getD c 0 ≤ 2) (hl : ss'.length = ss.length) (hf : ∀ c, c < ss.length → ss'.getD c 0 = flip (ss.getD c 0)) : Iso ⟨m, hs, ss⟩ ⟨m, hs, ss'⟩ id id flip := by
  have hnb : ∀ a b, nb ⟨m, hs, ss'⟩ a b ↔ nb ⟨m, hs, ss⟩ a b := fun a b => by unfold nb Gd.n; simp only [hl]
  refine ⟨hl, fun c hc => hc, fun c hc => hc, fun c _ => rfl, fun c _ => rfl, fun c d _ _ h => (hnb c d).2 h, fun c d _ _ h => (hnb c d).1 h, hf, fun c _ => rfl, fun c _ => rfl, hv, rfl, fun s h1 h2 => ?_, fun s h1 h2 => ?_⟩
  · have : s = 0 ∨ s = 1 ∨ s = 2 := by omega
    rcases this with rfl | rfl | rfl <;> decide
  · have : s = 0 ∨ s = 1 ∨ s = 2 := by omega
    rcases this with rfl | rfl | rfl <;> decide
theorem flip_swap : Swap flip := ⟨rfl, rfl⟩
/-- where a cell lies when rows are columns -/
def place (m rows c : Nat) : Nat := c % m * rows + c / m
theorem place_at {m rows c : Nat} (hm : 0 < m) (hc : c < m * rows) : place m rows c % rows = c / m ∧ place m rows c / rows = c % m ∧ place m rows c < m * rows := by
  have h1 : c / m < rows := Nat.div_lt_of_lt_mul hc
  have h2 := Nat.mod_lt c hm
  unfold place
  refine ⟨?_, ?_, ?_⟩
  · rw [Nat.mul_comm, Nat.mul_add_mod, Nat.mod_eq_of_lt h1]
  · have hr : 0 < rows := Nat.lt_of_le_of_lt (Nat.zero_le _) h1
    rw [Nat.mul_comm, Nat.mul_add_div hr, Nat.div_eq_of_lt h1, Nat.add_zero]
  · calc c % m * rows + c / m < c % m * rows + rows := by omega
      _ = (c % m + 1) * rows := by rw [Nat.add_mul]; simp
      _ ≤ m * rows := Nat.mul_le_mul_right _ h2
theorem place_back {m rows c : Nat} (hm : 0 < m) (hc : c < m * rows) : place rows m (place m rows c) = c := by
  obtain ⟨h1, h2, -⟩ := place_at hm hc
  show place m rows c % rows * m + place m rows c / rows = c
  rw [h1, h2, Nat.mul_comm]
  exact Nat.div_add_mod c m
theorem sq_swap (a b : Int) : (a - b) * (a - b) = (b - a) * (b - a) := by
  rw [← Int.neg_sub a b, Int.neg_mul_neg]
theorem bes_symm (m a b : Nat) : bes m a b = bes m b a := by
  unfold bes
  rw [sq_swap ((a % m : Nat) : Int), sq_swap ((a / m : Nat) : Int)]
theorem bes_place {m rows a b : Nat} (hm : 0 < m) (ha : a < m * rows) (hb : b < m * rows) : bes rows (place m rows a) (place m rows b) = bes m a b := by
  obtain ⟨a1, a2, -⟩ := place_at hm ha
  obtain ⟨b1, b2, -⟩ := place_at hm hb
  unfold bes
  rw [a1, a2, b1, b2, Int.add_comm]
theorem iso_tall {m rows : Nat} {hs hs' : List (Int × Int)} {ss ss' : List Int} (hm : 0 < m) (hr : 0 < rows) (hN : ss.length = m * rows) (hv : ∀ c, c < ss.length → 0 ≤ ss.getD c 0 ∧ ss.getD c 0 ≤ 2) (hl : ss'.length = ss.length)
    (hf : ∀ c, c < ss.length → ss'.getD (place m rows c) 0 = ss.getD c 0) (hh : ∀ c, c < ss.length → hs'.getD (place m rows c) (0, 0) = hs.getD c (0, 0)) : Iso ⟨m, hs, ss⟩ ⟨rows, hs', ss'⟩ (place m rows) (place rows m) id := by
  have hN' : ss.length = rows * m := by rw [hN, Nat.mul_comm]
  refine ⟨hl, fun c hc => ?_, fun c hc => ?_, fun c hc => ?_, fun c hc => ?_, fun c d hc hd h => ?_, fun c d hc hd h => ?_, hf, fun c hc => ?_, fun c hc => ?_, hv, rfl, fun _ _ _ => rfl, fun s h1 h2 => ⟨h1, h2⟩⟩
  · have hc : c < ss.length := hc
    show _ < ss.length
    rw [hN] at hc ⊢; exact (place_at hm hc).2.2
  · have hc : c < ss.length := hc
    show _ < ss.length
    rw [hN'] at hc ⊢; exact (place_at hr hc).2.2
  · have hc : c < ss.length := hc
    rw [hN] at hc; exact place_back hm hc
  · have hc : c < ss.length := hc
    rw [hN'] at hc; exact place_back hr hc
  · have hc : c < ss.length := hc
    have hd : d < ss.length := hd
    rw [hN] at hc hd
    have h1 : bes m c d = true := (bes_iff (N := ss.length) hm (by rw [hN]; exact Nat.mul_mod_right m rows) (by omega) (by omega)).2 h
    rw [← bes_place hm hc hd] at h1
    exact (bes_iff (N := ss'.length) hr (by rw [hl, hN']; exact Nat.mul_mod_right rows m) (by rw [hl, hN]; exact (place_at hm hc).2.2) (by rw [hl, hN]; exact (place_at hm hd).2.2)).1 h1
  · have hc : c < ss.length := hc
    have hd : d < ss.length := hd
    rw [hN'] at hc hd
    have h1 : bes rows c d = true := (bes_iff (N := ss'.length) hr (by rw [hl, hN']; exact Nat.mul_mod_right rows m) (by omega) (by omega)).2 h
    rw [← bes_place hr hc hd] at h1
    exact (bes_iff (N := ss.length) hm (by rw [hN]; exact Nat.mul_mod_right m rows) (by rw [hN']; exact (place_at hr hc).2.2) (by rw [hN']; exact (place_at hr hd).2.2)).1 h1
  · rw [low_get, low_get, hh c hc]
  · rw [high_get, high_get, hh c hc]
/-- where a cell lies when rows go from right to left -/
def mirror (m c : Nat) : Nat := c / m * m + (m - 1 - c % m)
theorem mirror_at {m rows c : Nat} (hm : 0 < m) (hc : c < m * rows) : mirror m c % m = m - 1 - c % m ∧ mirror m c / m = c / m ∧ mirror m c < m * rows := by
  have h1 : c / m < rows := Nat.div_lt_of_lt_mul hc
  have h2 := Nat.mod_lt c hm
  unfold mirror
  refine ⟨?_, ?_, ?_⟩
  · rw [Nat.mul_comm, Nat.mul_add_mod, Nat.mod_eq_of_lt (by omega)]
  · have h3 : m - 1 - c % m < m := by omega
    rw [Nat.mul_comm (c / m), Nat.mul_add_div hm, Nat.div_eq_of_lt h3, Nat.add_zero]
  · calc c / m * m + (m - 1 - c % m) < c / m * m + m := by omega
      _ = (c / m + 1) * m := by rw [Nat.add_mul]; simp
      _ ≤ rows * m := Nat.mul_le_mul_right _ h1
      _ = m * rows := Nat.mul_comm _ _
theorem mirror_back {m rows c : Nat} (hm : 0 < m) (hc : c < m * rows) : mirror m (mirror m c) = c := by
  obtain ⟨h1, h2, -⟩ := mirror_at hm hc
  have h3 := Nat.mod_lt c hm
  show mirror m c / m * m + (m - 1 - mirror m c % m) = c
  rw [h1, h2, Nat.mul_comm, show m - 1 - (m - 1 - c % m) = c % m from by omega]
  exact Nat.div_add_mod c m
theorem bes_mirror {m rows a b : Nat} (hm : 0 < m) (ha : a < m * rows) (hb : b < m * rows) : bes m (mirror m a) (mirror m b) = bes m a b := by
  obtain ⟨a1, a2, -⟩ := mirror_at hm ha
  obtain ⟨b1, b2, -⟩ := mirror_at hm hb
  have h1 := Nat.mod_lt a hm
  have h2 := Nat.mod_lt b hm
  unfold bes
  rw [a1, a2, b1, b2]
  have e : ((m - 1 - a % m : Nat) : Int) - ((m - 1 - b % m : Nat) : Int) = ((b % m : Nat) : Int) - ((a % m : Nat) : Int) := by omega
  rw [e, sq_swap ((b % m : Nat) : Int)]
theorem iso_back {m rows : Nat} {hs hs' : List (Int × Int)} {ss ss' : List Int} (hm : 0 < m) (hN : ss.length = m * rows) (hv : ∀ c, c < ss.length → 0 ≤ ss.getD c 0 ∧ ss.getD c 0 ≤ 2) (hl : ss'.length = ss.length)
    (hf : ∀ c, c < ss.length → ss'.getD (mirror m c) 0 = ss.getD c 0) (hh : ∀ c, c < ss.length → hs'.getD (mirror m c) (0, 0) = hs.getD c (0, 0)) : Iso ⟨m, hs, ss⟩ ⟨m, hs', ss'⟩ (mirror m) (mirror m) id := by
  have hlt : ∀ c, c < ss.length → mirror m c < ss.length := fun c hc => by rw [hN] at hc ⊢; exact (mirror_at hm hc).2.2
  have hbb : ∀ c, c < ss.length → mirror m (mirror m c) = c := fun c hc => by rw [hN] at hc; exact mirror_back hm hc
  have hdv : ss.length % m = 0 := by rw [hN]; exact Nat.mul_mod_right m rows
  have hb : ∀ c d, c < ss.length → d < ss.length → bes m (mirror m c) (mirror m d) = bes m c d := fun c d hc hd => by rw [hN] at hc hd; exact bes_mirror hm hc hd
  refine ⟨hl, hlt, hlt, hbb, hbb, fun c d hc hd h => ?_, fun c d hc hd h => ?_, hf, fun c hc => ?_, fun c hc => ?_, hv, rfl, fun _ _ _ => rfl, fun s h1 h2 => ⟨h1, h2⟩⟩
  · have h1 : bes m c d = true := (bes_iff (N := ss.length) hm hdv hc hd).2 h
    rw [← hb c d hc hd] at h1
    exact (bes_iff (N := ss'.length) hm (by rw [hl]; exact hdv) (by rw [hl]; exact hlt c hc) (by rw [hl]; exact hlt d hd)).1 h1
  · have hc : c < ss.length := hc
    have hd : d < ss.length := hd
    have h1 : bes m c d = true := (bes_iff (N := ss'.length) hm (by rw [hl]; exact hdv) (by rw [hl]; exact hc) (by rw [hl]; exact hd)).2 h
    rw [← hb c d hc hd] at h1
    exact (bes_iff (N := ss.length) hm hdv (hlt c hc) (hlt d hd)).1 h1
  · rw [low_get, low_get, hh c hc]
  · rw [high_get, high_get, hh c hc]
theorem id_same : Same id := ⟨rfl, rfl⟩
end Go.Proofs.Ytdgibmgifgdpbaa
