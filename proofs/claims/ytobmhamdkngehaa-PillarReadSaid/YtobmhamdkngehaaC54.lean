/-
  Parts of the proof, in the order in which they build: PoL.
-/
import Derived.Test.YtobmhamdkngehaaA42
set_option linter.unusedVariables false
set_option linter.unusedSimpArgs false
namespace Go.Proofs.Ytobmhamdkngehaa
open Go.RowKit Go.Shelf
open Lim

theorem Ch.at {n : Nat} {S : Nat → Nat → Bool} {w : Int} {t i : Nat} {L : List Nat} (h : Ch n S w t i L) :
    L.getD 0 0 = i ∧ L.getD (L.length - 1) 0 = t ∧ ∀ k, k + 1 < L.length → L.getD k 0 < L.getD (k + 1) 0 ∧ L.getD (k + 1) 0 < n ∧ S (L.getD k 0) (L.getD (k + 1) 0) = true := by
  induction h with
  | one => exact ⟨rfl, rfl, fun k hk => by simp at hk⟩
  | @cons a b M h1 h2 h3 h4 hc ih =>
    obtain ⟨i0, i1, i2⟩ := ih
    have hp := hc.pos
    refine ⟨rfl, ?_, fun k hk => ?_⟩
    · rw [List.length_cons, show M.length + 1 - 1 = (M.length - 1) + 1 by omega, List.getD_cons_succ]; exact i1
    · cases k with
      | zero =>
        rw [List.getD_cons_succ, List.getD_cons_zero, i0]
        exact ⟨h1, h2, h3⟩
      | succ k =>
        rw [List.getD_cons_succ, List.getD_cons_succ]
        exact i2 k (by simp at hk; omega)
theorem ch_of {n t : Nat} {S : Nat → Nat → Bool} {w : Int} : ∀ (L : List Nat) (i : Nat), (∀ k, k + 1 < (i :: L).length → (i :: L).getD k 0 < (i :: L).getD (k + 1) 0 ∧ (i :: L).getD (k + 1) 0 < n ∧ S ((i :: L).getD k 0) ((i :: L).getD (k + 1) 0) = true) → (i :: L).getD L.length 0 = t → (∀ a : Nat, (a : Int) ≠ w) → Ch n S w t i (i :: L)
  | [], i, _, ht, _ => by
    have : i = t := ht
    subst this
    exact .one
  | j :: L, i, h, ht, hw => by
    obtain ⟨h1, h2, h3⟩ := h 0 (by simp)
    refine .cons h1 h2 h3 (hw i) (ch_of L j (fun k hk => ?_) ?_ hw)
    · have := h (k + 1) (by simp at hk ⊢; omega)
      simpa only [List.getD_cons_succ] using this
    · rw [List.length_cons, List.getD_cons_succ] at ht; exact ht
theorem getD_map (L : List Nat) (k : Nat) : (L.map Int.ofNat).getD k 0 = ((L.getD k 0 : Nat) : Int) := by
  rw [List.getD_eq_getElem?_getD, List.getD_eq_getElem?_getD, List.getElem?_map]
  cases L[k]? <;> rfl
/-- a chain from the first place to the last one holds -/
theorem ch_holds {p : Pf} (hp : p.Ok) {L : List Nat} (h : Ch p.n p.sure (-1) (p.n - 1) 0 L) : inAll p.n (L.map Int.ofNat) = true ∧ holdsP p (L.map Int.ofNat) = true := by
  obtain ⟨h0, h1, h2⟩ := h.at
  have hpos := h.pos
  have hn := hp.n2
  have hlen : 2 ≤ L.length := by
    apply Classical.byContradiction
    intro hc
    have : L.length - 1 = 0 := by omega
    rw [this, h0] at h1
    omega
  have hb : ∀ k, k < L.length → L.getD k 0 < p.n := fun k hk => by
    cases k with
    | zero => rw [h0]; omega
    | succ k => exact (h2 k hk).2.1
  constructor
  · unfold inAll
    rw [List.all_eq_true]
    intro x hx
    obtain ⟨a, ha, rfl⟩ := List.mem_map.1 hx
    obtain ⟨k, hk, rfl⟩ := List.getElem_of_mem ha
    have := hb k hk
    rw [List.getD_eq_getElem?_getD, List.getElem?_eq_getElem hk] at this
    rw [inR_iff]
    have h3 : L[k] < p.n := this
    show 0 ≤ ((L[k] : Nat) : Int) ∧ ((L[k] : Nat) : Int) ≤ _
    omega
  · unfold holdsP
    simp only [Bool.and_eq_true, decide_eq_true_eq, List.length_map, getD_map, h0, h1, List.all_eq_true, List.mem_range]
    refine ⟨hlen, rfl, by omega, fun k hk => ?_⟩
    have := h2 k (by omega)
    unfold stepOk
    rw [getD_map, getD_map, Bool.and_eq_true, decide_eq_true_eq, Int.toNat_natCast, Int.toNat_natCast]
    exact ⟨by omega, this.2.2⟩
/-- what holds is a chain from the first place to the last one -/
theorem holds_ch {p : Pf} (hp : p.Ok) {xs : List Int} (ha : inAll p.n xs = true) (h : holdsP p xs = true) : ∃ L, xs = L.map Int.ofNat ∧ Ch p.n p.sure (-1) (p.n - 1) 0 L := by
  have hall : ∀ x ∈ xs, 0 ≤ x ∧ x < p.n := fun x hx => by
    unfold inAll at ha
    have := inR_iff.1 ((List.all_eq_true.1 ha) x hx)
    omega
  have hmap : xs = (xs.map Int.toNat).map Int.ofNat := by
    rw [List.map_map]
    conv => lhs; rw [← List.map_id xs]
    refine List.map_congr_left (fun x hx => ?_)
    have := hall x hx
    show x = ((x.toNat : Nat) : Int)
    omega
  refine ⟨xs.map Int.toNat, hmap, ?_⟩
  have hb2 := hp.n2
  generalize xs.map Int.toNat = L at hmap
  subst hmap
  have hbd : ∀ k, k < L.length → L.getD k 0 < p.n := fun k hk => by
    have := hall (Int.ofNat L[k]) (List.mem_map.2 ⟨L[k], List.getElem_mem hk, rfl⟩)
    rw [List.getD_eq_getElem?_getD, List.getElem?_eq_getElem hk]
    have h2 : ((L[k] : Nat) : Int) < p.n := this.2
    show L[k] < p.n
    omega
  unfold holdsP at h
  simp only [Bool.and_eq_true, decide_eq_true_eq, List.length_map, getD_map, List.all_eq_true, List.mem_range] at h
  obtain ⟨h1, h2, h3, h4⟩ := h
  cases L with
  | nil => simp at h1
  | cons i L =>
    have hi : i = 0 := by have : ((i : Nat) : Int) = 0 := h2; omega
    subst hi
    refine ch_of L 0 (fun k hk => ?_) ?_ (fun a => by omega)
    · have := h4 k (by omega)
      unfold stepOk at this
      rw [getD_map, getD_map, Bool.and_eq_true, decide_eq_true_eq, Int.toNat_natCast, Int.toNat_natCast] at this
      exact ⟨by omega, hbd _ hk, this.2⟩
    · rw [List.length_cons, Nat.add_sub_cancel] at h3
      omega
theorem holds_ok {p : Pf} (hp : p.Ok) {xs : List Int} (ha : inAll p.n xs = true) : holdsAns p xs = .tuple #[.bool (holdsP p xs), .int .i64 0] := by
  unfold holdsAns
  rw [if_neg (by rw [hp.err]; decide), if_pos ha]
end Go.Proofs.Ytobmhamdkngehaa
