/-
  Parts of the proof, in the order in which they build: EwK, EzB.
-/
import Derived.Test.YtiacgaplhndlnaaF7
import Derived.Test.YtiacgaplhndlnaaF24
set_option linter.unusedVariables false
set_option linter.unusedSimpArgs false
/-
  Closed maps: their regions, and what lies within what, are reckoned.
-/
namespace Go.Proofs.Ytiacgaplhndlnaa

/-! Regions. -/
/-- the least number of a neighbour of one's state, and of oneself -/
def cLeast (m : Mp) (f : Nat → Nat) (a : Nat) (l : List Int) : Nat :=
  l.foldl (fun acc x => if m.own x.toNat = m.own a ∧ f x.toNat < acc then f x.toNat else acc) (f a)
def cStep (m : Mp) (L : List Nat) : List Nat := (List.range m.n).map fun a => cLeast m (fun k => L.getD k 0) a (nbrL m.wd m.n a)
def cIter (m : Mp) : Nat → List Nat
  | 0 => List.range m.n
  | k + 1 => cStep m (cIter m k)
def cFix (m : Mp) (L : List Nat) : Bool := (List.range m.n).all fun a => (nbrL m.wd m.n a).all fun x => !(decide (m.own a = m.own x.toNat) && decide (L.getD x.toNat 0 < L.getD a 0))
theorem cLeast_ok {m : Mp} (hm : m.Ok) {f : Nat → Nat} (h : FInv m f) {a : Nat} (ha : a < m.n) : ∀ (l : List Int) (acc : Nat), (∀ x ∈ l, nb m a x.toNat) → acc ≤ a → Sm m a acc →
    l.foldl (fun acc x => if m.own x.toNat = m.own a ∧ f x.toNat < acc then f x.toNat else acc) acc ≤ a ∧ Sm m a (l.foldl (fun acc x => if m.own x.toNat = m.own a ∧ f x.toNat < acc then f x.toNat else acc) acc)
  | [], acc, _, h1, h2 => ⟨h1, h2⟩
  | x :: l, acc, hl, h1, h2 => by
    rw [List.foldl_cons]
    refine cLeast_ok hm h ha l _ (fun y hy => hl y (List.mem_cons_of_mem _ hy)) ?_ ?_
    · split
      · rename_i hc; omega
      · exact h1
    · split
      · rename_i hc
        have hn := hl x List.mem_cons_self
        have hx := nb_lt hm ha hn
        exact Sm.trans (Cn.step ⟨ha, rfl⟩ hn (.refl ⟨hx, hc.1⟩)) (h _ hx).2
      · exact h2
theorem cStep_inv {m : Mp} (hm : m.Ok) {L : List Nat} (h : FInv m (fun k => L.getD k 0)) : FInv m (fun k => (cStep m L).getD k 0) := by
  intro a ha
  have e : (cStep m L).getD a 0 = cLeast m (fun k => L.getD k 0) a (nbrL m.wd m.n a) := by
    simp [cStep, List.getD_eq_getElem?_getD, List.getElem?_range ha]
  show (cStep m L).getD a 0 ≤ a ∧ Sm m a ((cStep m L).getD a 0)
  rw [e]
  refine cLeast_ok hm h ha _ _ (fun x hx => ?_) (h a ha).1 (h a ha).2
  obtain ⟨k, rfl, -⟩ := mem_nbrL hm.w0 hm.dv ha hx
  exact hx
theorem cIter_inv {m : Mp} (hm : m.Ok) : ∀ k, FInv m (fun p => (cIter m k).getD p 0)
  | 0 => fun a ha => by
    have e : (cIter m 0).getD a 0 = a := by simp [cIter, List.getD_eq_getElem?_getD, List.getElem?_range ha]
    show (cIter m 0).getD a 0 ≤ a ∧ Sm m a ((cIter m 0).getD a 0)
    rw [e]; exact ⟨Nat.le_refl _, Sm.refl ha⟩
  | k + 1 => cStep_inv hm (cIter_inv hm k)
theorem cFix_ok {m : Mp} {L : List Nat} (h : cFix m L = true) : FFix m (fun p => L.getD p 0) := by
  intro a b ha hb hn ho hlt
  have h1 := List.all_eq_true.1 h a (List.mem_range.2 ha)
  have h2 := List.all_eq_true.1 h1 (b : Int) hn
  simp only [Int.toNat_natCast, Bool.not_eq_true', Bool.and_eq_false_iff, decide_eq_false_iff_not] at h2
  rcases h2 with h2 | h2
  · exact h2 ho
  · exact h2 hlt
/-- rl are the numbers of the regions, T of them -/
def cReg (m : Mp) (k : Nat) (rl : List Nat) (T : Nat) : Bool :=
  cFix m (cIter m k) && ((List.range m.n).all fun p => decide (num (fun p => (cIter m k).getD p 0) ((cIter m k).getD p 0) = rl.getD p 0)) && decide (num (fun p => (cIter m k).getD p 0) m.n = T)
theorem IsReg.congr {m : Mp} {r r' : Nat → Nat} (h : IsReg m r) (e : ∀ p, p < m.n → r p = r' p) : IsReg m r' :=
  ⟨fun p q hp hq => by rw [← e p hp, ← e q hq]; exact h.same p q hp hq, fun p hp j hj => by
    rw [← e p hp] at hj
    obtain ⟨q, h1, h2⟩ := h.grow p hp j hj
    exact ⟨q, h1, by rw [← e q (by omega)]; exact h2⟩⟩
theorem IsMany.congr {m : Mp} {r r' : Nat → Nat} {T : Nat} (h : IsMany m r T) (e : ∀ p, p < m.n → r p = r' p) : IsMany m r' T :=
  ⟨fun p hp => by rw [← e p hp]; exact h.lt p hp, fun j hj => by obtain ⟨p, h1, h2⟩ := h.ex j hj; exact ⟨p, h1, by rw [← e p h1]; exact h2⟩⟩
theorem IsMany.unique {m : Mp} {r : Nat → Nat} {T T' : Nat} (h : IsMany m r T) (h' : IsMany m r T') : T = T' := by
  have : ∀ {a b : Nat}, IsMany m r a → IsMany m r b → ¬ a < b := fun {a b} ha hb hlt => by
    obtain ⟨p, h1, h2⟩ := hb.ex a hlt
    have := ha.lt p h1
    omega
  have h1 := this h h'
  have h2 := this h' h
  omega
theorem cReg_ok {m : Mp} (hm : m.Ok) {k T : Nat} {rl : List Nat} (h : cReg m k rl T = true) : IsReg m (fun p => rl.getD p 0) ∧ IsMany m (fun p => rl.getD p 0) T := by
  rw [cReg, Bool.and_eq_true, Bool.and_eq_true, decide_eq_true_eq, List.all_eq_true] at h
  obtain ⟨⟨h1, h2⟩, h3⟩ := h
  obtain ⟨g1, g2⟩ := num_reg hm (cFix_ok h1) (cIter_inv hm k)
  have e : ∀ p, p < m.n → num (fun p => (cIter m k).getD p 0) ((cIter m k).getD p 0) = rl.getD p 0 := fun p hp => by
    have := h2 p (List.mem_range.2 hp)
    simpa using this
  rw [h3] at g2
  exact ⟨g1.congr e, g2.congr e⟩
/-! What lies within what. -/
theorem Free.congr {m : Mp} {r r' : Nat → Nat} (e : ∀ p, p < m.n → r p = r' p) {j p : Nat} (h : Free m r j p) : Free m r' j p := ⟨h.1, by rw [← e p h.1]; exact h.2⟩
theorem OutW.congr {m : Mp} {r r' : Nat → Nat} (e : ∀ p, p < m.n → r p = r' p) {i j : Nat} (h : OutW m r i j) : OutW m r' i j := by
  obtain ⟨p, q, h1, h2, h3⟩ := h
  exact ⟨p, q, by rw [← e p (Cn.left h2).1]; exact h1, h2.mono (fun _ hk => hk.congr e), h3⟩
theorem In.congr {m : Mp} {r r' : Nat → Nat} (e : ∀ p, p < m.n → r p = r' p) {i j : Nat} : In m r i j ↔ In m r' i j :=
  ⟨fun h => ⟨h.1, fun h' => h.2 (h'.congr fun p hp => (e p hp).symm)⟩, fun h => ⟨h.1, fun h' => h.2 (h'.congr e)⟩⟩
theorem inCount_congr {m : Mp} {r r' : Nat → Nat} (e : ∀ p, p < m.n → r p = r' p) (i : Nat) : ∀ t, inCount m r i t = inCount m r' i t
  | 0 => rfl
  | t + 1 => by
    by_cases h : In m r i t
    · rw [inCount_add h, inCount_add ((In.congr e).1 h), inCount_congr e i t]
    · rw [inCount_skip h, inCount_skip (fun h' => h ((In.congr e).2 h')), inCount_congr e i t]
theorem IsAr.congr {m : Mp} {r r' : Nat → Nat} (e : ∀ p, p < m.n → r p = r' p) {i t : Nat} {x : Int} (h : IsAr m r i t x) : IsAr m r' i t x := by
  rcases h with ⟨h1, h2⟩ | ⟨a, h1, h2, h3, h4⟩
  · exact .inl ⟨h1, fun k hk h => h2 k hk ((In.congr e).2 h)⟩
  · exact .inr ⟨a, h1, h2, (In.congr e).1 h3, fun k hk hka h => (In.congr e).1 (h4 k hk hka ((In.congr e).2 h))⟩
def cFrS (m : Mp) (r : Nat → Nat) (j : Nat) (L : List Bool) : List Bool :=
  (List.range m.n).map fun p => L.getD p false || (!decide (r p = j) && (nbrL m.wd m.n p).any fun x => L.getD x.toNat false)
def cFree (m : Mp) (r : Nat → Nat) (j : Nat) : Nat → List Bool
  | 0 => (List.range m.n).map fun p => rimB m p && decide (r p ≠ j)
  | k + 1 => cFrS m r j (cFree m r j k)
theorem cFree_fil {m : Mp} (hm : m.Ok) (r : Nat → Nat) (j : Nat) : ∀ k, Fil m r j (fun p => (cFree m r j k).getD p false)
  | 0 => by
    have h := Fil.begin (m := m) (r := r) (j := j)
    have e : ∀ p, p < m.n → (cFree m r j 0).getD p false = (rimB m p && decide (r p ≠ j)) := fun p hp => by simp [cFree, List.getD_eq_getElem?_getD, List.getElem?_range hp]
    exact ⟨fun p hp hB => h.sound p hp (by rw [← e p hp]; exact hB), fun p hp h1 h2 => by show (cFree m r j 0).getD p false = true; rw [e p hp]; exact h.start p hp h1 h2⟩
  | k + 1 => by
    have h := cFree_fil hm r j k
    have e : ∀ p, p < m.n → (cFree m r j (k + 1)).getD p false = ((cFree m r j k).getD p false || (!decide (r p = j) && (nbrL m.wd m.n p).any fun x => (cFree m r j k).getD x.toNat false)) := fun p hp => by
      simp only [cFree, cFrS, List.getD_eq_getElem?_getD, List.getElem?_map, List.getElem?_range hp, Option.map_some, Option.getD_some]
    refine ⟨fun p hp hB => ?_, fun p hp h1 h2 => ?_⟩
    · have hB : (cFree m r j (k + 1)).getD p false = true := hB
      rw [e p hp, Bool.or_eq_true, Bool.and_eq_true, List.any_eq_true] at hB
      rcases hB with hB | ⟨h1, x, hx, h2⟩
      · exact h.sound p hp hB
      · obtain ⟨q, rfl, hq⟩ := mem_nbrL hm.w0 hm.dv hp hx
        obtain ⟨z, h3, h4⟩ := h.sound q hq h2
        exact ⟨z, .step ⟨hp, by simpa using h1⟩ hx h3, h4⟩
    · show (cFree m r j (k + 1)).getD p false = true
      rw [e p hp, Bool.or_eq_true]; exact .inl (h.start p hp h1 h2)
def cShut (m : Mp) (r : Nat → Nat) (j : Nat) (L : List Bool) : Bool := (List.range m.n).all fun a => !L.getD a false || (nbrL m.wd m.n a).all fun x => decide (r x.toNat = j) || L.getD x.toNat false
/-- whether i lies within j, by the plots L that one comes to from outside without j -/
def cIn (m : Mp) (r : Nat → Nat) (i j : Nat) (L : List Bool) : Bool := !decide (i = j) && (List.range m.n).all fun p => !(decide (r p = i) && L.getD p false)
theorem cIn_ok {m : Mp} (hm : m.Ok) {r : Nat → Nat} {i j k : Nat} (h : cShut m r j (cFree m r j k) = true) : In m r i j ↔ cIn m r i j (cFree m r j k) = true := by
  have hx : ∀ a b, a < m.n → b < m.n → (cFree m r j k).getD a false = true → nb m a b → r b ≠ j → (cFree m r j k).getD b false = true := by
    intro a b ha hb hB hn hj
    have h1 := List.all_eq_true.1 h a (List.mem_range.2 ha)
    rw [hB, Bool.not_true, Bool.false_or] at h1
    have h2 := List.all_eq_true.1 h1 (b : Int) hn
    simp only [Int.toNat_natCast, Bool.or_eq_true, decide_eq_true_eq] at h2
    exact h2.resolve_left hj
  have ho := (cFree_fil hm r j k).out (i := i) hm hx
  rw [cIn, Bool.and_eq_true, List.all_eq_true]
  constructor
  · rintro ⟨h1, h2⟩
    refine ⟨by simpa using h1, fun p hp => ?_⟩
    have hp := List.mem_range.1 hp
    rw [Bool.not_eq_true', Bool.and_eq_false_iff, decide_eq_false_iff_not]
    by_cases e : r p = i
    · right
      cases hB : (cFree m r j k).getD p false with
      | false => rfl
      | true => exact absurd (ho.2 ⟨p, hp, e, hB⟩) h2
    · exact .inl e
  · rintro ⟨h1, h2⟩
    refine ⟨by simpa using h1, fun h3 => ?_⟩
    obtain ⟨p, hp, e, hB⟩ := ho.1 h3
    have h4 := h2 p (List.mem_range.2 hp)
    rw [hB, e] at h4
    simp at h4
/-- the table of what lies within what is tab -/
def cTab (m : Mp) (rl : List Nat) (T k : Nat) (tab : List (List Bool)) : Bool :=
  (List.range T).all fun j => cShut m (fun p => rl.getD p 0) j (cFree m (fun p => rl.getD p 0) j k) && (List.range T).all fun i => decide (cIn m (fun p => rl.getD p 0) i j (cFree m (fun p => rl.getD p 0) j k) = (tab.getD i []).getD j false)
theorem cTab_ok {m : Mp} (hm : m.Ok) {rl : List Nat} {T k : Nat} {tab : List (List Bool)} (h : cTab m rl T k tab = true) {i j : Nat} (hi : i < T) (hj : j < T) : In m (fun p => rl.getD p 0) i j ↔ (tab.getD i []).getD j false = true := by
  have h1 := List.all_eq_true.1 h j (List.mem_range.2 hj)
  rw [Bool.and_eq_true] at h1
  rw [cIn_ok hm h1.1]
  have h2 := List.all_eq_true.1 h1.2 i (List.mem_range.2 hi)
  rw [decide_eq_true_eq] at h2
  rw [h2]
def cCnt (row : List Bool) : Nat → Nat
  | 0 => 0
  | t + 1 => cCnt row t + if row.getD t false = true then 1 else 0
theorem cCnt_ok {m : Mp} {r : Nat → Nat} {i T : Nat} {row : List Bool} (h : ∀ j, j < T → (In m r i j ↔ row.getD j false = true)) : ∀ t, t ≤ T → inCount m r i t = cCnt row t
  | 0, _ => rfl
  | t + 1, ht => by
    rw [cCnt, ← cCnt_ok h t (by omega)]
    by_cases e : row.getD t false = true
    · rw [inCount_add ((h t (by omega)).2 e), if_pos e]
    · rw [inCount_skip (fun h' => e ((h t (by omega)).1 h')), if_neg e]; rfl
/-- x is the nearest one of row i -/
def cAr (tab : List (List Bool)) (i T : Nat) (x : Int) : Bool :=
  if x = -1 then (List.range T).all fun k => !(tab.getD i []).getD k false
  else decide (0 ≤ x ∧ x.toNat < T) && (tab.getD i []).getD x.toNat false && (List.range T).all fun k => decide (k = x.toNat) || !(tab.getD i []).getD k false || (tab.getD x.toNat []).getD k false
theorem cAr_ok {m : Mp} {r : Nat → Nat} {i T : Nat} {tab : List (List Bool)} {x : Int} (hi : i < T) (h : ∀ i j, i < T → j < T → (In m r i j ↔ (tab.getD i []).getD j false = true)) (hc : cAr tab i T x = true) : IsAr m r i T x := by
  unfold cAr at hc
  by_cases e : x = -1
  · rw [if_pos e, List.all_eq_true] at hc
    refine .inl ⟨e, fun k hk h' => ?_⟩
    have := hc k (List.mem_range.2 hk)
    rw [(h i k hi hk).1 h'] at this
    cases this
  · rw [if_neg e, Bool.and_eq_true, Bool.and_eq_true, decide_eq_true_eq, List.all_eq_true] at hc
    obtain ⟨⟨⟨h1, h2⟩, h3⟩, h4⟩ := hc
    refine .inr ⟨x.toNat, by omega, h2, (h i _ hi h2).2 h3, fun k hk hka hik => ?_⟩
    have h5 := h4 k (List.mem_range.2 hk)
    rw [(h i k hi hk).1 hik, Bool.or_eq_true, Bool.or_eq_true, decide_eq_true_eq] at h5
    rcases h5 with (h5 | h5) | h5
    · exact absurd h5 hka
    · cases h5
    · exact (h _ k h2 hk).2 h5
/-- what is reckoned holds for the numbers that a function gives -/
theorem closed_map {m : Mp} (hm : m.Ok) {rl : List Nat} {T k0 : Nat} {tab : List (List Bool)} (hreg : cReg m k0 rl T = true) (htab : cTab m rl T k0 tab = true) {r : Nat → Nat} {k : Nat} (hr : IsReg m r) (hk : IsMany m r k) :
    k = T ∧ (∀ p, p < m.n → r p = rl.getD p 0) ∧ (∀ i j, i < T → j < T → (In m r i j ↔ (tab.getD i []).getD j false = true)) ∧ (∀ i, i < T → inCount m r i T = cCnt (tab.getD i []) T) ∧ ∀ i x y, i < T → cAr tab i T x = true → IsAr m r i T y → y = x := by
  obtain ⟨g1, g2⟩ := cReg_ok hm hreg
  have e := hr.unique g1
  have hk' := hk.congr e
  have hT : k = T := hk'.unique g2
  have hin : ∀ i j, i < T → j < T → (In m r i j ↔ (tab.getD i []).getD j false = true) := fun i j hi hj => (In.congr e).trans (cTab_ok hm htab hi hj)
  refine ⟨hT, e, hin, fun i hi => cCnt_ok (fun j hj => hin i j hi hj) T (Nat.le_refl _), fun i x y hi hc hy => ?_⟩
  exact hy.unique hm (by rw [← hT]; exact hk.ex) (cAr_ok hi hin hc)
end Go.Proofs.Ytiacgaplhndlnaa
/-
  Maps that are made are right; cells of rows (taken from the texts of the enclave seat).
-/
namespace Go.Proofs.Ytiacgaplhndlnaa
open Go.RowKit Go.Shelf
open Lim

theorem cell_of_RS {B : Nat} {W : World} {a : Option Addr} {c n p : Nat} {xs : List Int} (h : RS B W (.slice a n c) n (ints xs)) (hp : p < xs.length) : ∃ g o, a = some ⟨g, o, none⟩ ∧ W.cell? ⟨g, o + p, none⟩ = some (.int .i64 (xs.getD p 0)) := by
  obtain ⟨a', c', h1, hc⟩ := h
  cases h1
  obtain ⟨g, off, rfl, hb, hcell⟩ := hc (ints_ne (by omega))
  exact ⟨g, off, rfl, by rw [List.getD_eq_getElem?_getD]; exact hcell p _ (ints_at' xs p hp)⟩
theorem RS.on {w w' : World} {v : Value} {n : Nat} {xs : List Value} (h : RS w.heap.size w v n xs) (hb : Below w.heap.size w w') : RS w'.heap.size w' v n xs := (h.below hb).mono hb.size
theorem reg_same {m : Mp} {r r' : Nat → Nat} {k k' : Nat} (hr : IsReg m r) (hr' : IsReg m r') (hk : IsMany m r k) (hk' : IsMany m r' k') : (∀ p, p < m.n → r p = r' p) ∧ k = k' :=
  ⟨hr.unique hr', (hk.congr (hr.unique hr')).unique hk'⟩
theorem errE_made {wd hi : Nat} {os : List Int} (h1 : 1 ≤ wd) (h2 : 1 ≤ hi) (h3 : wd * hi ≤ 100) (hl : os.length = wd * hi) (ho : ∀ o ∈ os, 0 ≤ o ∧ o ≤ 9) : errE wd os = 0 := by
  have h4 : 0 < wd * hi := Nat.mul_pos h1 h2
  have hc : countB (wd : Int) os.length = true := by
    unfold countB
    rw [inB_true (by omega) (by omega)]
    simp only [Bool.true_and, Bool.and_eq_true, decide_eq_true_eq]
    refine ⟨by omega, ?_⟩
    rw [hl, Int.toNat_natCast, Nat.mul_mod_right]
  unfold errE
  rw [if_pos hc, if_pos]
  rw [List.all_eq_true]
  intro p hp
  have hp := List.mem_range.1 hp
  rw [List.getD_eq_getElem?_getD, List.getElem?_eq_getElem hp]
  have := ho _ (List.getElem_mem hp)
  exact inB_true this.1 this.2
/-- the next new number, ahead of plot p -/
def NxI (r : Nat → Nat) (p nx : Nat) : Prop := (∀ q, q < p → r q < nx) ∧ ∀ j, j < nx → ∃ q, q < p ∧ r q = j
theorem NxI.le {m : Mp} {r : Nat → Nat} {p nx : Nat} (h : NxI r p nx) (hr : IsReg m r) (hp : p < m.n) : r p ≤ nx := by
  by_cases e : r p ≤ nx
  · exact e
  · obtain ⟨q, h1, h2⟩ := hr.grow p hp nx (by omega)
    have := h.1 q h1
    omega
theorem NxI.new {r : Nat → Nat} {p nx : Nat} (h : NxI r p nx) (e : r p = nx) : NxI r (p + 1) (nx + 1) := by
  refine ⟨fun q hq => ?_, fun j hj => ?_⟩
  · by_cases e2 : q = p
    · subst e2; omega
    · have := h.1 q (by omega); omega
  · by_cases e2 : j = nx
    · exact ⟨p, by omega, by omega⟩
    · obtain ⟨q, h1, h2⟩ := h.2 j (by omega)
      exact ⟨q, by omega, h2⟩
theorem NxI.old {r : Nat → Nat} {p nx : Nat} (h : NxI r p nx) (hl : r p ≤ nx) (e : r p ≠ nx) : NxI r (p + 1) nx := by
  refine ⟨fun q hq => ?_, fun j hj => ?_⟩
  · by_cases e2 : q = p
    · subst e2; omega
    · exact h.1 q (by omega)
  · obtain ⟨q, h1, h2⟩ := h.2 j hj
    exact ⟨q, by omega, h2⟩
/-- neighbours are in one region just if they are of one state -/
theorem IsReg.beside {m : Mp} {r : Nat → Nat} (hr : IsReg m r) {p q : Nat} (hp : p < m.n) (hq : q < m.n) (h : nb m p q) : r p = r q ↔ m.own p = m.own q := by
  rw [hr.same p q hp hq]
  constructor
  · intro h; exact h.own.symm
  · intro e
    exact .step ⟨hp, rfl⟩ h (.refl ⟨hq, e.symm⟩)
theorem rs_cell {B : Nat} {W : World} {g c n p : Nat} {xs : List Int} (h : RS B W (.slice (some ⟨g, 0, none⟩) n c) n (ints xs)) (hp : p < xs.length) : W.cell? ⟨g, p, none⟩ = some (.int .i64 (xs.getD p 0)) := by
  obtain ⟨g', o, e, hc⟩ := cell_of_RS h hp
  simp only [Option.some.injEq, Addr.mk.injEq, and_true] at e
  obtain ⟨rfl, rfl⟩ := e
  rwa [Nat.zero_add] at hc
theorem getD_mapR {n p : Nat} (O : Nat → Int) (hp : p < n) : ((List.range n).map O).getD p 0 = O p := by
  rw [List.getD_eq_getElem?_getD, List.getElem?_map, List.getElem?_range hp]; rfl
theorem nb_right {m : Mp} (hw : 0 < m.wd) {p : Nat} (h : 0 < (p + 1) % m.wd) : nb m p (p + 1) := by
  refine mem_nbr.2 (.inr (.inl ⟨?_, by omega⟩))
  apply Classical.byContradiction
  intro hn
  have h1 := Nat.mod_lt p hw
  have h2 := Nat.div_add_mod p m.wd
  have h3 : p + 1 = m.wd * (p / m.wd + 1) := by rw [Nat.mul_add, Nat.mul_one]; omega
  rw [h3, Nat.mul_mod_right] at h
  omega
theorem nb_down {m : Mp} {p : Nat} (h : p + m.wd < m.n) : nb m p (p + m.wd) := mem_nbr.2 (.inr (.inr (.inr ⟨h, by omega⟩)))
end Go.Proofs.Ytiacgaplhndlnaa
