/-
  Parts of the proof, in the order in which they build: PoD.
-/
import Derived.Test.YtobmhamdkngehaaA42
import Derived.Test.YtobmhamdkngehaaA14
import Derived.Test.YtobmhamdkngehaaA13
set_option linter.unusedVariables false
set_option linter.unusedSimpArgs false
namespace Go.Proofs.Ytobmhamdkngehaa
open Go.RowKit Go.Shelf
open Lim

/-- the height that is needed between two places, in this order -/
def Pf.need (p : Pf) (i j : Nat) : Int := tallTo p i j (j - i - 1)
theorem Pf.need_nonneg (p : Pf) (i j : Nat) : 0 ≤ p.need i j := tallTo_nonneg _ _ _ _
theorem need_law {p : Pf} (hp : p.Ok) {i j : Nat} (hij : i < j) (hj : j < p.n) {t : Int} (ht : 0 ≤ t) : (p.at t).sure i j = true ↔ p.need i j ≤ t := by
  unfold Pf.sure Pf.sees
  rw [show min i j = i by omega, show max i j = j by omega]
  exact tall_law hij (hp.lt hij hj) ht
/-- no place between is so high that pillars of t are too low -/
theorem need_le {p q : Pf} (hp : p.Ok) (hq : q.Ok) (hn : q.n = p.n) {i j : Nat} (hij : i < j) (hj : j < p.n) (h : ∀ t, 0 ≤ t → (p.at t).sure i j = true → (q.at t).sure i j = true) : q.need i j ≤ p.need i j :=
  (need_law hq hij (by omega) (p.need_nonneg i j)).1 (h _ (p.need_nonneg i j) ((need_law hp hij hj (p.need_nonneg i j)).2 (Int.le_refl _)))
theorem Pf.Ok.up_to {p : Pf} (hp : p.Ok) {t : Int} (ht : 0 ≤ t ∧ t ≤ 2000) : (p.at t).Ok := ⟨hp.n2, hp.n40, hp.gn, hp.ats, hp.gr, ht, hp.bend, hp.up⟩
theorem mul3_le {a b c A B C : Int} (ha : 0 ≤ a ∧ a ≤ A) (hb : 0 ≤ b ∧ b ≤ B) (hc : 0 ≤ c ∧ c ≤ C) : a * b * c ≤ A * B * C := by
  have h1 := mul_bd ha.1 ha.2 hb.1 hb.2
  exact (mul_bd h1.1 h1.2 hc.1 hc.2).2
/-- pillars of 2000 are high enough for low ground, a small bend and short distances -/
theorem short_low {G B Hi Hj x y : Int} (hG : G ≤ 1100) (hB : 0 ≤ B ∧ B ≤ 398) (hi : 2000 ≤ Hi) (hj : 2000 ≤ Hj) (hx : 0 < x ∧ x ≤ 4449) (hy : 0 < y ∧ y ≤ 4449) : shV G B Hi Hj x y < 0 := by
  have h1 := mul3_le ⟨hB.1, hB.2⟩ ⟨Int.le_of_lt hx.1, hx.2⟩ ⟨Int.le_of_lt hy.1, hy.2⟩
  have h2 : (G * 10000000 + B * x * y) * (x + y) ≤ 19000000000 * (x + y) := Int.mul_le_mul_of_nonneg_right (by omega) (by omega)
  have h3 : 2000 * y ≤ Hi * y := Int.mul_le_mul_of_nonneg_right hi (by omega)
  have h4 : 2000 * x ≤ Hj * x := Int.mul_le_mul_of_nonneg_right hj (by omega)
  unfold shV
  omega
theorem need_bound {p : Pf} (hp : p.Ok) (hg : ∀ k, k < p.n → (p.g k).2 ≤ 1100) (hb : p.hi ≤ 398) (ha : ∀ k, k < p.n → p.a k ≤ 4449) {i j : Nat} (hij : i < j) (hj : j < p.n) : p.need i j ≤ 2000 := by
  refine (need_law hp hij hj (by omega)).1 ?_
  show (p.at 2000).open false true (min i j) (max i j) = true
  rw [open_iff]
  intro k h1 h2
  rw [short_eq]
  have hk : k < p.n := by omega
  have a0 := hp.ats (min i j) (by omega)
  have a1 := ha (max i j) (by omega)
  have l1 := hp.lt h1 hk
  have l2 := hp.lt h2 (by omega)
  have g1 := hp.gr (min i j) (by omega)
  have g2 := hp.gr (max i j) (by omega)
  have b := hp.bend
  refine short_low (hg k hk) ⟨?_, hb⟩ ?_ ?_ ⟨?_, ?_⟩ ⟨?_, ?_⟩
  · show (0 : Int) ≤ p.hi; omega
  · show 2000 ≤ (p.g (min i j)).1 + 2000; omega
  · show 2000 ≤ (p.g (max i j)).1 + 2000; omega
  · show 0 < p.a k - p.a (min i j); omega
  · show p.a k - p.a (min i j) ≤ 4449; omega
  · show 0 < p.a (max i j) - p.a k; omega
  · show p.a (max i j) - p.a k ≤ 4449; omega
theorem tall_ok {p : Pf} (hp : p.Ok) {i j : Nat} (hij : i < j) (hj : j < p.n) (h : p.need i j ≤ 2000) : tallAns p (i : Int) (j : Int) = .tuple #[.int .i64 (p.need i j), .int .i64 0] := by
  unfold tallAns
  rw [if_neg (by rw [hp.err]; decide), if_pos (twoS_of (by omega) hj (by omega))]
  have e : tallTo p (min (i : Int).toNat (j : Int).toNat) (max (i : Int).toNat (j : Int).toNat) (max (i : Int).toNat (j : Int).toNat - min (i : Int).toNat (j : Int).toNat - 1) = p.need i j := by
    rw [Int.toNat_natCast, Int.toNat_natCast, show min i j = i by omega, show max i j = j by omega]
    rfl
  rw [e, if_neg (by omega)]
theorem Nar.at {p q : Pf} (h : Nar p q) (t : Int) : Nar (p.at t) (q.at t) := ⟨h.ats, h.gl, Int.le_refl _, h.lo, h.hi, h.gr⟩
theorem Nar.need {p q : Pf} (hp : p.Ok) (hq : q.Ok) (h : Nar p q) {i j : Nat} (hij : i < j) (hj : j < p.n) (hb : p.need i j ≤ 2000) : q.need i j ≤ p.need i j := by
  have h0 := p.need_nonneg i j
  refine (need_law hq hij (by rw [h.n]; exact hj) h0).1 ?_
  exact (h.at _).sure (hp.up_to ⟨h0, hb⟩) (show i < p.n by omega) hj ((need_law hp hij hj h0).2 (Int.le_refl _))
/-- ground that is all raised by as much -/
def Pf.raise (p : Pf) (u : Int) : Pf := { p with gr := p.gr.map fun s => (s.1 + u, s.2 + u) }
theorem raise_n (p : Pf) (u : Int) : (p.raise u).n = p.n := rfl
theorem raise_g {p : Pf} (hp : p.Ok) (u : Int) {k : Nat} (hk : k < p.n) : (p.raise u).g k = ((p.g k).1 + u, (p.g k).2 + u) := by
  have hk' : k < p.gr.length := by rw [hp.gn]; exact hk
  unfold Pf.g Pf.raise
  rw [List.getD_eq_getElem?_getD, List.getD_eq_getElem?_getD, List.getElem?_map, List.getElem?_eq_getElem hk']
  rfl
theorem raise_ok {p : Pf} (hp : p.Ok) {u : Int} (hu : 0 ≤ u) (hg : ∀ k, k < p.n → (p.g k).2 + u ≤ 1000000) : (p.raise u).Ok :=
  ⟨hp.n2, hp.n40, by show (p.gr.map _).length = _; rw [List.length_map]; exact hp.gn, hp.ats, fun k hk => by
    rw [raise_g hp u hk]
    have h1 := hp.gr k hk
    have h2 := hg k hk
    exact ⟨by show 0 ≤ (p.g k).1 + u; omega, by show (p.g k).1 + u ≤ (p.g k).2 + u; omega, h2⟩, hp.tall, hp.bend, hp.up⟩
theorem shV_raise (G B Hi Hj x y u : Int) : shV (G + u) B (Hi + u) (Hj + u) x y = shV G B Hi Hj x y := by
  unfold shV
  have e1 : ((G + u) * 10000000 + B * x * y) * (x + y) = (G * 10000000 + B * x * y) * (x + y) + u * 10000000 * (x + y) := by
    rw [show (G + u) * 10000000 + B * x * y = (G * 10000000 + B * x * y) + u * 10000000 by omega, Int.add_mul]
  have e2 : u * 10000000 * (x + y) = (u * x + u * y) * 10000000 := by rw [Int.mul_right_comm, Int.mul_add]
  have e3 : (Hi + u) * y = Hi * y + u * y := Int.add_mul _ _ _
  have e4 : (Hj + u) * x = Hj * x + u * x := Int.add_mul _ _ _
  rw [e1, e2, e3, e4]
  generalize (G * 10000000 + B * x * y) * (x + y) = a
  generalize Hi * y = b
  generalize Hj * x = c
  generalize u * x = d
  generalize u * y = f
  omega
theorem raise_short {p : Pf} (hp : p.Ok) (u : Int) (hh bh : Bool) {i j k : Nat} (hi : i < p.n) (hj : j < p.n) (hk : k < p.n) : (p.raise u).short hh bh i j k = p.short hh bh i j k := by
  rw [short_eq, short_eq, raise_g hp u hi, raise_g hp u hj, raise_g hp u hk]
  have e : ∀ b (s : Int × Int), endOf b (s.1 + u, s.2 + u) = endOf b s + u := fun b s => by cases b <;> rfl
  rw [e, e, e, show (p.raise u).tall = p.tall from rfl, show endOf hh (p.g i) + u + p.tall = endOf hh (p.g i) + p.tall + u by omega, show endOf hh (p.g j) + u + p.tall = endOf hh (p.g j) + p.tall + u by omega]
  exact shV_raise _ _ _ _ _ _ _
theorem raise_sees {p : Pf} (hp : p.Ok) (u : Int) (hh bh : Bool) {i j : Nat} (hi : i < p.n) (hj : j < p.n) : (p.raise u).sees hh bh i j = p.sees hh bh i j :=
  open_same (fun k h1 h2 => raise_short hp u hh bh (by omega) (by omega) (by omega))
theorem raise_need {p : Pf} (hp : p.Ok) (u : Int) {i j : Nat} (hij : i < j) (hj : j < p.n) (h : p.need i j ≤ 2000) (hu : (p.raise u).Ok) (h' : (p.raise u).need i j ≤ 2000) : (p.raise u).need i j = p.need i j := by
  have e : ∀ t, 0 ≤ t ∧ t ≤ 2000 → ((p.raise u).at t).sure i j = (p.at t).sure i j := fun t ht => raise_sees (hp.up_to ht) u false true (show i < p.n by omega) hj
  have h0 := p.need_nonneg i j
  have h1 := (p.raise u).need_nonneg i j
  refine Int.le_antisymm ?_ ?_
  · refine (need_law hu hij hj h0).1 ?_
    rw [e _ ⟨h0, h⟩]
    exact (need_law hp hij hj h0).2 (Int.le_refl _)
  · refine (need_law hp hij hj h1).1 ?_
    rw [← e _ ⟨h1, h'⟩]
    exact (need_law hu hij hj h1).2 (Int.le_refl _)
end Go.Proofs.Ytobmhamdkngehaa
