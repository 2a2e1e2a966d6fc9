/-
  Parts of the proof, in the order in which they build: Fiv.
-/
import Derived.Test.YtobmhamdkngehaaA20
set_option linter.unusedVariables false
set_option linter.unusedSimpArgs false
namespace Go.Proofs.Ytobmhamdkngehaa
open Go.RowKit Go.Shelf
open Lim

theorem heap_setCell_self {w : World} {g o : Nat} {cur : Array Value} {e : Nat} {fr : Nat × Nat} (u : Value) (h : w.heap[g]? = some (.cells cur e fr)) : (w.setCell ⟨g, o, none⟩ u).heap[g]? = some (.cells (cur.setIfInBounds o u) e fr) := by
  obtain ⟨hlt, hk⟩ := Array.getElem?_eq_some_iff.1 h
  simp only [World.setCell]
  rw [Array.getElem?_eq_getElem (by rw [Array.size_modify]; exact hlt), Array.getElem_modify_self, hk]
  rfl
/-- five cells of a block are written -/
def set5 (W : World) (p : Nat) (a b c d e : Value) : World := ((((W.setCell ⟨p, 0, none⟩ a).setCell ⟨p, 1, none⟩ b).setCell ⟨p, 2, none⟩ c).setCell ⟨p, 3, none⟩ d).setCell ⟨p, 4, none⟩ e
theorem set5_other {W : World} {p k : Nat} (a b c d e : Value) (h : k ≠ p) : (set5 W p a b c d e).heap[k]? = W.heap[k]? := by
  unfold set5
  rw [Below.heap_setCell _ _ _ k h, Below.heap_setCell _ _ _ k h, Below.heap_setCell _ _ _ k h, Below.heap_setCell _ _ _ k h, Below.heap_setCell _ _ _ k h]
theorem set5_same {W : World} {p : Nat} {u0 u1 u2 u3 u4 : Value} {t : TypeId} (a b c d e : Value) (h : W.heap[p]? = some (.cells #[u0, u1, u2, u3, u4] t (0, 0))) : (set5 W p a b c d e).heap[p]? = some (.cells #[a, b, c, d, e] t (0, 0)) := by
  unfold set5
  rw [heap_setCell_self e (heap_setCell_self d (heap_setCell_self c (heap_setCell_self b (heap_setCell_self a h))))]
  rfl
theorem owns_set5 {W : World} {p base e' size n : Nat} {v : Value} {xs : List Value} {cs : Array Value} {t : TypeId} {fr : Nat × Nat} (a b c d e : Value) (h : W.ownsRow base e' size v n xs) (hp : W.heap[p]? = some (.cells cs t fr)) (ht : t ≠ e') : (set5 W p a b c d e).ownsRow base e' size v n xs := by
  refine ⟨h.1, ?_⟩
  rcases h.2 with hn | ⟨g, cap, cur, hv, hB, hg, r⟩
  · exact .inl hn
  · refine .inr ⟨g, cap, cur, hv, hB, (set5_other a b c d e ?_).trans hg, r⟩
    rintro rfl
    rw [hp] at hg
    cases hg
    exact ht rfl
theorem below_set5 {S : Nat} {w W : World} {p : Nat} (a b c d e : Value) (h : Below S w W) (hp : S ≤ p) : Below S w (set5 W p a b c d e) := ((((h.setCell (p := ⟨p, 0, none⟩) hp _).setCell (p := ⟨p, 1, none⟩) hp _).setCell (p := ⟨p, 2, none⟩) hp _).setCell (p := ⟨p, 3, none⟩) hp _).setCell (p := ⟨p, 4, none⟩) hp _
theorem set5_size {W : World} {p : Nat} (a b c d e : Value) : (set5 W p a b c d e).heap.size = W.heap.size := by
  unfold set5; simp [World.setCell]
theorem cell_set5 {W : World} {p q j : Nat} (a b c d e : Value) (h : q ≠ p) : (set5 W p a b c d e).cell? ⟨q, j, none⟩ = W.cell? ⟨q, j, none⟩ := by
  unfold set5
  rw [setCell_farP _ _ (Ne.symm h), setCell_farP _ _ (Ne.symm h), setCell_farP _ _ (Ne.symm h), setCell_farP _ _ (Ne.symm h), setCell_farP _ _ (Ne.symm h)]
theorem five_of_heap {W : World} {p : Nat} {a b c d e : Value} {t : TypeId} (h : W.heap[p]? = some (.cells #[a, b, c, d, e] t (0, 0))) :
    (W.cell? ⟨p, 0, none⟩ = some a ∧ W.cell? ⟨p, 1, none⟩ = some b ∧ W.cell? ⟨p, 2, none⟩ = some c ∧ W.cell? ⟨p, 3, none⟩ = some d ∧ W.cell? ⟨p, 4, none⟩ = some e) ∧ (W.frozen? ⟨p, 0, none⟩ = false ∧ W.frozen? ⟨p, 1, none⟩ = false ∧ W.frozen? ⟨p, 2, none⟩ = false ∧ W.frozen? ⟨p, 3, none⟩ = false ∧ W.frozen? ⟨p, 4, none⟩ = false) := five_cells h
/-- a profile that the call has made -/
def Pq (W : World) (S n1 n2 : Nat) (p : Pf) (tl lo hi : Int) (x : Value) : Prop :=
  ∃ a c a' c', x = .agg #[.slice a n1 c, .slice a' n2 c', .int .i64 tl, .int .i64 lo, .int .i64 hi] ∧ W.ownsRow S 3 1 (.slice a n1 c) n1 (ints p.ats) ∧ W.ownsRow S 25 2 (.slice a' n2 c') n2 (spans p.gr)
/-- a list of numbers that the call has made -/
def Lq (W : World) (S m : Nat) (l : List Int) (x : Value) : Prop := ∃ a c, x = .slice a m c ∧ W.ownsRow S 3 1 x m (ints l)
/-- a place for a profile, and such a place with a profile in it -/
def Bx5 (W : World) (S : Nat) (t : TypeId) (x : Value) : Prop := ∃ p a b c d e, x = .pointer (some ⟨p, 0, none⟩) ∧ S < p ∧ W.heap[p]? = some (.cells #[a, b, c, d, e] t (0, 0))
def Fu5 (W : World) (S : Nat) (t : TypeId) (x y : Value) : Prop := ∃ p a b c d e, x = .pointer (some ⟨p, 0, none⟩) ∧ S < p ∧ y = .agg #[a, b, c, d, e] ∧ W.heap[p]? = some (.cells #[a, b, c, d, e] t (0, 0))
theorem Pq.grow {W W' : World} {S n1 n2 : Nat} {p : Pf} {tl lo hi : Int} {x : Value} (h : Pq W S n1 n2 p tl lo hi x) (hb : Below W.heap.size W W') : Pq W' S n1 n2 p tl lo hi x :=
  let ⟨a, c, a', c', h0, h1, h2⟩ := h; ⟨a, c, a', c', h0, owns_below h1 hb, owns_below h2 hb⟩
theorem Lq.grow {W W' : World} {S m : Nat} {l : List Int} {x : Value} (h : Lq W S m l x) (hb : Below W.heap.size W W') : Lq W' S m l x := let ⟨a, c, h0, h1⟩ := h; ⟨a, c, h0, owns_below h1 hb⟩
theorem heap_grow5 {W W' : World} {p : Nat} {o : Obj} (h : W.heap[p]? = some o) (hb : Below W.heap.size W W') : W'.heap[p]? = some o := (hb.block p (Array.getElem?_eq_some_iff.1 h).1).trans h
theorem Bx5.grow {W W' : World} {S : Nat} {t : TypeId} {x : Value} (h : Bx5 W S t x) (hb : Below W.heap.size W W') : Bx5 W' S t x := let ⟨p, a, b, c, d, e, h0, h1, h2⟩ := h; ⟨p, a, b, c, d, e, h0, h1, heap_grow5 h2 hb⟩
theorem Fu5.grow {W W' : World} {S : Nat} {t : TypeId} {x y : Value} (h : Fu5 W S t x y) (hb : Below W.heap.size W W') : Fu5 W' S t x y := let ⟨p, a, b, c, d, e, h0, h1, h2, h3⟩ := h; ⟨p, a, b, c, d, e, h0, h1, h2, heap_grow5 h3 hb⟩
section
variable {W : World} {S p : Nat} {u0 u1 u2 u3 u4 : Value} {t : TypeId} (a b c d e : Value) (hp : W.heap[p]? = some (.cells #[u0, u1, u2, u3, u4] t (0, 0)))
include hp
theorem Pq.set5 {n1 n2 : Nat} {P : Pf} {tl lo hi : Int} {v : Value} (h : Pq W S n1 n2 P tl lo hi v) (h1 : t ≠ 25) (h2 : t ≠ 3) : Pq (set5 W p a b c d e) S n1 n2 P tl lo hi v :=
  let ⟨x, y, x', y', h0, k1, k2⟩ := h; ⟨x, y, x', y', h0, owns_set5 a b c d e k1 hp h2, owns_set5 a b c d e k2 hp h1⟩
theorem Lq.set5 {m : Nat} {l : List Int} {v : Value} (h : Lq W S m l v) (h2 : t ≠ 3) : Lq (set5 W p a b c d e) S m l v := let ⟨x, y, h0, h1⟩ := h; ⟨x, y, h0, owns_set5 a b c d e h1 hp h2⟩
theorem Bx5.set5 {t' : TypeId} {v : Value} (h : Bx5 W S t' v) : Bx5 (set5 W p a b c d e) S t' v := by
  obtain ⟨q, a', b', c', d', e', h0, h1, h2⟩ := h
  by_cases e0 : q = p
  · subst e0; exact ⟨_, _, _, _, _, _, h0, h1, set5_same a b c d e h2⟩
  · exact ⟨_, _, _, _, _, _, h0, h1, (set5_other a b c d e e0).trans h2⟩
theorem Fu5.set5 {t' : TypeId} {v u : Value} (h : Fu5 W S t' v u) (ht : t' ≠ t) : Fu5 (set5 W p a b c d e) S t' v u := by
  obtain ⟨q, a', b', c', d', e', h0, h1, h2, h3⟩ := h
  have e0 : q ≠ p := by
    rintro rfl
    rw [hp] at h3
    cases h3
    exact ht rfl
  exact ⟨_, _, _, _, _, _, h0, h1, h2, (set5_other a b c d e e0).trans h3⟩
end
theorem fu5_new {W : World} {S p : Nat} {u0 u1 u2 u3 u4 a b c d e : Value} {t : TypeId} (hS : S < p) (h : W.heap[p]? = some (.cells #[u0, u1, u2, u3, u4] t (0, 0))) : Fu5 (set5 W p a b c d e) S t (.pointer (some ⟨p, 0, none⟩)) (.agg #[a, b, c, d, e]) :=
  ⟨p, _, _, _, _, _, rfl, hS, rfl, set5_same a b c d e h⟩
end Go.Proofs.Ytobmhamdkngehaa
