/-
  Parts of the proof, in the order in which they build: RoX.
-/
import Derived.Test.YtobmhamdkngehaaA19
import Derived.Test.YtobmhamdkngehaaA8
set_option linter.unusedVariables false
set_option linter.unusedSimpArgs false
namespace Go.Proofs.Ytobmhamdkngehaa
open Go.RowKit Go.Shelf
open Lim

theorem heap_setCell_own {w : World} {g o : Nat} {cur : Array Value} {e : Nat} {fr : Nat × Nat} (u : Value) (h : w.heap[g]? = some (.cells cur e fr)) : (w.setCell ⟨g, o, none⟩ u).heap[g]? = some (.cells (cur.setIfInBounds o u) e fr) := by
  obtain ⟨hlt, hk⟩ := Array.getElem?_eq_some_iff.1 h
  simp only [World.setCell]
  rw [Array.getElem?_eq_getElem (by rw [Array.size_modify]; exact hlt), Array.getElem_modify_self, hk]
  rfl
theorem heap_growB {W W' : World} {p : Nat} {o : Obj} (h : W.heap[p]? = some o) (hb : Below W.heap.size W W') : W'.heap[p]? = some o := (hb.block p (Array.getElem?_eq_some_iff.1 h).1).trans h
/-- spans that the call has made -/
def Sq (W : World) (S m : Nat) (l : List (Int × Int)) (x : Value) : Prop := ∃ a c, x = .slice a m c ∧ W.ownsRow S 25 2 x m (spans l)
/-- numbers that the call has made -/
def Iq (W : World) (S m : Nat) (l : List Int) (x : Value) : Prop := ∃ a c, x = .slice a m c ∧ W.ownsRow S 3 1 x m (ints l)
theorem Sq.grow {W W' : World} {S m : Nat} {l : List (Int × Int)} {x : Value} (h : Sq W S m l x) (hb : Below W.heap.size W W') : Sq W' S m l x := let ⟨a, c, h0, h1⟩ := h; ⟨a, c, h0, owns_below h1 hb⟩
theorem Iq.grow {W W' : World} {S m : Nat} {l : List Int} {x : Value} (h : Iq W S m l x) (hb : Below W.heap.size W W') : Iq W' S m l x := let ⟨a, c, h0, h1⟩ := h; ⟨a, c, h0, owns_below h1 hb⟩
theorem plain_own {W : World} {S e size n : Nat} {v : Value} {xs : List Value} (h : W.ownsRow S e size v n xs) : PlainV v ∧ ∀ a c, v = .slice a n c → n ≤ c := by
  rcases h.2 with ⟨h1, h2⟩ | ⟨g, cap, cur, h1, -, -, h2, -⟩
  · exact ⟨fun a n' c e => (by rw [h1] at e; cases e), fun a c _ => by omega⟩
  · exact ⟨fun a n' c e => (by rw [h1] at e; cases e; exact ⟨_, _, rfl⟩), fun a c e => by rw [h1] at e; cases e; exact h2⟩

/-- 1 cell(s) of a block are written -/
def set1 (W : World) (p : Nat) (a : Value) : World := (W.setCell ⟨p, 0, none⟩ a)
theorem set1_other {W : World} {p k : Nat} (a : Value) (h : k ≠ p) : (set1 W p a).heap[k]? = W.heap[k]? := by
  unfold set1
  rw [Below.heap_setCell _ _ _ k h]
theorem set1_same {W : World} {p : Nat} {u0 : Value} {t : TypeId} (a : Value) (h : W.heap[p]? = some (.cells #[u0] t (0, 0))) : (set1 W p a).heap[p]? = some (.cells #[a] t (0, 0)) := by
  unfold set1
  rw [heap_setCell_own a h]
  rfl
theorem owns_set1 {W : World} {p base e' size m : Nat} {v : Value} {xs : List Value} {cs : Array Value} {t : TypeId} {fr : Nat × Nat} (a : Value) (h : W.ownsRow base e' size v m xs) (hp : W.heap[p]? = some (.cells cs t fr)) (ht : t ≠ e') : (set1 W p a).ownsRow base e' size v m xs := by
  refine ⟨h.1, ?_⟩
  rcases h.2 with hn | ⟨g, cap, cur, hv, hB, hg, r⟩
  · exact .inl hn
  · refine .inr ⟨g, cap, cur, hv, hB, (set1_other a ?_).trans hg, r⟩
    rintro rfl
    rw [hp] at hg
    cases hg
    exact ht rfl
theorem below_set1 {S : Nat} {w W : World} {p : Nat} (a : Value) (h : Below S w W) (hp : S ≤ p) : Below S w (set1 W p a) := (h.setCell (p := ⟨p, 0, none⟩) hp _)
theorem set1_size {W : World} {p : Nat} (a : Value) : (set1 W p a).heap.size = W.heap.size := by
  unfold set1; simp [World.setCell]
theorem cell_set1 {W : World} {p q j : Nat} (a : Value) (h : q ≠ p) : (set1 W p a).cell? ⟨q, j, none⟩ = W.cell? ⟨q, j, none⟩ := by
  unfold set1
  rw [setCell_farP _ _ (Ne.symm h)]
def Bx1 (W : World) (S : Nat) (t : TypeId) (x : Value) : Prop := ∃ p x0, x = .pointer (some ⟨p, 0, none⟩) ∧ S < p ∧ W.heap[p]? = some (.cells #[x0] t (0, 0))
def Fu1 (W : World) (S : Nat) (t : TypeId) (x y : Value) : Prop := ∃ p x0, x = .pointer (some ⟨p, 0, none⟩) ∧ S < p ∧ y = .agg #[x0] ∧ W.heap[p]? = some (.cells #[x0] t (0, 0))
theorem Bx1.grow {W W' : World} {S : Nat} {t : TypeId} {x : Value} (h : Bx1 W S t x) (hb : Below W.heap.size W W') : Bx1 W' S t x := let ⟨p, x0, h0, h1, h2⟩ := h; ⟨p, x0, h0, h1, heap_growB h2 hb⟩
theorem Fu1.grow {W W' : World} {S : Nat} {t : TypeId} {x y : Value} (h : Fu1 W S t x y) (hb : Below W.heap.size W W') : Fu1 W' S t x y := let ⟨p, x0, h0, h1, h2, h3⟩ := h; ⟨p, x0, h0, h1, h2, heap_growB h3 hb⟩
theorem fu1_new {W : World} {S p : Nat} {u0 a : Value} {t : TypeId} (hS : S < p) (h : W.heap[p]? = some (.cells #[u0] t (0, 0))) : Fu1 (set1 W p a) S t (.pointer (some ⟨p, 0, none⟩)) (.agg #[a]) :=
  ⟨p, _, rfl, hS, rfl, set1_same a h⟩
theorem box1_of {W : World} {p : Nat} {a : Value} {t : TypeId} (h : W.heap[p]? = some (.cells #[a] t (0, 0))) : (W.cell? ⟨p, 0, none⟩ = some a) ∧ (W.frozen? ⟨p, 0, none⟩ = false) := by
  refine ⟨?_, ?_⟩
  all_goals simp [World.cell?, World.frozen?, h]

/-- 2 cell(s) of a block are written -/
def set2 (W : World) (p : Nat) (a b : Value) : World := (W.setCell ⟨p, 0, none⟩ a).setCell ⟨p, 1, none⟩ b
theorem set2_other {W : World} {p k : Nat} (a b : Value) (h : k ≠ p) : (set2 W p a b).heap[k]? = W.heap[k]? := by
  unfold set2
  rw [Below.heap_setCell _ _ _ k h, Below.heap_setCell _ _ _ k h]
theorem set2_same {W : World} {p : Nat} {u0 u1 : Value} {t : TypeId} (a b : Value) (h : W.heap[p]? = some (.cells #[u0, u1] t (0, 0))) : (set2 W p a b).heap[p]? = some (.cells #[a, b] t (0, 0)) := by
  unfold set2
  rw [heap_setCell_own b (heap_setCell_own a h)]
  rfl
theorem owns_set2 {W : World} {p base e' size m : Nat} {v : Value} {xs : List Value} {cs : Array Value} {t : TypeId} {fr : Nat × Nat} (a b : Value) (h : W.ownsRow base e' size v m xs) (hp : W.heap[p]? = some (.cells cs t fr)) (ht : t ≠ e') : (set2 W p a b).ownsRow base e' size v m xs := by
  refine ⟨h.1, ?_⟩
  rcases h.2 with hn | ⟨g, cap, cur, hv, hB, hg, r⟩
  · exact .inl hn
  · refine .inr ⟨g, cap, cur, hv, hB, (set2_other a b ?_).trans hg, r⟩
    rintro rfl
    rw [hp] at hg
    cases hg
    exact ht rfl
theorem below_set2 {S : Nat} {w W : World} {p : Nat} (a b : Value) (h : Below S w W) (hp : S ≤ p) : Below S w (set2 W p a b) := (h.setCell (p := ⟨p, 0, none⟩) hp _).setCell (p := ⟨p, 1, none⟩) hp _
theorem set2_size {W : World} {p : Nat} (a b : Value) : (set2 W p a b).heap.size = W.heap.size := by
  unfold set2; simp [World.setCell]
theorem cell_set2 {W : World} {p q j : Nat} (a b : Value) (h : q ≠ p) : (set2 W p a b).cell? ⟨q, j, none⟩ = W.cell? ⟨q, j, none⟩ := by
  unfold set2
  rw [setCell_farP _ _ (Ne.symm h), setCell_farP _ _ (Ne.symm h)]
def Bx2 (W : World) (S : Nat) (t : TypeId) (x : Value) : Prop := ∃ p x0 x1, x = .pointer (some ⟨p, 0, none⟩) ∧ S < p ∧ W.heap[p]? = some (.cells #[x0, x1] t (0, 0))
def Fu2 (W : World) (S : Nat) (t : TypeId) (x y : Value) : Prop := ∃ p x0 x1, x = .pointer (some ⟨p, 0, none⟩) ∧ S < p ∧ y = .agg #[x0, x1] ∧ W.heap[p]? = some (.cells #[x0, x1] t (0, 0))
theorem Bx2.grow {W W' : World} {S : Nat} {t : TypeId} {x : Value} (h : Bx2 W S t x) (hb : Below W.heap.size W W') : Bx2 W' S t x := let ⟨p, x0, x1, h0, h1, h2⟩ := h; ⟨p, x0, x1, h0, h1, heap_growB h2 hb⟩
theorem Fu2.grow {W W' : World} {S : Nat} {t : TypeId} {x y : Value} (h : Fu2 W S t x y) (hb : Below W.heap.size W W') : Fu2 W' S t x y := let ⟨p, x0, x1, h0, h1, h2, h3⟩ := h; ⟨p, x0, x1, h0, h1, h2, heap_growB h3 hb⟩
theorem fu2_new {W : World} {S p : Nat} {u0 u1 a b : Value} {t : TypeId} (hS : S < p) (h : W.heap[p]? = some (.cells #[u0, u1] t (0, 0))) : Fu2 (set2 W p a b) S t (.pointer (some ⟨p, 0, none⟩)) (.agg #[a, b]) :=
  ⟨p, _, _, rfl, hS, rfl, set2_same a b h⟩
theorem box2_of {W : World} {p : Nat} {a b : Value} {t : TypeId} (h : W.heap[p]? = some (.cells #[a, b] t (0, 0))) : (W.cell? ⟨p, 0, none⟩ = some a ∧ W.cell? ⟨p, 1, none⟩ = some b) ∧ (W.frozen? ⟨p, 0, none⟩ = false ∧ W.frozen? ⟨p, 1, none⟩ = false) := by
  refine ⟨⟨?_, ?_⟩, ?_, ?_⟩
  all_goals simp [World.cell?, World.frozen?, h]

section
variable {W : World} {S p : Nat} {u0 : Value} {t : TypeId} (a : Value) (hp : W.heap[p]? = some (.cells #[u0] t (0, 0)))
include hp
theorem Sq.set1 {m : Nat} {l : List (Int × Int)} {v : Value} (h : Sq W S m l v) (h2 : t ≠ 25) : Sq (set1 W p a) S m l v := let ⟨x, y, h0, h1⟩ := h; ⟨x, y, h0, owns_set1 a h1 hp h2⟩
theorem Iq.set1 {m : Nat} {l : List Int} {v : Value} (h : Iq W S m l v) (h2 : t ≠ 3) : Iq (set1 W p a) S m l v := let ⟨x, y, h0, h1⟩ := h; ⟨x, y, h0, owns_set1 a h1 hp h2⟩
theorem Bx1.set1 {t' : TypeId} {v : Value} (h : Bx1 W S t' v) : Bx1 (set1 W p a) S t' v := by
  obtain ⟨q, x0, h0, h1, h2⟩ := h
  by_cases e0 : q = p
  · subst e0
    exact ⟨_, _, h0, h1, set1_same a h2⟩
  · exact ⟨_, _, h0, h1, (set1_other a e0).trans h2⟩
theorem Fu1.set1 {t' : TypeId} {v u : Value} (h : Fu1 W S t' v u) (ht : t' ≠ t) : Fu1 (set1 W p a) S t' v u := by
  obtain ⟨q, x0, h0, h1, h2, h3⟩ := h
  have e0 : q ≠ p := by
    rintro rfl
    rw [hp] at h3
    cases h3
    exact ht rfl
  exact ⟨_, _, h0, h1, h2, (set1_other a e0).trans h3⟩
theorem Bx2.set1 {t' : TypeId} {v : Value} (h : Bx2 W S t' v) : Bx2 (set1 W p a) S t' v := by
  obtain ⟨q, x0, x1, h0, h1, h2⟩ := h
  by_cases e0 : q = p
  · subst e0
    rw [hp] at h2; cases h2
  · exact ⟨_, _, _, h0, h1, (set1_other a e0).trans h2⟩
theorem Fu2.set1 {t' : TypeId} {v u : Value} (h : Fu2 W S t' v u) : Fu2 (set1 W p a) S t' v u := by
  obtain ⟨q, x0, x1, h0, h1, h2, h3⟩ := h
  have e0 : q ≠ p := by
    rintro rfl
    rw [hp] at h3
    cases h3
  exact ⟨_, _, _, h0, h1, h2, (set1_other a e0).trans h3⟩
end

section
variable {W : World} {S p : Nat} {u0 u1 : Value} {t : TypeId} (a b : Value) (hp : W.heap[p]? = some (.cells #[u0, u1] t (0, 0)))
include hp
theorem Sq.set2 {m : Nat} {l : List (Int × Int)} {v : Value} (h : Sq W S m l v) (h2 : t ≠ 25) : Sq (set2 W p a b) S m l v := let ⟨x, y, h0, h1⟩ := h; ⟨x, y, h0, owns_set2 a b h1 hp h2⟩
theorem Iq.set2 {m : Nat} {l : List Int} {v : Value} (h : Iq W S m l v) (h2 : t ≠ 3) : Iq (set2 W p a b) S m l v := let ⟨x, y, h0, h1⟩ := h; ⟨x, y, h0, owns_set2 a b h1 hp h2⟩
theorem Bx1.set2 {t' : TypeId} {v : Value} (h : Bx1 W S t' v) : Bx1 (set2 W p a b) S t' v := by
  obtain ⟨q, x0, h0, h1, h2⟩ := h
  by_cases e0 : q = p
  · subst e0
    rw [hp] at h2; cases h2
  · exact ⟨_, _, h0, h1, (set2_other a b e0).trans h2⟩
theorem Fu1.set2 {t' : TypeId} {v u : Value} (h : Fu1 W S t' v u) : Fu1 (set2 W p a b) S t' v u := by
  obtain ⟨q, x0, h0, h1, h2, h3⟩ := h
  have e0 : q ≠ p := by
    rintro rfl
    rw [hp] at h3
    cases h3
  exact ⟨_, _, h0, h1, h2, (set2_other a b e0).trans h3⟩
theorem Bx2.set2 {t' : TypeId} {v : Value} (h : Bx2 W S t' v) : Bx2 (set2 W p a b) S t' v := by
  obtain ⟨q, x0, x1, h0, h1, h2⟩ := h
  by_cases e0 : q = p
  · subst e0
    exact ⟨_, _, _, h0, h1, set2_same a b h2⟩
  · exact ⟨_, _, _, h0, h1, (set2_other a b e0).trans h2⟩
theorem Fu2.set2 {t' : TypeId} {v u : Value} (h : Fu2 W S t' v u) (ht : t' ≠ t) : Fu2 (set2 W p a b) S t' v u := by
  obtain ⟨q, x0, x1, h0, h1, h2, h3⟩ := h
  have e0 : q ≠ p := by
    rintro rfl
    rw [hp] at h3
    cases h3
    exact ht rfl
  exact ⟨_, _, _, h0, h1, h2, (set2_other a b e0).trans h3⟩
end
end Go.Proofs.Ytobmhamdkngehaa
