/-
  Parts of the proof, in the order in which they build: PdB, PdC, PdD, PdE.
-/
import Derived.Deep.CutRange
import Derived.Maps.AppendAt
import Derived.Test.YtobmhamdkngehaaA39
import Derived.Test.YtobmhamdkngehaaA4
import Derived.Test.YtobmhamdkngehaaA20
set_option linter.unusedVariables false
set_option linter.unusedSimpArgs false
/-
  Rows that a call has made, none of which shares memory with another.
-/
namespace Go.Proofs.Ytobmhamdkngehaa
open Go.RowKit Go.Shelf
open Lim

theorem heap_setCell_self {w : World} {g o : Nat} {cur : Array Value} {e : Nat} {fr : Nat × Nat} (u : Value) (h : w.heap[g]? = some (.cells cur e fr)) : (w.setCell ⟨g, o, none⟩ u).heap[g]? = some (.cells (cur.setIfInBounds o u) e fr) := by
  obtain ⟨hlt, hk⟩ := Array.getElem?_eq_some_iff.1 h
  simp only [World.setCell]
  rw [Array.getElem?_eq_getElem (by rw [Array.size_modify]; exact hlt), Array.getElem_modify_self, hk]
  rfl
theorem heap_alloc_new (w : World) (o : Obj) : (w.alloc o).heap[w.heap.size]? = some o := heap_alloc_newP w o
theorem setCell_far (w : World) {p q i j : Nat} (v : Value) (h : p ≠ q) : (w.setCell ⟨p, i, none⟩ v).cell? ⟨q, j, none⟩ = w.cell? ⟨q, j, none⟩ := setCell_farP w v h
structure Row where
  e : TypeId
  size : Nat
  v : Value
  n : Nat
  xs : List Value
def Row.Owned (r : Row) (W : World) (S : Nat) : Prop := W.ownsRow S r.e r.size r.v r.n r.xs
structure Sep (W : World) (S : Nat) (R : Nat → Row) : Prop where
  own : ∀ i, i < 7 → (R i).Owned W S
  apart : ∀ i j, i < 7 → j < 7 → i ≠ j → ∀ k, (R i).v.ownBlock = some k → (R j).v.ownBlock ≠ some k
theorem owned_block {r : Row} {W : World} {S : Nat} (h : r.Owned W S) {k : Nat} (hk : r.v.ownBlock = some k) : S ≤ k ∧ k < W.heap.size ∧ ∃ cs, W.heap[k]? = some (.cells cs r.e (0, 0)) := by
  rcases h.2 with ⟨h1, -⟩ | ⟨g, cap, cur, h1, hB, hg, -⟩
  · rw [h1] at hk; cases hk
  · rw [h1] at hk
    have e : g = k := by simpa [Value.ownBlock] using hk
    subst e
    exact ⟨hB, (Array.getElem?_eq_some_iff.1 hg).1, cur, hg⟩
theorem owned_keep {r : Row} {W W' : World} {S : Nat} (h : r.Owned W S) (hk : ∀ k, r.v.ownBlock = some k → W'.heap[k]? = W.heap[k]?) : r.Owned W' S := by
  refine ⟨h.1, ?_⟩
  rcases h.2 with hn | ⟨g, cap, cur, h1, hB, hg, r'⟩
  · exact .inl hn
  · exact .inr ⟨g, cap, cur, h1, hB, (hk g (by rw [h1]; rfl)).trans hg, r'⟩
theorem Sep.keep {W W' : World} {S : Nat} {R : Nat → Row} (h : Sep W S R) (hk : ∀ k, S ≤ k → k < W.heap.size → (∃ i, i < 7 ∧ (R i).v.ownBlock = some k) → W'.heap[k]? = W.heap[k]?) : Sep W' S R :=
  ⟨fun i hi => owned_keep (h.own i hi) (fun k hb => let h1 := owned_block (h.own i hi) hb; hk k h1.1 h1.2.1 ⟨i, hi, hb⟩), h.apart⟩
theorem Sep.grown {W W' : World} {S d : Nat} {R : Nat → Row} (h : Sep W S R) (hd : d < S) (hg : W.grownBy W' (some d)) : Sep W' S R := h.keep (fun k hk hk2 _ => hg.block k hk2 (fun e => by cases e; omega))
/-- a block of another type is written -/
theorem Sep.setAt {W : World} {S p j : Nat} {R : Nat → Row} {t : TypeId} {cs : Array Value} {fr : Nat × Nat} (h : Sep W S R) (hp : W.heap[p]? = some (.cells cs t fr)) (ht : ∀ i, i < 7 → t ≠ (R i).e) (v : Value) : Sep (W.setCell ⟨p, j, none⟩ v) S R :=
  h.keep (fun k _ _ ⟨i, hi, hb⟩ => Below.heap_setCell W ⟨p, j, none⟩ v k (fun e => by
    have e : k = p := e
    subst e
    obtain ⟨cs', hc⟩ := (owned_block (h.own i hi) hb).2.2
    rw [hc] at hp
    cases hp
    exact ht i hi rfl))
def nilRow (e : TypeId) (size : Nat) : Row := ⟨e, size, .slice none 0 0, 0, []⟩
theorem nilRow_owned (e size : Nat) (W : World) (S : Nat) : (nilRow e size).Owned W S := World.ownsRow_nil _ _ _ _
end Go.Proofs.Ytobmhamdkngehaa
/-
  Profiles that are made of a deck: what memory holds while one is made.
-/
namespace Go.Proofs.Ytobmhamdkngehaa
open Go.RowKit Go.Shelf
open Lim

/-- the rows of a ground that is made -/
def rows3 (hv sv tv : Value) (k : Nat) (hs : List Int) (ss : List (Int × Int)) (T : List Int) (u3 u4 u5 u6 : Row) : Nat → Row
  | 0 => ⟨3, 1, hv, k, ints hs⟩
  | 1 => ⟨25, 2, sv, k, spans ss⟩
  | 2 => ⟨3, 1, tv, k, ints T⟩
  | 3 => u3
  | 4 => u4
  | 5 => u5
  | _ => u6
/-- memory while a ground is made -/
structure MaS (w : World) (d : Nat) (wd : Int × Int × Int) (c : Nat) (hv sv tv : Value) (k : Nat) (hs : List Int) (ss : List (Int × Int)) (T : List Int) (u6 : Row) (W : World) : Prop where
  gr : w.grownBy W (some d)
  dk : Deck W d c
  zz : W.heap[w.heap.size]? = some (.cells #[.slice none 0 0, .slice none 0 0, .int .i64 0, .int .i64 0, .int .i64 0] 27 (0, 0))
  bx : W.heap[w.heap.size + 1]? = some (.cells #[hv, sv, .int .i64 wd.1, .int .i64 wd.2.1, .int .i64 wd.2.2] 27 (0, 0))
  sep : Sep W w.heap.size (rows3 hv sv tv k hs ss T (nilRow 3 1) (nilRow 25 2) (nilRow 3 1) u6)
  lt : d < w.heap.size
theorem Deck.below {W W' : World} {d n : Nat} (h : Deck W d n) (hb : Below W.heap.size W W') : Deck W' d n :=
  let ⟨cv, l, k, s, h, hk⟩ := h
  have hd : d < W.heap.size := World.block_lt_of_cell? _ _ h.c.1
  ⟨cv, l, k, s, ⟨⟨cell_on hb h.c.1, cell_on hb h.c.2.1, cell_on hb h.c.2.2⟩, ⟨frozen_on hb h.c.2.1 h.f.1, frozen_on hb h.c.2.2 h.f.2⟩, h.r.below (hb.mono (Nat.le_of_lt hd)), h.u, h.k0, h.s0⟩, hk⟩
theorem grown_on {w W W' : World} {row : Option Nat} (h : w.grownBy W row) (hb : Below W.heap.size W W') : w.grownBy W' row :=
  ⟨hb.os.trans h.os, hb.tape.trans h.tape, hb.output.trans h.output, Nat.le_trans h.size hb.size, fun k hk hr => (hb.block k (Nat.lt_of_lt_of_le hk h.size)).trans (h.block k hk hr)⟩
theorem Sep.ext {W : World} {S : Nat} {R R' : Nat → Row} (h : Sep W S R) (e : ∀ i, i < 7 → R i = R' i) : Sep W S R' :=
  ⟨fun i hi => (e i hi) ▸ h.own i hi, fun i j hi hj hij k hk => by rw [← e j hj]; rw [← e i hi] at hk; exact h.apart i j hi hj hij k hk⟩
theorem Deck.far {W : World} {d n ps : Nat} (h : Deck W d n) (hd : d < ps) (j : Nat) (v : Value) : Deck (W.setCell ⟨ps, j, none⟩ v) d n :=
  let ⟨cv, l, k, s, h, hk⟩ := h
  ⟨cv, l, k, s, ⟨⟨(setCell_far _ _ (Nat.ne_of_gt hd)).trans h.c.1, (setCell_far _ _ (Nat.ne_of_gt hd)).trans h.c.2.1, (setCell_far _ _ (Nat.ne_of_gt hd)).trans h.c.2.2⟩, ⟨(World.frozen?_setCell ..).trans h.f.1, (World.frozen?_setCell ..).trans h.f.2⟩, h.r.below ((Below.refl d W).setCell (p := ⟨ps, j, none⟩) (Nat.le_of_lt hd) _), h.u, h.k0, h.s0⟩, hk⟩
theorem grown_far {w W : World} {row : Option Nat} {p : Nat} (h : w.grownBy W row) (hp : w.heap.size ≤ p) (j : Nat) (v : Value) : w.grownBy (W.setCell ⟨p, j, none⟩ v) row :=
  ⟨h.os, h.tape, h.output, by simpa [World.setCell] using h.size, fun k hk hr => (Below.heap_setCell W ⟨p, j, none⟩ v k (by show k ≠ p; omega)).trans (h.block k hk hr)⟩
/-- what lies there while a cell is put behind the others -/
structure Core (w : World) (d : Nat) (wd : Int × Int × Int) (c : Nat) (u1 u2 : Value) (R : Nat → Row) (W : World) : Prop where
  gr : w.grownBy W (some d)
  dk : Deck W d c
  zz : W.heap[w.heap.size]? = some (.cells #[.slice none 0 0, .slice none 0 0, .int .i64 0, .int .i64 0, .int .i64 0] 27 (0, 0))
  bx : W.heap[w.heap.size + 1]? = some (.cells #[u1, u2, .int .i64 wd.1, .int .i64 wd.2.1, .int .i64 wd.2.2] 27 (0, 0))
  sep : Sep W w.heap.size R
  lt : d < w.heap.size
theorem Deck.row {W W' : World} {d n : Nat} {row : Option Nat} (h : Deck W d n) (hg : W.grownBy W' row) (hr : ∀ r, row = some r → d < r) : Deck W' d n := by
  obtain ⟨cv, l, k, s, h, hk⟩ := h
  have hd : d < W.heap.size := World.block_lt_of_cell? _ _ h.c.1
  have he : W'.heap[d]? = W.heap[d]? := hg.block d hd (fun e => by have := hr d e.symm; omega)
  have hb : Below d W W' := ⟨hg.os, hg.tape, hg.output, hg.size, fun k hk => hg.block k (by omega) (fun e => by have := hr k e.symm; omega)⟩
  exact ⟨cv, l, k, s, ⟨⟨(World.cell?_of_block he).trans h.c.1, (World.cell?_of_block he).trans h.c.2.1, (World.cell?_of_block he).trans h.c.2.2⟩, ⟨(World.frozen?_of_block he).trans h.f.1, (World.frozen?_of_block he).trans h.f.2⟩, h.r.below hb, h.u, h.k0, h.s0⟩, hk⟩
theorem Core.ext {w : World} {d : Nat} {wd : Int × Int × Int} {c : Nat} {u1 u2 : Value} {R R' : Nat → Row} {W : World} (H : Core w d wd c u1 u2 R W) (e : ∀ i, i < 7 → R i = R' i) : Core w d wd c u1 u2 R' W := ⟨H.gr, H.dk, H.zz, H.bx, H.sep.ext e, H.lt⟩
end Go.Proofs.Ytobmhamdkngehaa
/-
  The drawn region of Made: each effect keeps what holds there.
-/
namespace Go.Proofs.Ytobmhamdkngehaa
open Go.RowKit Go.Shelf
open Lim


end Go.Proofs.Ytobmhamdkngehaa
/-
  Profiles that are made of a deck: where the drawn region begins and ends.
-/
namespace Go.Proofs.Ytobmhamdkngehaa
open Go.RowKit Go.Shelf
open Lim

theorem Sep.drop {W : World} {S : Nat} {R R' : Nat → Row} (h : Sep W S R) (e : ∀ i, i < 7 → R' i = R i ∨ ∃ t n, R' i = nilRow t n) : Sep W S R' :=
  ⟨fun i hi => by
    rcases e i hi with e | ⟨t, n, e⟩
    · rw [e]; exact h.own i hi
    · rw [e]; exact nilRow_owned _ _ _ _,
   fun i j hi hj hij k hk => by
    rcases e i hi with e1 | ⟨t, n, e1⟩
    · rw [e1] at hk
      rcases e j hj with e2 | ⟨t, n, e2⟩
      · rw [e2]; exact h.apart i j hi hj hij k hk
      · rw [e2]; intro h; cases h
    · rw [e1] at hk; cases hk⟩
end Go.Proofs.Ytobmhamdkngehaa
