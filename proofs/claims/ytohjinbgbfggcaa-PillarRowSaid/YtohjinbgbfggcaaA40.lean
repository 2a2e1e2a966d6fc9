/-
  Parts of the proof, in the order in which they build: PdB, PdC, PdD, PdE.
-/
import Derived.Deep.CutRange
import Derived.Maps.AppendAt
import Derived.Test.YtohjinbgbfggcaaA39
import Derived.Test.YtohjinbgbfggcaaA4
import Derived.Test.YtohjinbgbfggcaaA20
set_option linter.unusedVariables false
set_option linter.unusedSimpArgs false
/-
  Rows that a call has made, none of which shares memory with another.
-/
namespace Go.Proofs.Ytohjinbgbfggcaa
open Go.RowKit Go.Shelf
open Lim

theorem heap_setCell_self {w : World} {g o : Nat} {cur : Array Value} {e : Nat} {fr : Nat × Nat} (u : Value) (h : w.heap[g]? = some (.cells cur e fr)) : (w.setCell ⟨g, o, none⟩ u).heap[g]? = some (.cells (cur.setIfInBounds o u) e fr) := by
  obtain ⟨hlt, hk⟩ := Array.getElem?_eq_some_iff.1 h
  simp only [World.setCell]
  rw [Array.getElem?_eq_getElem (by rw [Array.size_modify]; exact hlt), Array.getElem_modify_self, hk]
  rfl
theorem heap_alloc_new (w : World) (o : Obj) : (w.alloc o).heap[w.heap.size]? = some o := heap_alloc_newP w o
theorem heap_grow {W W' : World} {p : Nat} {o : Obj} (h : W.heap[p]? = some o) (hb : Below W.heap.size W W') : W'.heap[p]? = some o := (hb.block p (Array.getElem?_eq_some_iff.1 h).1).trans h
theorem setCell_far (w : World) {p q i j : Nat} (v : Value) (h : p ≠ q) : (w.setCell ⟨p, i, none⟩ v).cell? ⟨q, j, none⟩ = w.cell? ⟨q, j, none⟩ := setCell_farP w v h
structure Row where
  e : TypeId
  size : Nat
  v : Value
  n : Nat
  xs : List Value
def Row.Owned (r : Row) (W : World) (S : Nat) : Prop := W.ownsRow S r.e r.size r.v r.n r.xs
structure Sep (W : World) (S : Nat) (R : Nat → Row) : Prop where
  own : ∀ i, i < 7 → (R i).Owned W S
  apart : ∀ i j, i < 7 → j < 7 → i ≠ j → ∀ k, (R i).v.ownBlock = some k → (R j).v.ownBlock ≠ some k
theorem owned_block {r : Row} {W : World} {S : Nat} (h : r.Owned W S) {k : Nat} (hk : r.v.ownBlock = some k) : S ≤ k ∧ k < W.heap.size ∧ ∃ cs, W.heap[k]? = some (.cells cs r.e (0, 0)) := by
  rcases h.2 with ⟨h1, -⟩ | ⟨g, cap, cur, h1, hB, hg, -⟩
  · rw [h1] at hk; cases hk
  · rw [h1] at hk
    have e : g = k := by simpa [Value.ownBlock] using hk
    subst e
    exact ⟨hB, (Array.getElem?_eq_some_iff.1 hg).1, cur, hg⟩
theorem owned_keep {r : Row} {W W' : World} {S : Nat} (h : r.Owned W S) (hk : ∀ k, r.v.ownBlock = some k → W'.heap[k]? = W.heap[k]?) : r.Owned W' S := by
  refine ⟨h.1, ?_⟩
  rcases h.2 with hn | ⟨g, cap, cur, h1, hB, hg, r'⟩
  · exact .inl hn
  · exact .inr ⟨g, cap, cur, h1, hB, (hk g (by rw [h1]; rfl)).trans hg, r'⟩
theorem Sep.upd {W W' : World} {S : Nat} {R : Nat → Row} (h : Sep W S R) {i : Nat} (hi : i < 7) (r' : Row) (hg : W.grownBy W' (R i).v.ownBlock) (ho : r'.Owned W' S) (hb : r'.v.ownBlock = (R i).v.ownBlock ∨ r'.v.ownBlock = some W.heap.size) : Sep W' S (fun j => if j = i then r' else R j) := by
  have old : ∀ j, j < 7 → ∀ k, (R j).v.ownBlock = some k → k < W.heap.size := fun j hj k hk => (owned_block (h.own j hj) hk).2.1
  refine ⟨fun j hj => ?_, fun a b ha hb' hab k hk => ?_⟩
  · by_cases e : j = i
    · simp only [e, if_true]; exact ho
    · simp only [e, if_false]
      refine owned_keep (h.own j hj) (fun k hk => hg.block k (old j hj k hk) (fun e' => ?_))
      exact h.apart j i hj hi e k hk e'.symm
  · by_cases ea : a = i
    · simp only [ea, if_true] at hk
      simp only [show ¬ b = i from fun e => hab (ea.trans e.symm), if_false]
      rcases hb with hb | hb
      · rw [hb] at hk
        exact fun hk2 => h.apart i b hi hb' (fun e => hab (ea.trans e)) k hk hk2
      · rw [hb] at hk
        cases hk
        exact fun hk2 => absurd (old b hb' _ hk2) (Nat.lt_irrefl _)
    · simp only [ea, if_false] at hk
      by_cases eb : b = i
      · simp only [eb, if_true]
        rcases hb with hb | hb
        · rw [hb]; exact h.apart a i ha hi ea k hk
        · rw [hb]
          intro e
          cases e
          exact absurd (old a ha _ hk) (Nat.lt_irrefl _)
      · simp only [eb, if_false]
        exact h.apart a b ha hb' hab k hk
theorem Sep.keep {W W' : World} {S : Nat} {R : Nat → Row} (h : Sep W S R) (hk : ∀ k, S ≤ k → k < W.heap.size → (∃ i, i < 7 ∧ (R i).v.ownBlock = some k) → W'.heap[k]? = W.heap[k]?) : Sep W' S R :=
  ⟨fun i hi => owned_keep (h.own i hi) (fun k hb => let h1 := owned_block (h.own i hi) hb; hk k h1.1 h1.2.1 ⟨i, hi, hb⟩), h.apart⟩
theorem Sep.below {W W' : World} {S : Nat} {R : Nat → Row} (h : Sep W S R) (hb : Below W.heap.size W W') : Sep W' S R := h.keep (fun k _ hk _ => hb.block k hk)
theorem Sep.grown {W W' : World} {S d : Nat} {R : Nat → Row} (h : Sep W S R) (hd : d < S) (hg : W.grownBy W' (some d)) : Sep W' S R := h.keep (fun k hk hk2 _ => hg.block k hk2 (fun e => by cases e; omega))
/-- a block of another type is written -/
theorem Sep.setAt {W : World} {S p j : Nat} {R : Nat → Row} {t : TypeId} {cs : Array Value} {fr : Nat × Nat} (h : Sep W S R) (hp : W.heap[p]? = some (.cells cs t fr)) (ht : ∀ i, i < 7 → t ≠ (R i).e) (v : Value) : Sep (W.setCell ⟨p, j, none⟩ v) S R :=
  h.keep (fun k _ _ ⟨i, hi, hb⟩ => Below.heap_setCell W ⟨p, j, none⟩ v k (fun e => by
    have e : k = p := e
    subst e
    obtain ⟨cs', hc⟩ := (owned_block (h.own i hi) hb).2.2
    rw [hc] at hp
    cases hp
    exact ht i hi rfl))
def nilRow (e : TypeId) (size : Nat) : Row := ⟨e, size, .slice none 0 0, 0, []⟩
theorem nilRow_owned (e size : Nat) (W : World) (S : Nat) : (nilRow e size).Owned W S := World.ownsRow_nil _ _ _ _
end Go.Proofs.Ytohjinbgbfggcaa
/-
  Profiles that are made of a deck: what memory holds while one is made.
-/
namespace Go.Proofs.Ytohjinbgbfggcaa
open Go.RowKit Go.Shelf
open Lim

/-- the rows of a ground that is made -/
def rows3 (hv sv tv : Value) (k : Nat) (hs : List Int) (ss : List (Int × Int)) (T : List Int) (u3 u4 u5 u6 : Row) : Nat → Row
  | 0 => ⟨3, 1, hv, k, ints hs⟩
  | 1 => ⟨28, 2, sv, k, spans ss⟩
  | 2 => ⟨3, 1, tv, k, ints T⟩
  | 3 => u3
  | 4 => u4
  | 5 => u5
  | _ => u6
/-- the places that are made so far -/
structure Cells3 (k : Nat) (hs : List Int) (ss : List (Int × Int)) (T : List Int) : Prop where
  l1 : hs.length = k
  l2 : ss.length = k
  l3 : T.length = k
  h : ∀ c, c < k → 0 ≤ (ss.getD c (0, 0)).1 ∧ (ss.getD c (0, 0)).1 ≤ T.getD c 0 ∧ T.getD c 0 ≤ (ss.getD c (0, 0)).2 ∧ (ss.getD c (0, 0)).2 ≤ 67
  a0 : ∀ c, c < k → 0 ≤ hs.getD c 0 ∧ hs.getD c 0 ≤ 49 + 400 * c
  a1 : ∀ c, c + 1 < k → hs.getD c 0 < hs.getD (c + 1) 0
/-- memory while a ground is made -/
structure MaS (w : World) (d : Nat) (wd : Int × Int × Int) (c : Nat) (hv sv tv : Value) (k : Nat) (hs : List Int) (ss : List (Int × Int)) (T : List Int) (u6 : Row) (W : World) : Prop where
  gr : w.grownBy W (some d)
  dk : Deck W d c
  zz : W.heap[w.heap.size]? = some (.cells #[.slice none 0 0, .slice none 0 0, .int .i64 0, .int .i64 0, .int .i64 0] 30 (0, 0))
  bx : W.heap[w.heap.size + 1]? = some (.cells #[hv, sv, .int .i64 wd.1, .int .i64 wd.2.1, .int .i64 wd.2.2] 30 (0, 0))
  sep : Sep W w.heap.size (rows3 hv sv tv k hs ss T (nilRow 3 1) (nilRow 28 2) (nilRow 3 1) u6)
  lt : d < w.heap.size
theorem MaS.dealt {w : World} {d : Nat} {wd : Int × Int × Int} {c : Nat} {hv sv tv : Value} {k : Nat} {hs : List Int} {ss : List (Int × Int)} {T : List Int} {u6 : Row} {W W' : World} (H : MaS w d wd c hv sv tv k hs ss T u6 W) (hd : Dealt d c W W') : MaS w d wd (c + 1) hv sv tv k hs ss T u6 W' := by
  obtain ⟨h1, h2, h3⟩ := hd
  have hz := (Array.getElem?_eq_some_iff.1 H.zz).1
  have hb := (Array.getElem?_eq_some_iff.1 H.bx).1
  have hl := H.lt
  exact ⟨grown_trans H.gr h2, h1, (h2.block _ hz (fun e => by cases e; omega)).trans H.zz, (h2.block _ hb (fun e => by cases e; omega)).trans H.bx, H.sep.grown H.lt h2, H.lt⟩
theorem Deck.below {W W' : World} {d n : Nat} (h : Deck W d n) (hb : Below W.heap.size W W') : Deck W' d n :=
  let ⟨cv, l, k, s, h, hk⟩ := h
  have hd : d < W.heap.size := World.block_lt_of_cell? _ _ h.c.1
  ⟨cv, l, k, s, ⟨⟨cell_on hb h.c.1, cell_on hb h.c.2.1, cell_on hb h.c.2.2⟩, ⟨frozen_on hb h.c.2.1 h.f.1, frozen_on hb h.c.2.2 h.f.2⟩, h.r.below (hb.mono (Nat.le_of_lt hd)), h.u, h.k0, h.s0⟩, hk⟩
theorem grown_on {w W W' : World} {row : Option Nat} (h : w.grownBy W row) (hb : Below W.heap.size W W') : w.grownBy W' row :=
  ⟨hb.os.trans h.os, hb.tape.trans h.tape, hb.output.trans h.output, Nat.le_trans h.size hb.size, fun k hk hr => (hb.block k (Nat.lt_of_lt_of_le hk h.size)).trans (h.block k hk hr)⟩
theorem MaS.below {w : World} {d : Nat} {wd : Int × Int × Int} {c : Nat} {hv sv tv : Value} {k : Nat} {hs : List Int} {ss : List (Int × Int)} {T : List Int} {u6 : Row} {W W' : World} (H : MaS w d wd c hv sv tv k hs ss T u6 W) (hb : Below W.heap.size W W') : MaS w d wd c hv sv tv k hs ss T u6 W' :=
  ⟨grown_on H.gr hb, H.dk.below hb, heap_grow H.zz hb, heap_grow H.bx hb, H.sep.below hb, H.lt⟩

/-- a span's own two cells, as a row -/
def spanRow (ps : Nat) (x y : Int) : Row := ⟨28, 2, .slice (some ⟨ps, 0, none⟩) 1 1, 1, [.int .i64 x, .int .i64 y]⟩
theorem owned_two {W : World} {S ps : Nat} {x y : Int} (hS : S ≤ ps) (h : W.heap[ps]? = some (.cells #[.int .i64 x, .int .i64 y] 28 (0, 0))) : (spanRow ps x y).Owned W S :=
  ⟨rfl, .inr ⟨ps, 1, #[.int .i64 x, .int .i64 y], rfl, hS, h, Nat.le_refl _, by unfold maxLen; omega, rfl, rfl⟩⟩
theorem Sep.ext {W : World} {S : Nat} {R R' : Nat → Row} (h : Sep W S R) (e : ∀ i, i < 7 → R i = R' i) : Sep W S R' :=
  ⟨fun i hi => (e i hi) ▸ h.own i hi, fun i j hi hj hij k hk => by rw [← e j hj]; rw [← e i hi] at hk; exact h.apart i j hi hj hij k hk⟩
theorem rows3_six {hv sv tv : Value} {k : Nat} {hs : List Int} {ss : List (Int × Int)} {T : List Int} {u3 u4 u5 u6 r : Row} : ∀ i, i < 7 → (if i = 6 then r else rows3 hv sv tv k hs ss T u3 u4 u5 u6 i) = rows3 hv sv tv k hs ss T u3 u4 u5 r i
  | 0, _ => rfl
  | 1, _ => rfl
  | 2, _ => rfl
  | 3, _ => rfl
  | 4, _ => rfl
  | 5, _ => rfl
  | 6, _ => rfl
  | i + 7, h => absurd h (by omega)
theorem MaS.span {w : World} {d : Nat} {wd : Int × Int × Int} {c : Nat} {hv sv tv : Value} {k : Nat} {hs : List Int} {ss : List (Int × Int)} {T : List Int} {W : World} (H : MaS w d wd c hv sv tv k hs ss T (nilRow 28 2) W) (x y : Int) : MaS w d wd c hv sv tv k hs ss T (spanRow W.heap.size x y) (W.alloc (.cells #[.int .i64 x, .int .i64 y] 28)) := by
  have hb : Below W.heap.size W (W.alloc (.cells #[.int .i64 x, .int .i64 y] 28)) := (Below.refl _ W).alloc (Nat.le_refl _) _
  have hg : W.grownBy (W.alloc (.cells #[.int .i64 x, .int .i64 y] 28)) none := grown_on (grown_refl W none) hb
  have h1 := H.below hb
  exact ⟨h1.gr, h1.dk, h1.zz, h1.bx, (H.sep.upd (i := 6) (by omega) (spanRow W.heap.size x y) hg (owned_two H.gr.size (heap_alloc_new W _)) (.inr rfl)).ext rows3_six, H.lt⟩

theorem span_heap {W : World} {S ps : Nat} {x y : Int} (h : (spanRow ps x y).Owned W S) : S ≤ ps ∧ W.heap[ps]? = some (.cells #[.int .i64 x, .int .i64 y] 28 (0, 0)) := by
  rcases h.2 with ⟨h1, -⟩ | ⟨g, cap, cur, h1, hB, hg, -, -, hs, ht⟩
  · cases h1
  · simp only [spanRow, Value.slice.injEq, Option.some.injEq, Addr.mk.injEq, and_true, true_and] at h1
    obtain ⟨rfl, rfl⟩ := h1
    have hs2 : cur.size = 2 := hs
    have ht2 : cur.toList.take 2 = [.int .i64 x, .int .i64 y] := ht
    have : cur = #[.int .i64 x, .int .i64 y] := by
      apply Array.ext'
      rw [← ht2, List.take_of_length_le (by simp [hs2])]
    rw [this] at hg
    exact ⟨hB, hg⟩
theorem two_cellsD {W : World} {p : Nat} {a b : Value} {t : TypeId} (h : W.heap[p]? = some (.cells #[a, b] t (0, 0))) :
    (W.cell? ⟨p, 0, none⟩ = some a ∧ W.cell? ⟨p, 1, none⟩ = some b) ∧ (W.frozen? ⟨p, 0, none⟩ = false ∧ W.frozen? ⟨p, 1, none⟩ = false) := by
  refine ⟨⟨?_, ?_⟩, ?_, ?_⟩ <;> simp [World.cell?, World.frozen?, h]
theorem Deck.far {W : World} {d n ps : Nat} (h : Deck W d n) (hd : d < ps) (j : Nat) (v : Value) : Deck (W.setCell ⟨ps, j, none⟩ v) d n :=
  let ⟨cv, l, k, s, h, hk⟩ := h
  ⟨cv, l, k, s, ⟨⟨(setCell_far _ _ (Nat.ne_of_gt hd)).trans h.c.1, (setCell_far _ _ (Nat.ne_of_gt hd)).trans h.c.2.1, (setCell_far _ _ (Nat.ne_of_gt hd)).trans h.c.2.2⟩, ⟨(World.frozen?_setCell ..).trans h.f.1, (World.frozen?_setCell ..).trans h.f.2⟩, h.r.below ((Below.refl d W).setCell (p := ⟨ps, j, none⟩) (Nat.le_of_lt hd) _), h.u, h.k0, h.s0⟩, hk⟩
theorem grown_far {w W : World} {row : Option Nat} {p : Nat} (h : w.grownBy W row) (hp : w.heap.size ≤ p) (j : Nat) (v : Value) : w.grownBy (W.setCell ⟨p, j, none⟩ v) row :=
  ⟨h.os, h.tape, h.output, by simpa [World.setCell] using h.size, fun k hk hr => (Below.heap_setCell W ⟨p, j, none⟩ v k (by show k ≠ p; omega)).trans (h.block k hk hr)⟩
theorem MaS.respan {w : World} {d : Nat} {wd : Int × Int × Int} {c : Nat} {hv sv tv : Value} {k : Nat} {hs : List Int} {ss : List (Int × Int)} {T : List Int} {ps : Nat} {x y : Int} {W : World} (H : MaS w d wd c hv sv tv k hs ss T (spanRow ps x y) W) (x' y' : Int) :
    MaS w d wd c hv sv tv k hs ss T (spanRow ps x' y') ((W.setCell ⟨ps, 0, none⟩ (.int .i64 x')).setCell ⟨ps, 1, none⟩ (.int .i64 y')) := by
  obtain ⟨hS, hp⟩ := span_heap (H.sep.own 6 (by omega))
  have hl := H.lt
  have hg : W.grownBy ((W.setCell ⟨ps, 0, none⟩ (.int .i64 x')).setCell ⟨ps, 1, none⟩ (.int .i64 y')) (some ps) := grown_set _ (grown_set _ (grown_refl W (some ps)) 0 _) 1 _
  have hp' : ((W.setCell ⟨ps, 0, none⟩ (.int .i64 x')).setCell ⟨ps, 1, none⟩ (.int .i64 y')).heap[ps]? = some (.cells #[.int .i64 x', .int .i64 y'] 28 (0, 0)) := by
    rw [heap_setCell_self _ (heap_setCell_self _ hp)]; rfl
  have off : ∀ (q : Nat) (t : TypeId) (cs : Array Value), W.heap[q]? = some (Obj.cells cs t (0, 0)) → t ≠ 28 → ((W.setCell ⟨ps, 0, none⟩ (.int .i64 x')).setCell ⟨ps, 1, none⟩ (.int .i64 y')).heap[q]? = some (Obj.cells cs t (0, 0)) := fun q t cs hq ht => by
    have e : q ≠ ps := by rintro rfl; rw [hp] at hq; cases hq; exact ht rfl
    rw [Below.heap_setCell _ _ _ q e, Below.heap_setCell _ _ _ q e]; exact hq
  exact ⟨grown_far (grown_far H.gr hS 0 _) hS 1 _, (H.dk.far (by omega) 0 _).far (by omega) 1 _, off _ _ _ H.zz (by decide), off _ _ _ H.bx (by decide), (H.sep.upd (i := 6) (by omega) (spanRow ps x' y') hg (owned_two hS hp') (.inl rfl)).ext rows3_six, hl⟩

/-- what lies there while a cell is put behind the others -/
structure Core (w : World) (d : Nat) (wd : Int × Int × Int) (c : Nat) (u1 u2 : Value) (R : Nat → Row) (W : World) : Prop where
  gr : w.grownBy W (some d)
  dk : Deck W d c
  zz : W.heap[w.heap.size]? = some (.cells #[.slice none 0 0, .slice none 0 0, .int .i64 0, .int .i64 0, .int .i64 0] 30 (0, 0))
  bx : W.heap[w.heap.size + 1]? = some (.cells #[u1, u2, .int .i64 wd.1, .int .i64 wd.2.1, .int .i64 wd.2.2] 30 (0, 0))
  sep : Sep W w.heap.size R
  lt : d < w.heap.size
theorem Deck.row {W W' : World} {d n : Nat} {row : Option Nat} (h : Deck W d n) (hg : W.grownBy W' row) (hr : ∀ r, row = some r → d < r) : Deck W' d n := by
  obtain ⟨cv, l, k, s, h, hk⟩ := h
  have hd : d < W.heap.size := World.block_lt_of_cell? _ _ h.c.1
  have he : W'.heap[d]? = W.heap[d]? := hg.block d hd (fun e => by have := hr d e.symm; omega)
  have hb : Below d W W' := ⟨hg.os, hg.tape, hg.output, hg.size, fun k hk => hg.block k (by omega) (fun e => by have := hr k e.symm; omega)⟩
  exact ⟨cv, l, k, s, ⟨⟨(World.cell?_of_block he).trans h.c.1, (World.cell?_of_block he).trans h.c.2.1, (World.cell?_of_block he).trans h.c.2.2⟩, ⟨(World.frozen?_of_block he).trans h.f.1, (World.frozen?_of_block he).trans h.f.2⟩, h.r.below hb, h.u, h.k0, h.s0⟩, hk⟩
theorem Core.upd {w : World} {d : Nat} {wd : Int × Int × Int} {c : Nat} {u1 u2 : Value} {R : Nat → Row} {W W' : World} (H : Core w d wd c u1 u2 R W) {i : Nat} (hi : i < 7) (r' : Row) (ht : (R i).e ≠ 30) (hg : W.grownBy W' (R i).v.ownBlock) (ho : r'.Owned W' w.heap.size) (hb : r'.v.ownBlock = (R i).v.ownBlock ∨ r'.v.ownBlock = some W.heap.size) :
    Core w d wd c u1 u2 (fun j => if j = i then r' else R j) W' := by
  have hlo : ∀ k, (R i).v.ownBlock = some k → w.heap.size ≤ k := fun k hk => (owned_block (H.sep.own i hi) hk).1
  have hl := H.lt
  have off : ∀ (q : Nat) (cs : Array Value), W.heap[q]? = some (Obj.cells cs 30 (0, 0)) → W'.heap[q]? = some (Obj.cells cs 30 (0, 0)) := fun q cs hq =>
    (hg.block q (Array.getElem?_eq_some_iff.1 hq).1 (fun e => by
      obtain ⟨cs', hc⟩ := (owned_block (H.sep.own i hi) e.symm).2.2
      rw [hc] at hq
      exact ht (Obj.cells.inj (Option.some.inj hq)).2.1)).trans hq
  exact ⟨⟨hg.os.trans H.gr.os, hg.tape.trans H.gr.tape, hg.output.trans H.gr.output, Nat.le_trans H.gr.size hg.size, fun k hk hr => (hg.block k (Nat.lt_of_lt_of_le hk H.gr.size) (fun e => by have := hlo k e.symm; omega)).trans (H.gr.block k hk hr)⟩,
    H.dk.row hg (fun r e => by have := hlo r e; omega), off _ _ H.zz, off _ _ H.bx, H.sep.upd hi r' hg ho hb, H.lt⟩
theorem Core.ext {w : World} {d : Nat} {wd : Int × Int × Int} {c : Nat} {u1 u2 : Value} {R R' : Nat → Row} {W : World} (H : Core w d wd c u1 u2 R W) (e : ∀ i, i < 7 → R i = R' i) : Core w d wd c u1 u2 R' W := ⟨H.gr, H.dk, H.zz, H.bx, H.sep.ext e, H.lt⟩
theorem Core.box1 {w : World} {d : Nat} {wd : Int × Int × Int} {c : Nat} {u1 u2 : Value} {R : Nat → Row} {W : World} (H : Core w d wd c u1 u2 R W) (ht : ∀ i, i < 7 → 30 ≠ (R i).e) (v : Value) : Core w d wd c v u2 R (W.setCell ⟨w.heap.size + 1, 0, none⟩ v) :=
  ⟨grown_far H.gr (Nat.le_succ _) 0 _, H.dk.far (Nat.lt_succ_of_lt H.lt) 0 _, (Below.heap_setCell W ⟨w.heap.size + 1, 0, none⟩ v _ (by show w.heap.size ≠ w.heap.size + 1; omega)).trans H.zz, by rw [heap_setCell_self _ H.bx]; rfl, H.sep.setAt H.bx ht _, H.lt⟩
theorem Core.box2 {w : World} {d : Nat} {wd : Int × Int × Int} {c : Nat} {u1 u2 : Value} {R : Nat → Row} {W : World} (H : Core w d wd c u1 u2 R W) (ht : ∀ i, i < 7 → 30 ≠ (R i).e) (v : Value) : Core w d wd c u1 v R (W.setCell ⟨w.heap.size + 1, 1, none⟩ v) :=
  ⟨grown_far H.gr (Nat.le_succ _) 1 _, H.dk.far (Nat.lt_succ_of_lt H.lt) 1 _, (Below.heap_setCell W ⟨w.heap.size + 1, 1, none⟩ v _ (by show w.heap.size ≠ w.heap.size + 1; omega)).trans H.zz, by rw [heap_setCell_self _ H.bx]; rfl, H.sep.setAt H.bx ht _, H.lt⟩
/-- the rows while a cell is put behind the others -/
def rowsD (done : Nat → Bool) (hv sv tv : Value) (k : Nat) (hs : List Int) (ss : List (Int × Int)) (T : List Int) (ps : Nat) (x y z h : Int) (x54 x55 x59 x60 x63 x64 : Value) : Nat → Row
  | 0 => if done 4 = true then ⟨3, 1, x55, k + 1, ints hs ++ [.int .i64 z]⟩ else ⟨3, 1, hv, k, ints hs⟩
  | 1 => if done 9 = true then ⟨28, 2, x60, k + 1, spans ss ++ [.int .i64 x, .int .i64 y]⟩ else ⟨28, 2, sv, k, spans ss⟩
  | 2 => if done 13 = true then ⟨3, 1, x64, k + 1, ints T ++ [.int .i64 h]⟩ else ⟨3, 1, tv, k, ints T⟩
  | 3 => if done 3 = true then ⟨3, 1, x54, 1, [.int .i64 z]⟩ else nilRow 3 1
  | 4 => if done 8 = true then ⟨28, 2, x59, 1, [.int .i64 x, .int .i64 y]⟩ else nilRow 28 2
  | 5 => if done 12 = true then ⟨3, 1, x63, 1, [.int .i64 h]⟩ else nilRow 3 1
  | _ => spanRow ps x y
theorem rowsD_e {done : Nat → Bool} {hv sv tv : Value} {k : Nat} {hs : List Int} {ss : List (Int × Int)} {T : List Int} {ps : Nat} {x y z h : Int} {x54 x55 x59 x60 x63 x64 : Value} : ∀ i, i < 7 → 30 ≠ (rowsD done hv sv tv k hs ss T ps x y z h x54 x55 x59 x60 x63 x64 i).e
  | 0, _ => by cases h4 : done 4 <;> simp [rowsD, nilRow, h4]
  | 1, _ => by cases h4 : done 9 <;> simp [rowsD, nilRow, h4]
  | 2, _ => by cases h4 : done 13 <;> simp [rowsD, nilRow, h4]
  | 3, _ => by cases h4 : done 3 <;> simp [rowsD, nilRow, h4]
  | 4, _ => by cases h4 : done 8 <;> simp [rowsD, nilRow, h4]
  | 5, _ => by cases h4 : done 12 <;> simp [rowsD, nilRow, h4]
  | 6, _ => by simp [rowsD, spanRow]
  | i + 7, h => absurd h (by omega)
/-- what holds in the drawn region -/
structure M15 (w : World) (d : Nat) (wd : Int × Int × Int) (c : Nat) (hv sv tv : Value) (k : Nat) (hs : List Int) (ss : List (Int × Int)) (T : List Int) (ps : Nat) (x y z h : Int) (done : Nat → Bool) (x10 x54 x55 x59 x60 x63 x64 : Value) (W : World) : Prop where
  core : ∃ u1 u2, Core w d wd c u1 u2 (rowsD done hv sv tv k hs ss T ps x y z h x54 x55 x59 x60 x63 x64) W ∧ (done 15 = false → u1 = hv) ∧ (done 15 = true → u1 = x55) ∧ (done 17 = false → u2 = sv) ∧ (done 17 = true → u2 = x60)
  s3 : done 3 = true → ∃ b, x54 = .slice (some ⟨b, 0, none⟩) 1 1
  s8 : done 8 = true → ∃ b, x59 = .slice (some ⟨b, 0, none⟩) 1 1
  s12 : done 12 = true → ∃ b, x63 = .slice (some ⟨b, 0, none⟩) 1 1
  d4 : done 4 = true → done 3 = true
  d9 : done 9 = true → done 8 = true
  d13 : done 13 = true → done 12 = true
  d15 : done 15 = true → done 4 = true
  d17 : done 17 = true → done 9 = true
  d18 : done 18 = true → done 13 = true ∧ x10 = x64
end Go.Proofs.Ytohjinbgbfggcaa
/-
  The drawn region of Made: each effect keeps what holds there.
-/
namespace Go.Proofs.Ytohjinbgbfggcaa
open Go.RowKit Go.Shelf
open Lim


theorem M15.st3 {w : World} {d : Nat} {wd : Int × Int × Int} {c : Nat} {hv sv tv : Value} {k : Nat} {hs : List Int} {ss : List (Int × Int)} {T : List Int} {ps : Nat} {x y z h : Int} {done : Nat → Bool} {x10 x54 x55 x59 x60 x63 x64 : Value} {W : World} (H : M15 w d wd c hv sv tv k hs ss T ps x y z h done x10 x54 x55 x59 x60 x63 x64 W) (hd : done 3 = false) :
    M15 w d wd c hv sv tv k hs ss T ps x y z h (fun j => if j = 3 then true else done j) x10 (.slice (some ⟨W.heap.size, 0, none⟩) 1 1) x55 x59 x60 x63 x64 (W.alloc (.cells #[.int .i64 z] 3)) := by
  obtain ⟨u1, u2, hc, h1, h2, h3, h4⟩ := H.core
  have hb : Below W.heap.size W (W.alloc (.cells #[.int .i64 z] 3)) := (Below.refl _ W).alloc (Nat.le_refl _) _
  have er : rowsD done hv sv tv k hs ss T ps x y z h x54 x55 x59 x60 x63 x64 3 = nilRow 3 1 := by simp [rowsD, hd]
  have hnew : Row.Owned ⟨3, 1, .slice (some ⟨W.heap.size, 0, none⟩) 1 1, 1, [.int .i64 z]⟩ (W.alloc (.cells #[.int .i64 z] 3)) w.heap.size :=
    ⟨rfl, .inr ⟨W.heap.size, 1, #[.int .i64 z], rfl, hc.gr.size, heap_alloc_new W _, Nat.le_refl _, by unfold maxLen; omega, rfl, rfl⟩⟩
  have hu := hc.upd (i := 3) (by omega) ⟨3, 1, .slice (some ⟨W.heap.size, 0, none⟩) 1 1, 1, [.int .i64 z]⟩ (by rw [er]; decide) (by rw [er]; exact grown_on (grown_refl W none) hb) hnew (.inr rfl)
  have hw : done 4 = false := by
    cases e : done 4 with
    | false => rfl
    | true => have h' := H.d4 e; rw [hd] at h'; cases h'
  have hu2 := hu.ext (R' := rowsD (fun j => if j = 3 then true else done j) hv sv tv k hs ss T ps x y z h (.slice (some ⟨W.heap.size, 0, none⟩) 1 1) x55 x59 x60 x63 x64) (fun j hj => by
    match j with
    | 0 => simp [rowsD]
    | 1 => simp [rowsD]
    | 2 => simp [rowsD]
    | 3 => simp [rowsD]
    | 4 => simp [rowsD]
    | 5 => simp [rowsD]
    | 6 => simp [rowsD]
    | j + 7 => omega)
  exact ⟨⟨u1, u2, hu2, fun h => h1 (by simpa using h), fun h => h2 (by simpa using h), fun h => h3 (by simpa using h), fun h => h4 (by simpa using h)⟩, fun _ => ⟨_, rfl⟩, fun h => H.s8 (by simpa using h), fun h => H.s12 (by simpa using h), fun h => by simp, fun h => by simp [H.d9 (by simpa using h)], fun h => by simp [H.d13 (by simpa using h)], fun h => by simp [H.d15 (by simpa using h)], fun h => by simp [H.d17 (by simpa using h)], fun h => ⟨by simp [(H.d18 (by simpa using h)).1], (H.d18 (by simpa using h)).2⟩⟩
theorem M15.st8 {w : World} {d : Nat} {wd : Int × Int × Int} {c : Nat} {hv sv tv : Value} {k : Nat} {hs : List Int} {ss : List (Int × Int)} {T : List Int} {ps : Nat} {x y z h : Int} {done : Nat → Bool} {x10 x54 x55 x59 x60 x63 x64 : Value} {W : World} (H : M15 w d wd c hv sv tv k hs ss T ps x y z h done x10 x54 x55 x59 x60 x63 x64 W) (hd : done 8 = false) :
    M15 w d wd c hv sv tv k hs ss T ps x y z h (fun j => if j = 8 then true else done j) x10 x54 x55 (.slice (some ⟨W.heap.size, 0, none⟩) 1 1) x60 x63 x64 (W.alloc (.cells #[.int .i64 x, .int .i64 y] 28)) := by
  obtain ⟨u1, u2, hc, h1, h2, h3, h4⟩ := H.core
  have hb : Below W.heap.size W (W.alloc (.cells #[.int .i64 x, .int .i64 y] 28)) := (Below.refl _ W).alloc (Nat.le_refl _) _
  have er : rowsD done hv sv tv k hs ss T ps x y z h x54 x55 x59 x60 x63 x64 4 = nilRow 28 2 := by simp [rowsD, hd]
  have hnew : Row.Owned ⟨28, 2, .slice (some ⟨W.heap.size, 0, none⟩) 1 1, 1, [.int .i64 x, .int .i64 y]⟩ (W.alloc (.cells #[.int .i64 x, .int .i64 y] 28)) w.heap.size :=
    ⟨rfl, .inr ⟨W.heap.size, 1, #[.int .i64 x, .int .i64 y], rfl, hc.gr.size, heap_alloc_new W _, Nat.le_refl _, by unfold maxLen; omega, rfl, rfl⟩⟩
  have hu := hc.upd (i := 4) (by omega) ⟨28, 2, .slice (some ⟨W.heap.size, 0, none⟩) 1 1, 1, [.int .i64 x, .int .i64 y]⟩ (by rw [er]; decide) (by rw [er]; exact grown_on (grown_refl W none) hb) hnew (.inr rfl)
  have hw : done 9 = false := by
    cases e : done 9 with
    | false => rfl
    | true => have h' := H.d9 e; rw [hd] at h'; cases h'
  have hu2 := hu.ext (R' := rowsD (fun j => if j = 8 then true else done j) hv sv tv k hs ss T ps x y z h x54 x55 (.slice (some ⟨W.heap.size, 0, none⟩) 1 1) x60 x63 x64) (fun j hj => by
    match j with
    | 0 => simp [rowsD]
    | 1 => simp [rowsD]
    | 2 => simp [rowsD]
    | 3 => simp [rowsD]
    | 4 => simp [rowsD]
    | 5 => simp [rowsD]
    | 6 => simp [rowsD]
    | j + 7 => omega)
  exact ⟨⟨u1, u2, hu2, fun h => h1 (by simpa using h), fun h => h2 (by simpa using h), fun h => h3 (by simpa using h), fun h => h4 (by simpa using h)⟩, fun h => H.s3 (by simpa using h), fun _ => ⟨_, rfl⟩, fun h => H.s12 (by simpa using h), fun h => by simp [H.d4 (by simpa using h)], fun h => by simp, fun h => by simp [H.d13 (by simpa using h)], fun h => by simp [H.d15 (by simpa using h)], fun h => by simp [H.d17 (by simpa using h)], fun h => ⟨by simp [(H.d18 (by simpa using h)).1], (H.d18 (by simpa using h)).2⟩⟩
theorem M15.st12 {w : World} {d : Nat} {wd : Int × Int × Int} {c : Nat} {hv sv tv : Value} {k : Nat} {hs : List Int} {ss : List (Int × Int)} {T : List Int} {ps : Nat} {x y z h : Int} {done : Nat → Bool} {x10 x54 x55 x59 x60 x63 x64 : Value} {W : World} (H : M15 w d wd c hv sv tv k hs ss T ps x y z h done x10 x54 x55 x59 x60 x63 x64 W) (hd : done 12 = false) :
    M15 w d wd c hv sv tv k hs ss T ps x y z h (fun j => if j = 12 then true else done j) x10 x54 x55 x59 x60 (.slice (some ⟨W.heap.size, 0, none⟩) 1 1) x64 (W.alloc (.cells #[.int .i64 h] 3)) := by
  obtain ⟨u1, u2, hc, h1, h2, h3, h4⟩ := H.core
  have hb : Below W.heap.size W (W.alloc (.cells #[.int .i64 h] 3)) := (Below.refl _ W).alloc (Nat.le_refl _) _
  have er : rowsD done hv sv tv k hs ss T ps x y z h x54 x55 x59 x60 x63 x64 5 = nilRow 3 1 := by simp [rowsD, hd]
  have hnew : Row.Owned ⟨3, 1, .slice (some ⟨W.heap.size, 0, none⟩) 1 1, 1, [.int .i64 h]⟩ (W.alloc (.cells #[.int .i64 h] 3)) w.heap.size :=
    ⟨rfl, .inr ⟨W.heap.size, 1, #[.int .i64 h], rfl, hc.gr.size, heap_alloc_new W _, Nat.le_refl _, by unfold maxLen; omega, rfl, rfl⟩⟩
  have hu := hc.upd (i := 5) (by omega) ⟨3, 1, .slice (some ⟨W.heap.size, 0, none⟩) 1 1, 1, [.int .i64 h]⟩ (by rw [er]; decide) (by rw [er]; exact grown_on (grown_refl W none) hb) hnew (.inr rfl)
  have hw : done 13 = false := by
    cases e : done 13 with
    | false => rfl
    | true => have h' := H.d13 e; rw [hd] at h'; cases h'
  have hu2 := hu.ext (R' := rowsD (fun j => if j = 12 then true else done j) hv sv tv k hs ss T ps x y z h x54 x55 x59 x60 (.slice (some ⟨W.heap.size, 0, none⟩) 1 1) x64) (fun j hj => by
    match j with
    | 0 => simp [rowsD]
    | 1 => simp [rowsD]
    | 2 => simp [rowsD]
    | 3 => simp [rowsD]
    | 4 => simp [rowsD]
    | 5 => simp [rowsD]
    | 6 => simp [rowsD]
    | j + 7 => omega)
  exact ⟨⟨u1, u2, hu2, fun h => h1 (by simpa using h), fun h => h2 (by simpa using h), fun h => h3 (by simpa using h), fun h => h4 (by simpa using h)⟩, fun h => H.s3 (by simpa using h), fun h => H.s8 (by simpa using h), fun _ => ⟨_, rfl⟩, fun h => by simp [H.d4 (by simpa using h)], fun h => by simp [H.d9 (by simpa using h)], fun h => by simp, fun h => by simp [H.d15 (by simpa using h)], fun h => by simp [H.d17 (by simpa using h)], fun h => ⟨by simp [(H.d18 (by simpa using h)).1], (H.d18 (by simpa using h)).2⟩⟩
theorem M15.st4 {w : World} {d : Nat} {wd : Int × Int × Int} {c : Nat} {hv sv tv : Value} {k : Nat} {hs : List Int} {ss : List (Int × Int)} {T : List Int} {ps : Nat} {x y z h : Int} {done : Nat → Bool} {x10 x54 x55 x59 x60 x63 x64 : Value} {W : World} (H : M15 w d wd c hv sv tv k hs ss T ps x y z h done x10 x54 x55 x59 x60 x63 x64 W) (hd : done 4 = false) (hs3 : done 3 = true) {v' : Value} {W' : World} (ho : W'.ownsRow w.heap.size 3 1 v' (k + 1) (ints hs ++ [.int .i64 z])) (hg : W.grownBy W' (hv).ownBlock) (hb : v'.ownBlock = (hv).ownBlock ∨ v'.ownBlock = some W.heap.size) :
    M15 w d wd c hv sv tv k hs ss T ps x y z h (fun j => if j = 4 then true else done j) x10 x54 (v') x59 x60 x63 x64 W' := by
  obtain ⟨u1, u2, hc, h1, h2, h3, h4⟩ := H.core
  have er : rowsD done hv sv tv k hs ss T ps x y z h x54 x55 x59 x60 x63 x64 0 = ⟨3, 1, hv, k, ints hs⟩ := by simp [rowsD, hd]
  have ho' : Row.Owned ⟨3, 1, v', k + 1, ints hs ++ [.int .i64 z]⟩ W' w.heap.size := ho
  have hu := hc.upd (i := 0) (by omega) _ (by rw [er]; show 3 ≠ (30 : Nat); decide) (by rw [er]; exact hg) ho' (by rw [er]; exact hb)
  have hu2 := hu.ext (R' := rowsD (fun j => if j = 4 then true else done j) hv sv tv k hs ss T ps x y z h x54 (v') x59 x60 x63 x64) (fun j hj => by
    match j with
    | 0 => simp [rowsD]
    | 1 => simp [rowsD]
    | 2 => simp [rowsD]
    | 3 => simp [rowsD]
    | 4 => simp [rowsD]
    | 5 => simp [rowsD]
    | 6 => simp [rowsD]
    | j + 7 => omega)
  exact ⟨⟨u1, u2, hu2, fun h => h1 (by simpa using h), fun h => (by have h' := H.d15 (by simpa using h); rw [hd] at h'; cases h'), fun h => h3 (by simpa using h), fun h => h4 (by simpa using h)⟩, fun h => H.s3 (by simpa using h), fun h => H.s8 (by simpa using h), fun h => H.s12 (by simpa using h), fun _ => by simp [hs3], fun h => by simp [H.d9 (by simpa using h)], fun h => by simp [H.d13 (by simpa using h)], fun h => by simp, fun h => by simp [H.d17 (by simpa using h)], fun h => ⟨by simp [(H.d18 (by simpa using h)).1], (H.d18 (by simpa using h)).2⟩⟩
theorem M15.st9 {w : World} {d : Nat} {wd : Int × Int × Int} {c : Nat} {hv sv tv : Value} {k : Nat} {hs : List Int} {ss : List (Int × Int)} {T : List Int} {ps : Nat} {x y z h : Int} {done : Nat → Bool} {x10 x54 x55 x59 x60 x63 x64 : Value} {W : World} (H : M15 w d wd c hv sv tv k hs ss T ps x y z h done x10 x54 x55 x59 x60 x63 x64 W) (hd : done 9 = false) (hs8 : done 8 = true) {v' : Value} {W' : World} (ho : W'.ownsRow w.heap.size 28 2 v' (k + 1) (spans ss ++ [.int .i64 x, .int .i64 y])) (hg : W.grownBy W' (sv).ownBlock) (hb : v'.ownBlock = (sv).ownBlock ∨ v'.ownBlock = some W.heap.size) :
    M15 w d wd c hv sv tv k hs ss T ps x y z h (fun j => if j = 9 then true else done j) x10 x54 x55 x59 (v') x63 x64 W' := by
  obtain ⟨u1, u2, hc, h1, h2, h3, h4⟩ := H.core
  have er : rowsD done hv sv tv k hs ss T ps x y z h x54 x55 x59 x60 x63 x64 1 = ⟨28, 2, sv, k, spans ss⟩ := by simp [rowsD, hd]
  have ho' : Row.Owned ⟨28, 2, v', k + 1, spans ss ++ [.int .i64 x, .int .i64 y]⟩ W' w.heap.size := ho
  have hu := hc.upd (i := 1) (by omega) _ (by rw [er]; show 28 ≠ (30 : Nat); decide) (by rw [er]; exact hg) ho' (by rw [er]; exact hb)
  have hu2 := hu.ext (R' := rowsD (fun j => if j = 9 then true else done j) hv sv tv k hs ss T ps x y z h x54 x55 x59 (v') x63 x64) (fun j hj => by
    match j with
    | 0 => simp [rowsD]
    | 1 => simp [rowsD]
    | 2 => simp [rowsD]
    | 3 => simp [rowsD]
    | 4 => simp [rowsD]
    | 5 => simp [rowsD]
    | 6 => simp [rowsD]
    | j + 7 => omega)
  exact ⟨⟨u1, u2, hu2, fun h => h1 (by simpa using h), fun h => h2 (by simpa using h), fun h => h3 (by simpa using h), fun h => (by have h' := H.d17 (by simpa using h); rw [hd] at h'; cases h')⟩, fun h => H.s3 (by simpa using h), fun h => H.s8 (by simpa using h), fun h => H.s12 (by simpa using h), fun h => by simp [H.d4 (by simpa using h)], fun _ => by simp [hs8], fun h => by simp [H.d13 (by simpa using h)], fun h => by simp [H.d15 (by simpa using h)], fun h => by simp, fun h => ⟨by simp [(H.d18 (by simpa using h)).1], (H.d18 (by simpa using h)).2⟩⟩
theorem M15.st13 {w : World} {d : Nat} {wd : Int × Int × Int} {c : Nat} {hv sv tv : Value} {k : Nat} {hs : List Int} {ss : List (Int × Int)} {T : List Int} {ps : Nat} {x y z h : Int} {done : Nat → Bool} {x10 x54 x55 x59 x60 x63 x64 : Value} {W : World} (H : M15 w d wd c hv sv tv k hs ss T ps x y z h done x10 x54 x55 x59 x60 x63 x64 W) (hd : done 13 = false) (hs12 : done 12 = true) {v' : Value} {W' : World} (ho : W'.ownsRow w.heap.size 3 1 v' (k + 1) (ints T ++ [.int .i64 h])) (hg : W.grownBy W' (tv).ownBlock) (hb : v'.ownBlock = (tv).ownBlock ∨ v'.ownBlock = some W.heap.size) :
    M15 w d wd c hv sv tv k hs ss T ps x y z h (fun j => if j = 13 then true else done j) x10 x54 x55 x59 x60 x63 (v') W' := by
  obtain ⟨u1, u2, hc, h1, h2, h3, h4⟩ := H.core
  have er : rowsD done hv sv tv k hs ss T ps x y z h x54 x55 x59 x60 x63 x64 2 = ⟨3, 1, tv, k, ints T⟩ := by simp [rowsD, hd]
  have ho' : Row.Owned ⟨3, 1, v', k + 1, ints T ++ [.int .i64 h]⟩ W' w.heap.size := ho
  have hu := hc.upd (i := 2) (by omega) _ (by rw [er]; show 3 ≠ (30 : Nat); decide) (by rw [er]; exact hg) ho' (by rw [er]; exact hb)
  have hu2 := hu.ext (R' := rowsD (fun j => if j = 13 then true else done j) hv sv tv k hs ss T ps x y z h x54 x55 x59 x60 x63 (v')) (fun j hj => by
    match j with
    | 0 => simp [rowsD]
    | 1 => simp [rowsD]
    | 2 => simp [rowsD]
    | 3 => simp [rowsD]
    | 4 => simp [rowsD]
    | 5 => simp [rowsD]
    | 6 => simp [rowsD]
    | j + 7 => omega)
  exact ⟨⟨u1, u2, hu2, fun h => h1 (by simpa using h), fun h => h2 (by simpa using h), fun h => h3 (by simpa using h), fun h => h4 (by simpa using h)⟩, fun h => H.s3 (by simpa using h), fun h => H.s8 (by simpa using h), fun h => H.s12 (by simpa using h), fun h => by simp [H.d4 (by simpa using h)], fun h => by simp [H.d9 (by simpa using h)], fun _ => by simp [hs12], fun h => by simp [H.d15 (by simpa using h)], fun h => by simp [H.d17 (by simpa using h)], fun h => (by have h' := (H.d18 (by simpa using h)).1; rw [hd] at h'; cases h')⟩
theorem M15.st15 {w : World} {d : Nat} {wd : Int × Int × Int} {c : Nat} {hv sv tv : Value} {k : Nat} {hs : List Int} {ss : List (Int × Int)} {T : List Int} {ps : Nat} {x y z h : Int} {done : Nat → Bool} {x10 x54 x55 x59 x60 x63 x64 : Value} {W : World} (H : M15 w d wd c hv sv tv k hs ss T ps x y z h done x10 x54 x55 x59 x60 x63 x64 W) (hw : done 4 = true) :
    M15 w d wd c hv sv tv k hs ss T ps x y z h (fun j => if j = 15 then true else done j) x10 x54 x55 x59 x60 x63 x64 (W.setCell ⟨w.heap.size + 1, 0, none⟩ x55) := by
  obtain ⟨u1, u2, hc, h1, h2, h3, h4⟩ := H.core
  have hu2 := (hc.box1 rowsD_e x55).ext (R' := rowsD (fun j => if j = 15 then true else done j) hv sv tv k hs ss T ps x y z h x54 x55 x59 x60 x63 x64) (fun j hj => by
    match j with
    | 0 => simp [rowsD]
    | 1 => simp [rowsD]
    | 2 => simp [rowsD]
    | 3 => simp [rowsD]
    | 4 => simp [rowsD]
    | 5 => simp [rowsD]
    | 6 => simp [rowsD]
    | j + 7 => omega)
  exact ⟨⟨x55, u2, hu2, fun h => absurd h (by simp), fun _ => rfl, fun h => h3 (by simpa using h), fun h => h4 (by simpa using h)⟩, fun h => H.s3 (by simpa using h), fun h => H.s8 (by simpa using h), fun h => H.s12 (by simpa using h), fun h => by simp [H.d4 (by simpa using h)], fun h => by simp [H.d9 (by simpa using h)], fun h => by simp [H.d13 (by simpa using h)], fun _ => by simp [hw], fun h => by simp [H.d17 (by simpa using h)], fun h => ⟨by simp [(H.d18 (by simpa using h)).1], (H.d18 (by simpa using h)).2⟩⟩
theorem M15.st17 {w : World} {d : Nat} {wd : Int × Int × Int} {c : Nat} {hv sv tv : Value} {k : Nat} {hs : List Int} {ss : List (Int × Int)} {T : List Int} {ps : Nat} {x y z h : Int} {done : Nat → Bool} {x10 x54 x55 x59 x60 x63 x64 : Value} {W : World} (H : M15 w d wd c hv sv tv k hs ss T ps x y z h done x10 x54 x55 x59 x60 x63 x64 W) (hw : done 9 = true) :
    M15 w d wd c hv sv tv k hs ss T ps x y z h (fun j => if j = 17 then true else done j) x10 x54 x55 x59 x60 x63 x64 (W.setCell ⟨w.heap.size + 1, 1, none⟩ x60) := by
  obtain ⟨u1, u2, hc, h1, h2, h3, h4⟩ := H.core
  have hu2 := (hc.box2 rowsD_e x60).ext (R' := rowsD (fun j => if j = 17 then true else done j) hv sv tv k hs ss T ps x y z h x54 x55 x59 x60 x63 x64) (fun j hj => by
    match j with
    | 0 => simp [rowsD]
    | 1 => simp [rowsD]
    | 2 => simp [rowsD]
    | 3 => simp [rowsD]
    | 4 => simp [rowsD]
    | 5 => simp [rowsD]
    | 6 => simp [rowsD]
    | j + 7 => omega)
  exact ⟨⟨u1, x60, hu2, fun h => h1 (by simpa using h), fun h => h2 (by simpa using h), fun h => absurd h (by simp), fun _ => rfl⟩, fun h => H.s3 (by simpa using h), fun h => H.s8 (by simpa using h), fun h => H.s12 (by simpa using h), fun h => by simp [H.d4 (by simpa using h)], fun h => by simp [H.d9 (by simpa using h)], fun h => by simp [H.d13 (by simpa using h)], fun h => by simp [H.d15 (by simpa using h)], fun _ => by simp [hw], fun h => ⟨by simp [(H.d18 (by simpa using h)).1], (H.d18 (by simpa using h)).2⟩⟩
theorem M15.st18 {w : World} {d : Nat} {wd : Int × Int × Int} {c : Nat} {hv sv tv : Value} {k : Nat} {hs : List Int} {ss : List (Int × Int)} {T : List Int} {ps : Nat} {x y z h : Int} {done : Nat → Bool} {x10 x54 x55 x59 x60 x63 x64 : Value} {W : World} (H : M15 w d wd c hv sv tv k hs ss T ps x y z h done x10 x54 x55 x59 x60 x63 x64 W) (hw : done 13 = true) :
    M15 w d wd c hv sv tv k hs ss T ps x y z h (fun j => if j = 18 then true else done j) (x64) x54 x55 x59 x60 x63 x64 W := by
  obtain ⟨u1, u2, hc, h1, h2, h3, h4⟩ := H.core
  have hu2 := hc.ext (R' := rowsD (fun j => if j = 18 then true else done j) hv sv tv k hs ss T ps x y z h x54 x55 x59 x60 x63 x64) (fun j hj => by
    match j with
    | 0 => simp [rowsD]
    | 1 => simp [rowsD]
    | 2 => simp [rowsD]
    | 3 => simp [rowsD]
    | 4 => simp [rowsD]
    | 5 => simp [rowsD]
    | 6 => simp [rowsD]
    | j + 7 => omega)
  exact ⟨⟨u1, u2, hu2, fun h => h1 (by simpa using h), fun h => h2 (by simpa using h), fun h => h3 (by simpa using h), fun h => h4 (by simpa using h)⟩, fun h => H.s3 (by simpa using h), fun h => H.s8 (by simpa using h), fun h => H.s12 (by simpa using h), fun h => by simp [H.d4 (by simpa using h)], fun h => by simp [H.d9 (by simpa using h)], fun h => by simp [H.d13 (by simpa using h)], fun h => by simp [H.d15 (by simpa using h)], fun h => by simp [H.d17 (by simpa using h)], fun _ => ⟨by simp [hw], rfl⟩⟩
end Go.Proofs.Ytohjinbgbfggcaa
/-
  Profiles that are made of a deck: where the drawn region begins and ends.
-/
namespace Go.Proofs.Ytohjinbgbfggcaa
open Go.RowKit Go.Shelf
open Lim

theorem Sep.drop {W : World} {S : Nat} {R R' : Nat → Row} (h : Sep W S R) (e : ∀ i, i < 7 → R' i = R i ∨ ∃ t n, R' i = nilRow t n) : Sep W S R' :=
  ⟨fun i hi => by
    rcases e i hi with e | ⟨t, n, e⟩
    · rw [e]; exact h.own i hi
    · rw [e]; exact nilRow_owned _ _ _ _,
   fun i j hi hj hij k hk => by
    rcases e i hi with e1 | ⟨t, n, e1⟩
    · rw [e1] at hk
      rcases e j hj with e2 | ⟨t, n, e2⟩
      · rw [e2]; exact h.apart i j hi hj hij k hk
      · rw [e2]; intro h; cases h
    · rw [e1] at hk; cases hk⟩
theorem MaS.begin {w : World} {d : Nat} {wd : Int × Int × Int} {c : Nat} {hv sv tv : Value} {k : Nat} {hs : List Int} {ss : List (Int × Int)} {T : List Int} {ps : Nat} {x y z h : Int} {x10 x54 x55 x59 x60 x63 x64 : Value} {W : World} (H : MaS w d wd c hv sv tv k hs ss T (spanRow ps x y) W) :
    M15 w d wd c hv sv tv k hs ss T ps x y z h (fun _ => false) x10 x54 x55 x59 x60 x63 x64 W :=
  ⟨⟨hv, sv, ⟨H.gr, H.dk, H.zz, H.bx, H.sep.ext (fun i hi => by
      match i with
      | 0 => rfl
      | 1 => rfl
      | 2 => rfl
      | 3 => rfl
      | 4 => rfl
      | 5 => rfl
      | 6 => rfl
      | i + 7 => omega), H.lt⟩, fun _ => rfl, fun h => (by cases h), fun _ => rfl, fun h => (by cases h)⟩,
    fun h => (by cases h), fun h => (by cases h), fun h => (by cases h), fun h => (by cases h), fun h => (by cases h), fun h => (by cases h), fun h => (by cases h), fun h => (by cases h), fun h => (by cases h)⟩
theorem M15.fin {w : World} {d : Nat} {wd : Int × Int × Int} {c : Nat} {hv sv tv : Value} {k : Nat} {hs : List Int} {ss : List (Int × Int)} {T : List Int} {ps : Nat} {x y z h : Int} {done : Nat → Bool} {x10 x54 x55 x59 x60 x63 x64 : Value} {W : World} (H : M15 w d wd c hv sv tv k hs ss T ps x y z h done x10 x54 x55 x59 x60 x63 x64 W)
    (h4 : done 4 = true) (h9 : done 9 = true) (h13 : done 13 = true) (h15 : done 15 = true) (h17 : done 17 = true) (h18 : done 18 = true) : MaS w d wd c x55 x60 x10 (k + 1) (hs ++ [z]) (ss ++ [(x, y)]) (T ++ [h]) (nilRow 28 2) W := by
  obtain ⟨u1, u2, hc, -, e1, -, e2⟩ := H.core
  have e1 := e1 h15
  have e2 := e2 h17
  subst e1 e2
  have e3 := (H.d18 h18).2
  subst e3
  refine ⟨hc.gr, hc.dk, hc.zz, hc.bx, hc.sep.drop (fun i hi => ?_), hc.lt⟩
  match i with
  | 0 => left; simp [rows3, rowsD, h4, ints]
  | 1 => left; simp [rows3, rowsD, h9, spans_append', spans]
  | 2 => left; simp [rows3, rowsD, h13, ints]
  | 3 => right; exact ⟨_, _, rfl⟩
  | 4 => right; exact ⟨_, _, rfl⟩
  | 5 => right; exact ⟨_, _, rfl⟩
  | 6 => right; exact ⟨_, _, rfl⟩
  | i + 7 => omega

theorem M15.skip {w : World} {d : Nat} {wd : Int × Int × Int} {c : Nat} {hv sv tv : Value} {k : Nat} {hs : List Int} {ss : List (Int × Int)} {T : List Int} {ps : Nat} {x y z h : Int} {done : Nat → Bool} {x10 x54 x55 x59 x60 x63 x64 : Value} {W : World} (H : M15 w d wd c hv sv tv k hs ss T ps x y z h done x10 x54 x55 x59 x60 x63 x64 W)
    {i : Nat} (hi : i = 14 ∨ i = 16) : M15 w d wd c hv sv tv k hs ss T ps x y z h (fun j => if j = i then true else done j) x10 x54 x55 x59 x60 x63 x64 W := by
  obtain ⟨u1, u2, hc, h1, h2, h3, h4⟩ := H.core
  have e : ∀ j, j ≠ 14 → j ≠ 16 → (fun j => if j = i then true else done j) j = done j := fun j h1 h2 => by
    show (if j = i then true else done j) = done j
    rw [if_neg (by omega)]
  have e3 := e 3 (by decide) (by decide)
  have e4 := e 4 (by decide) (by decide)
  have e8 := e 8 (by decide) (by decide)
  have e9 := e 9 (by decide) (by decide)
  have e12 := e 12 (by decide) (by decide)
  have e13 := e 13 (by decide) (by decide)
  have e15 := e 15 (by decide) (by decide)
  have e17 := e 17 (by decide) (by decide)
  have e18 := e 18 (by decide) (by decide)
  generalize (fun j => if j = i then true else done j) = dn at *
  refine ⟨⟨u1, u2, hc.ext (fun j hj => ?_), by rw [e15]; exact h1, by rw [e15]; exact h2, by rw [e17]; exact h3, by rw [e17]; exact h4⟩, by rw [e3]; exact H.s3, by rw [e8]; exact H.s8, by rw [e12]; exact H.s12,
    by rw [e4, e3]; exact H.d4, by rw [e9, e8]; exact H.d9, by rw [e13, e12]; exact H.d13, by rw [e15, e4]; exact H.d15, by rw [e17, e9]; exact H.d17, by rw [e18, e13]; exact H.d18⟩
  match j with
  | 0 => simp [rowsD, e4]
  | 1 => simp [rowsD, e9]
  | 2 => simp [rowsD, e13]
  | 3 => simp [rowsD, e3]
  | 4 => simp [rowsD, e8]
  | 5 => simp [rowsD, e12]
  | 6 => simp [rowsD]
  | j + 7 => omega
end Go.Proofs.Ytohjinbgbfggcaa
