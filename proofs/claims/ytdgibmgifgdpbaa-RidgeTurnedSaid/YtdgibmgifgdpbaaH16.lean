/-
  Parts of the proof, in the order in which they build: Kept, Lens.
-/
import Derived.Test.YtdgibmgifgdpbaaH11
import Derived.Test.YtdgibmgifgdpbaaH12
import Derived.Test.YtdgibmgifgdpbaaH14
set_option linter.unusedVariables false
set_option linter.unusedSimpArgs false
/-
  What a statement's walk keeps: rows and boxes that are only read, and a deck.
-/
namespace Go.Proofs.Ytdgibmgifgdpbaa
open Go.RowKit Go.Shelf
open Lim

structure Kept (w : World) (S d c : Nat) (R : List Row) (X : List (Nat × Obj)) (W : World) : Prop where
  b : Below w.heap.size w W
  o : w.heap.size ≤ d ∧ d < S ∧ S ≤ W.heap.size
  dk : Deck W d c
  r : ∀ r ∈ R, r.Owned W S
  x : ∀ p ∈ X, S ≤ p.1 ∧ W.heap[p.1]? = some p.2
theorem Kept.draw {w : World} {S d c c' : Nat} {R : List Row} {X : List (Nat × Obj)} {W W' : World} (H : Kept w S d c R X W) (hg : W.grownBy W' (some d)) (hd : Deck W' d c') : Kept w S d c' R X W' :=
  ⟨below_grown H.b hg (Nat.le_trans H.o.1 (Nat.le_trans (Nat.le_of_lt H.o.2.1) H.o.2.2)) (fun r e => by cases e; exact H.o.1), ⟨H.o.1, H.o.2.1, Nat.le_trans H.o.2.2 hg.size⟩, hd,
   fun r hr => owned_keep (H.r r hr) (fun k hk => by
     obtain ⟨h1, h2, -⟩ := owned_block (H.r r hr) hk
     exact hg.block k h2 (fun e => by cases e; have := H.o; omega)),
   fun p hp => ⟨(H.x p hp).1, (hg.block p.1 (Array.getElem?_eq_some_iff.1 (H.x p hp).2).1 (fun e => by have h1 := (H.x p hp).1; have h2 := H.o; cases e; omega)).trans (H.x p hp).2⟩⟩
theorem Kept.grow {w : World} {S d c : Nat} {R : List Row} {X : List (Nat × Obj)} {W W' : World} (H : Kept w S d c R X W) (hb : Below W.heap.size W W') : Kept w S d c R X W' :=
  H.draw (grown_on (grown_refl W _) hb) (H.dk.below hb)
theorem Kept.addR {w : World} {S d c : Nat} {R : List Row} {X : List (Nat × Obj)} {W : World} (H : Kept w S d c R X W) {r : Row} {B : Nat} (hB : S ≤ B) (hr : r.Owned W B) : Kept w S d c (r :: R) X W :=
  ⟨H.b, H.o, H.dk, fun q hq => by
    rcases List.mem_cons.1 hq with rfl | hq
    · exact owns_mono hr hB
    · exact H.r q hq, H.x⟩
theorem Kept.addX {w : World} {S d c : Nat} {R : List Row} {X : List (Nat × Obj)} {W : World} (H : Kept w S d c R X W) {p : Nat} {o : Obj} (hS : S ≤ p) (hp : W.heap[p]? = some o) : Kept w S d c R ((p, o) :: X) W :=
  ⟨H.b, H.o, H.dk, H.r, fun q hq => by
    rcases List.mem_cons.1 hq with rfl | hq
    · exact ⟨hS, hp⟩
    · exact H.x q hq⟩
/-- a box that is laid -/
theorem Kept.lay {w : World} {S d c : Nat} {R : List Row} {X : List (Nat × Obj)} {W : World} (H : Kept w S d c R X W) (o : Obj) : Kept w S d c R ((W.heap.size, o) :: X) (W.alloc o) :=
  (H.grow ((Below.refl _ W).alloc (Nat.le_refl _) _)).addX H.o.2.2 (heap_alloc_new W o)
theorem Kept.less {w : World} {S d c : Nat} {R R' : List Row} {X X' : List (Nat × Obj)} {W : World} (H : Kept w S d c R X W) (hR : ∀ r ∈ R', r ∈ R) (hX : ∀ p ∈ X', p ∈ X) : Kept w S d c R' X' W :=
  ⟨H.b, H.o, H.dk, fun r hr => H.r r (hR r hr), fun p hp => H.x p (hX p hp)⟩
def rwH (v : Value) (hs : List (Int × Int)) : Row := ⟨54, 2, v, hs.length, spans hs⟩
def rwI (v : Value) (l : List Int) : Row := ⟨3, 1, v, l.length, ints l⟩
def rwD (v : Value) (l : List Int) : Row := ⟨71, 1, v, l.length, ints l⟩
def rwS (v : Value) (l : List (Bool × Bool × Bool)) : Row := ⟨41, 3, v, l.length, sideCells l⟩
def rwN (v : Value) (l : List Nat) : Row := ⟨3, 1, v, l.length, ints (l.map Int.ofNat)⟩
theorem Kept.rsH {w : World} {S d c : Nat} {R : List Row} {X : List (Nat × Obj)} {W : World} (H : Kept w S d c R X W) {v : Value} {hs : List (Int × Int)} (h : rwH v hs ∈ R) : RS W.heap.size W v hs.length (spans hs) := RS.of_owns (H.r _ h)
theorem Kept.rsI {w : World} {S d c : Nat} {R : List Row} {X : List (Nat × Obj)} {W : World} (H : Kept w S d c R X W) {v : Value} {l : List Int} (h : rwI v l ∈ R) : RS W.heap.size W v l.length (ints l) := RS.of_owns (H.r _ h)
theorem Kept.rsD {w : World} {S d c : Nat} {R : List Row} {X : List (Nat × Obj)} {W : World} (H : Kept w S d c R X W) {v : Value} {l : List Int} (h : rwD v l ∈ R) : RS W.heap.size W v l.length (ints l) := RS.of_owns (H.r _ h)
theorem Kept.rsS {w : World} {S d c : Nat} {R : List Row} {X : List (Nat × Obj)} {W : World} (H : Kept w S d c R X W) {v : Value} {l : List (Bool × Bool × Bool)} (h : rwS v l ∈ R) : RS W.heap.size W v l.length (sideCells l) := RS.of_owns (H.r _ h)
theorem Kept.rsN {w : World} {S d c : Nat} {R : List Row} {X : List (Nat × Obj)} {W : World} (H : Kept w S d c R X W) {v : Value} {l : List Nat} (h : rwN v l ∈ R) : RS W.heap.size W v (l.map Int.ofNat).length (ints (l.map Int.ofNat)) := by
  have := RS.of_owns (H.r _ h); simpa [rwN] using this
theorem Kept.box3 {w : World} {S d c : Nat} {R : List Row} {X : List (Nat × Obj)} {W : World} (H : Kept w S d c R X W) {q : Nat} {a b e : Value} {t : TypeId} (h : (q, Obj.cells #[a, b, e] t (0, 0)) ∈ X) : W.cell? ⟨q, 0, none⟩ = some a ∧ W.cell? ⟨q, 1, none⟩ = some b ∧ W.cell? ⟨q, 2, none⟩ = some e := (cell_of_heap (H.x _ h).2).1
theorem Kept.box2 {w : World} {S d c : Nat} {R : List Row} {X : List (Nat × Obj)} {W : World} (H : Kept w S d c R X W) {q : Nat} {a b : Value} {t : TypeId} (h : (q, Obj.cells #[a, b] t (0, 0)) ∈ X) : W.cell? ⟨q, 0, none⟩ = some a ∧ W.cell? ⟨q, 1, none⟩ = some b := (two_cells (H.x _ h).2).1
/-- a row has a first cell, or it is nothing -/
theorem row_form {W : World} {r : Row} {S : Nat} (h : r.Owned W S) : ∃ a cap, r.v = .slice a r.n cap := by
  rcases h.2 with ⟨h1, h2⟩ | ⟨g, cap, cur, h1, -⟩
  · rw [h1, h2]; exact ⟨_, _, rfl⟩
  · exact ⟨_, _, h1⟩
theorem row_at {W : World} {r : Row} {S : Nat} (h : r.Owned W S) (hn : 0 < r.n) : ∃ g cap, r.v = .slice (some ⟨g, 0, none⟩) r.n cap ∧ ∀ j u, r.xs[j]? = some u → W.cell? ⟨g, j, none⟩ = some u := by
  rcases h.2 with ⟨h1, h2⟩ | ⟨g, cap, cur, h1, -⟩
  · omega
  · refine ⟨g, cap, h1, fun j u hj => ?_⟩
    have := World.ownsRow.cells h (g := g) (by rw [h1]; rfl) j u hj
    rw [Addr.add_mid, Nat.zero_add] at this
    exact this

theorem form_pos {W : World} {r : Row} {S : Nat} (h : r.Owned W S) (hn : 0 < r.n) : ∃ g cap, r.v = .slice (some ⟨g, 0, none⟩) r.n cap := let ⟨g, c, h, _⟩ := row_at h hn; ⟨g, c, h⟩
theorem row_cell {W : World} {r : Row} {S g n cap : Nat} (h : r.Owned W S) (hv : r.v = .slice (some ⟨g, 0, none⟩) n cap) {j : Nat} {u : Value} (hj : r.xs[j]? = some u) : W.cell? ⟨g, j, none⟩ = some u := by
  have := World.ownsRow.cells h (g := g) (by rw [hv]; rfl) j u hj
  rw [Addr.add_mid, Nat.zero_add] at this
  exact this
theorem Kept.cellI {w : World} {S d c : Nat} {R : List Row} {X : List (Nat × Obj)} {W : World} (H : Kept w S d c R X W) {g cap : Nat} {l : List Int} (h : rwI (.slice (some ⟨g, 0, none⟩) l.length cap) l ∈ R) {j : Nat} (hj : j < l.length) : W.cell? ⟨g, j, none⟩ = some (.int .i64 (l.getD j 0)) :=
  row_cell (H.r _ h) rfl (by show (ints l)[j]? = _; rw [ints_at' l j hj, List.getD_eq_getElem?_getD])
theorem Kept.cellD {w : World} {S d c : Nat} {R : List Row} {X : List (Nat × Obj)} {W : World} (H : Kept w S d c R X W) {g cap : Nat} {l : List Int} (h : rwD (.slice (some ⟨g, 0, none⟩) l.length cap) l ∈ R) {j : Nat} (hj : j < l.length) : W.cell? ⟨g, j, none⟩ = some (.int .i64 (l.getD j 0)) :=
  row_cell (H.r _ h) rfl (by show (ints l)[j]? = _; rw [ints_at' l j hj, List.getD_eq_getElem?_getD])
theorem Kept.cellN {w : World} {S d c : Nat} {R : List Row} {X : List (Nat × Obj)} {W : World} (H : Kept w S d c R X W) {g cap : Nat} {l : List Nat} (h : rwN (.slice (some ⟨g, 0, none⟩) l.length cap) l ∈ R) {j : Nat} (hj : j < l.length) : W.cell? ⟨g, j, none⟩ = some (.int .i64 ((l.getD j 0 : Nat) : Int)) :=
  row_cell (H.r _ h) rfl (by show (ints (l.map Int.ofNat))[j]? = _; rw [ints_at' _ j (by simpa using hj), List.getElem?_map, List.getD_eq_getElem?_getD, List.getElem?_eq_getElem hj]; rfl)
theorem Kept.cellH {w : World} {S d c : Nat} {R : List Row} {X : List (Nat × Obj)} {W : World} (H : Kept w S d c R X W) {g cap : Nat} {l : List (Int × Int)} (h : rwH (.slice (some ⟨g, 0, none⟩) l.length cap) l ∈ R) {j : Nat} (hj : j < l.length) :
    W.cell? ⟨g, j * 2, none⟩ = some (.int .i64 (l.getD j (0, 0)).1) ∧ W.cell? ⟨g, j * 2 + 1, none⟩ = some (.int .i64 (l.getD j (0, 0)).2) :=
  ⟨row_cell (H.r _ h) rfl (by show (spans l)[j * 2]? = _; rw [spans_lo l j hj, List.getD_eq_getElem?_getD, List.getElem?_eq_getElem hj]; rfl), row_cell (H.r _ h) rfl (by show (spans l)[j * 2 + 1]? = _; rw [spans_hi l j hj, List.getD_eq_getElem?_getD, List.getElem?_eq_getElem hj]; rfl)⟩
theorem Kept.cellS {w : World} {S d c : Nat} {R : List Row} {X : List (Nat × Obj)} {W : World} (H : Kept w S d c R X W) {g cap : Nat} {l : List (Bool × Bool × Bool)} (h : rwS (.slice (some ⟨g, 0, none⟩) l.length cap) l ∈ R) {j : Nat} (hj : j < l.length) :
    W.cell? ⟨g, j * 3, none⟩ = some (.bool (l.getD j (false, false, false)).1) ∧ W.cell? ⟨g, j * 3 + 1, none⟩ = some (.bool (l.getD j (false, false, false)).2.1) ∧ W.cell? ⟨g, j * 3 + 2, none⟩ = some (.bool (l.getD j (false, false, false)).2.2) :=
  ⟨row_cell (H.r _ h) rfl (sideCells_at l j hj).1, row_cell (H.r _ h) rfl (sideCells_at l j hj).2.1, row_cell (H.r _ h) rfl (sideCells_at l j hj).2.2⟩
/-- another deck is written -/
theorem Dk.other {W W' : World} {d e B : Nat} {cv : Value} {l : List Int} {k s : Int} (h : Dk W d cv l k s) (hB : RS B W cv l.length (u8s l)) (hBe : B ≤ e) (hde : d ≠ e) (hBd : B ≤ d) (hg : W.grownBy W' (some e)) : Dk W' d cv l k s := by
  have hdl : d < W.heap.size := World.block_lt_of_cell? _ _ h.c.1
  have he : W'.heap[d]? = W.heap[d]? := hg.block d hdl (fun e => by cases e; exact hde rfl)
  have hBW : B ≤ W.heap.size := by omega
  have hb : Below B W W' := ⟨hg.os, hg.tape, hg.output, hg.size, fun k hk => hg.block k (by omega) (fun e => by cases e; omega)⟩
  exact ⟨⟨(World.cell?_of_block he).trans h.c.1, (World.cell?_of_block he).trans h.c.2.1, (World.cell?_of_block he).trans h.c.2.2⟩, ⟨(World.frozen?_of_block he).trans h.f.1, (World.frozen?_of_block he).trans h.f.2⟩, (hB.below hb).mono hBd, h.u, h.k0, h.s0⟩
set_option maxRecDepth 20000 in
set_option maxHeartbeats 1000000 in
/-- a deck of bytes, and what it is made of -/
theorem of_dk {B : Nat} {cv : Value} {l : List Int} {w : World} (hB : B ≤ w.heap.size) (h : RS B w cv l.length (u8s l)) (hu : ∀ x ∈ l, 0 ≤ x ∧ x ≤ 255) :
    Calls Try.prog 27 #[cv] w fun e w' => e = .returned (.pointer (some ⟨w.heap.size, 0, none⟩)) ∧ Dk w' w.heap.size cv l 0 9 ∧ Below w.heap.size w w' ∧ w'.heap.size = w.heap.size + 1 := by
  have hb : Below w.heap.size w (w.alloc (.cells #[cv, .int .i64 0, .int .u32 9] 121)) := (Below.refl _ w).alloc (Nat.le_refl _) _
  have HD : Hid (Dk (w.alloc (.cells #[cv, .int .i64 0, .int .u32 9] 121)) w.heap.size cv l 0 9) := Lib.hid
    ⟨⟨by simp [go_sem], by simp [go_sem], by simp [go_sem]⟩, ⟨by simp [go_sem], by simp [go_sem]⟩, (h.mono hB).below hb, hu, by omega, by omega⟩
  have HB := Lib.hid hb
  obtain ⟨a, cap, rfl, -⟩ := h
  clear hb
  go_enter Try.func27, Try.ntmps27
  go_wp2
  go_ret
  exact ⟨rfl, HD.out, HB.out, by simp⟩
theorem Dk.deck {W : World} {d : Nat} {cv : Value} {l : List Int} {k s : Int} (h : Dk W d cv l k s) {n : Nat} (hn : k ≤ n) : Deck W d n := ⟨cv, l, k, s, h, hn⟩
theorem Dk.below {W W' : World} {d : Nat} {cv : Value} {l : List Int} {k s : Int} (h : Dk W d cv l k s) (hb : Below W.heap.size W W') : Dk W' d cv l k s :=
  have hd : d < W.heap.size := World.block_lt_of_cell? _ _ h.c.1
  ⟨⟨cell_on hb h.c.1, cell_on hb h.c.2.1, cell_on hb h.c.2.2⟩, ⟨frozen_on hb h.c.2.1 h.f.1, frozen_on hb h.c.2.2 h.f.2⟩, h.r.below (hb.mono (Nat.le_of_lt hd)), h.u, h.k0, h.s0⟩
end Go.Proofs.Ytdgibmgifgdpbaa
/-
  Grounds that are made of a deck: their lists' lengths.
-/
namespace Go.Proofs.Ytdgibmgifgdpbaa
open Lim

theorem MadeG.lens {C R : Int} {m rows : Nat} {hs : List (Int × Int)} {ss T : List Int} (h : MadeG C R m rows hs ss T) (hC : C ≤ 10) (hR : R ≤ 10) : hs.length = ss.length ∧ T.length = ss.length ∧ 6 ≤ ss.length ∧ ss.length ≤ 100 := by
  have h1 := h.size hC hR
  have h2 := h.cells.l1
  have h3 := h.cells.l2
  have h4 := h.cells.l3
  omega
theorem MadeG.insp {C R : Int} {m rows : Nat} {hs : List (Int × Int)} {ss T : List Int} (h : MadeG C R m rows hs ss T) : InSp hs T :=
  ⟨h.cells.l3.trans h.cells.l1.symm, fun c hc => by have := h.cells.h c (by have := h.cells.l1; omega); omega⟩
/-- how many of three are so, among the first k -/
def cnt3 (x1 x2 x3 : Bool) (k : Nat) : Nat := (if 0 < k ∧ x1 = true then 1 else 0) + (if 1 < k ∧ x2 = true then 1 else 0) + (if 2 < k ∧ x3 = true then 1 else 0)

theorem cell_grown {W W' : World} {d : Nat} (hg : W.grownBy W' (some d)) {a : Addr} {v : Value} (h : W.cell? a = some v) (hne : a.block ≠ d) : W'.cell? a = some v :=
  (World.cell?_of_block (hg.block a.block (World.block_lt_of_cell? _ _ h) (fun e => hne (by cases e; rfl)))).trans h
/-- the first k spans are made narrower around a truth -/
structure FineTo (hs : List (Int × Int)) (T : List Int) (k : Nat) (L : List (Int × Int)) : Prop where
  len : L.length = hs.length
  le : ∀ c, c < k → c < hs.length → (hs.getD c (0, 0)).1 ≤ (L.getD c (0, 0)).1 ∧ (L.getD c (0, 0)).1 ≤ T.getD c 0 ∧ T.getD c 0 ≤ (L.getD c (0, 0)).2 ∧ (L.getD c (0, 0)).2 ≤ (hs.getD c (0, 0)).2
theorem FineTo.put {hs : List (Int × Int)} {T : List Int} {k : Nat} {L : List (Int × Int)} (h : FineTo hs T k L) {lo hi t x1 x2 : Int} (hx : (lo, hi) = hs.getD k (0, 0)) (ht : t = T.getD k 0) (h1 : lo ≤ x1 ∧ x1 ≤ t) (h2 : t ≤ x2 ∧ x2 ≤ hi) (_ : 0 ≤ lo ∧ lo ≤ t ∧ t ≤ hi ∧ hi ≤ 14) (_ : k < hs.length) : FineTo hs T (k + 1) (L.set k (x1, x2)) := by
  refine ⟨by rw [List.length_set, h.len], fun c hc hl => ?_⟩
  rw [spget]
  by_cases e : k = c
  · subst e
    rw [if_pos ⟨rfl, by rw [h.len]; exact hl⟩, ← hx, ← ht]
    exact ⟨h1.1, h1.2, h2.1, h2.2⟩
  · rw [if_neg (by omega)]
    exact h.le c (by omega) hl
end Go.Proofs.Ytdgibmgifgdpbaa
