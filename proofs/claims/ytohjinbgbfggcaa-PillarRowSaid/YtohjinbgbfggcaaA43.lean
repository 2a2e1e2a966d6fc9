/-
  Parts of the proof, in the order in which they build: Mem.
-/
import Derived.Test.YtohjinbgbfggcaaA41
set_option linter.unusedVariables false
set_option linter.unusedSimpArgs false
namespace Go.Proofs.Ytohjinbgbfggcaa
open Go.RowKit Go.Shelf
open Lim

/-- two rows share no memory -/
def Row.Apart (r s : Row) : Prop := ∀ k, r.v.ownBlock = some k → s.v.ownBlock ≠ some k
theorem Row.Apart.symm {r s : Row} (h : r.Apart s) : s.Apart r := fun k h1 h2 => h k h2 h1
/-- rows R that are only read, rows Q that are written, boxes X, and a deck at d with at most c draws behind it -/
structure Mem (w : World) (S d c : Nat) (R Q : List Row) (X : List (Nat × Obj)) (W : World) : Prop where
  b : Below w.heap.size w W
  o : w.heap.size ≤ d ∧ d < S ∧ S ≤ W.heap.size
  dk : Deck W d c
  r : ∀ r ∈ R, r.Owned W S
  q : ∀ r ∈ Q, r.Owned W S
  x : ∀ p ∈ X, S ≤ p.1 ∧ W.heap[p.1]? = some p.2
  xr : ∀ p ∈ X, ∀ r ∈ R, r.v.ownBlock ≠ some p.1
  xq : ∀ p ∈ X, ∀ r ∈ Q, r.v.ownBlock ≠ some p.1
  xx : X.Pairwise (fun p p' => p.1 ≠ p'.1)
  qq : Q.Pairwise Row.Apart
  qr : ∀ q ∈ Q, ∀ r ∈ R, q.Apart r
section
variable {w : World} {S d c c' : Nat} {R Q : List Row} {X : List (Nat × Obj)} {W W' : World}
theorem Mem.lt (H : Mem w S d c R Q X W) {p : Nat × Obj} (h : p ∈ X) : p.1 < W.heap.size := (Array.getElem?_eq_some_iff.1 (H.x p h).2).1
/-- all blocks that are spoken of stay as they are -/
theorem Mem.keep (H : Mem w S d c R Q X W) (hb : Below w.heap.size w W') (hs : S ≤ W'.heap.size) (hd : Deck W' d c') (hk : ∀ k, S ≤ k → k < W.heap.size → W'.heap[k]? = W.heap[k]?) : Mem w S d c' R Q X W' :=
  ⟨hb, ⟨H.o.1, H.o.2.1, hs⟩, hd,
   fun r hr => owned_keep (H.r r hr) (fun k h => let h1 := owned_block (H.r r hr) h; hk k h1.1 h1.2.1),
   fun r hr => owned_keep (H.q r hr) (fun k h => let h1 := owned_block (H.q r hr) h; hk k h1.1 h1.2.1),
   fun p hp => ⟨(H.x p hp).1, (hk p.1 (H.x p hp).1 (H.lt hp)).trans (H.x p hp).2⟩, H.xr, H.xq, H.xx, H.qq, H.qr⟩
theorem Mem.draw (H : Mem w S d c R Q X W) (hg : W.grownBy W' (some d)) (hd : Deck W' d c') : Mem w S d c' R Q X W' :=
  H.keep (Below.grown H.b hg (Nat.le_trans H.o.1 (Nat.le_trans (Nat.le_of_lt H.o.2.1) H.o.2.2)) (fun r e => by cases e; exact H.o.1)) (Nat.le_trans H.o.2.2 hg.size) hd
    (fun k h1 h2 => hg.block k h2 (fun e => by cases e; have := H.o; omega))
theorem Mem.grow (H : Mem w S d c R Q X W) (hb : Below W.heap.size W W') : Mem w S d c R Q X W' :=
  H.draw (grown_on (grown_refl W _) hb) (H.dk.below hb)
/-- a row that a call has made -/
theorem Mem.addR (H : Mem w S d c R Q X W) (hb : Below W.heap.size W W') {r : Row} (hr : r.Owned W' W.heap.size) : Mem w S d c (r :: R) Q X W' := by
  have H1 := H.grow hb
  refine ⟨H1.b, H1.o, H1.dk, fun q hq => ?_, H1.q, H1.x, fun p hp q hq => ?_, H1.xq, H1.xx, H1.qq, fun q hq s hs => ?_⟩
  · rcases List.mem_cons.1 hq with rfl | hq
    · exact owns_mono hr H.o.2.2
    · exact H1.r q hq
  · rcases List.mem_cons.1 hq with rfl | hq
    · intro e
      have h1 := (owned_block hr e).1
      have h2 := H.lt hp
      omega
    · exact H1.xr p hp q hq
  · rcases List.mem_cons.1 hs with rfl | hs
    · intro k h1 h2
      have h3 := (owned_block hr h2).1
      have h4 := (owned_block (H.q q hq) h1).2.1
      omega
    · exact H1.qr q hq s hs
theorem Mem.addQ (H : Mem w S d c R Q X W) (hb : Below W.heap.size W W') {r : Row} (hr : r.Owned W' W.heap.size) : Mem w S d c R (r :: Q) X W' := by
  have H1 := H.grow hb
  refine ⟨H1.b, H1.o, H1.dk, H1.r, fun q hq => ?_, H1.x, H1.xr, fun p hp q hq => ?_, H1.xx, List.pairwise_cons.2 ⟨fun s hs k h1 h2 => ?_, H1.qq⟩, fun q hq s hs => ?_⟩
  · rcases List.mem_cons.1 hq with rfl | hq
    · exact owns_mono hr H.o.2.2
    · exact H1.q q hq
  · rcases List.mem_cons.1 hq with rfl | hq
    · intro e
      have h1 := (owned_block hr e).1
      have h2 := H.lt hp
      omega
    · exact H1.xq p hp q hq
  · have h3 := (owned_block hr h1).1
    have h4 := (owned_block (H.q s hs) h2).2.1
    omega
  · rcases List.mem_cons.1 hq with rfl | hq
    · intro k h1 h2
      have h3 := (owned_block hr h1).1
      have h4 := (owned_block (H.r s hs) h2).2.1
      omega
    · exact H1.qr q hq s hs
/-- a box that is laid -/
theorem Mem.lay (H : Mem w S d c R Q X W) (o : Obj) : Mem w S d c R Q ((W.heap.size, o) :: X) (W.alloc o) := by
  have H1 := H.grow ((Below.refl _ W).alloc (Nat.le_refl _) o)
  refine ⟨H1.b, H1.o, H1.dk, H1.r, H1.q, fun p hp => ?_, fun p hp r hr => ?_, fun p hp r hr => ?_, List.pairwise_cons.2 ⟨fun p hp e => ?_, H1.xx⟩, H1.qq, H1.qr⟩
  · rcases List.mem_cons.1 hp with rfl | hp
    · exact ⟨H.o.2.2, heap_alloc_new W o⟩
    · exact H1.x p hp
  · rcases List.mem_cons.1 hp with rfl | hp
    · intro e
      have := (owned_block (H.r r hr) e).2.1
      exact Nat.lt_irrefl _ this
    · exact H1.xr p hp r hr
  · rcases List.mem_cons.1 hp with rfl | hp
    · intro e
      have := (owned_block (H.q r hr) e).2.1
      exact Nat.lt_irrefl _ this
    · exact H1.xq p hp r hr
  · have h1 := H.lt hp
    have e : W.heap.size = p.1 := e
    omega
theorem Mem.less (H : Mem w S d c R Q X W) {R' Q' : List Row} {X' : List (Nat × Obj)} (hR : ∀ r ∈ R', r ∈ R) (hQ : Q'.Sublist Q) (hX : X'.Sublist X) : Mem w S d c R' Q' X' W :=
  ⟨H.b, H.o, H.dk, fun r hr => H.r r (hR r hr), fun r hr => H.q r (hQ.subset hr), fun p hp => H.x p (hX.subset hp), fun p hp r hr => H.xr p (hX.subset hp) r (hR r hr), fun p hp r hr => H.xq p (hX.subset hp) r (hQ.subset hr), H.xx.sublist hX, H.qq.sublist hQ, fun q hq r hr => H.qr q (hQ.subset hq) r (hR r hr)⟩
/-- a row that is written becomes one that is only read -/
theorem Mem.freeze {q : Row} (H : Mem w S d c R (q :: Q) X W) : Mem w S d c (q :: R) Q X W :=
  ⟨H.b, H.o, H.dk, fun r hr => by
    rcases List.mem_cons.1 hr with rfl | hr
    · exact H.q _ List.mem_cons_self
    · exact H.r r hr,
   fun r hr => H.q r (List.mem_cons_of_mem _ hr), H.x, fun p hp r hr => by
    rcases List.mem_cons.1 hr with rfl | hr
    · exact H.xq p hp _ List.mem_cons_self
    · exact H.xr p hp r hr,
   fun p hp r hr => H.xq p hp r (List.mem_cons_of_mem _ hr), H.xx, (List.pairwise_cons.1 H.qq).2, fun a ha r hr => by
    rcases List.mem_cons.1 hr with rfl | hr
    · exact ((List.pairwise_cons.1 H.qq).1 a ha).symm
    · exact H.qr a (List.mem_cons_of_mem _ ha) r hr⟩
/-- a row is written, or laid anew -/
theorem Mem.putQ {Q1 Q2 : List Row} {r r' : Row} (H : Mem w S d c R (Q1 ++ r :: Q2) X W) (hg : W.grownBy W' r.v.ownBlock) (ho : r'.Owned W' S) (hb : r'.v.ownBlock = r.v.ownBlock ∨ ∃ k, r'.v.ownBlock = some k ∧ W.heap.size ≤ k) : Mem w S d c R (Q1 ++ r' :: Q2) X W' := by
  have hrm : r ∈ Q1 ++ r :: Q2 := by simp
  have hlow : ∀ k, r.v.ownBlock = some k → S ≤ k ∧ k < W.heap.size := fun k h => let h1 := owned_block (H.q r hrm) h; ⟨h1.1, h1.2.1⟩
  have hS := H.o
  have hkeep : ∀ k, k < W.heap.size → r.v.ownBlock ≠ some k → W'.heap[k]? = W.heap[k]? := fun k h1 h2 => hg.block k h1 (fun e => h2 e.symm)
  have hp := List.pairwise_append.1 H.qq
  have hp2 := List.pairwise_cons.1 hp.2.1
  have hne : ∀ s, s ∈ Q1 ∨ s ∈ Q2 → s.Apart r := fun s hs => by
    rcases hs with hs | hs
    · exact hp.2.2 s hs r List.mem_cons_self
    · exact (hp2.1 s hs).symm
  have hmem : ∀ s, s ∈ Q1 ∨ s ∈ Q2 → s ∈ Q1 ++ r :: Q2 := fun s hs => by
    rcases hs with hs | hs
    · exact List.mem_append_left _ hs
    · exact List.mem_append_right _ (List.mem_cons_of_mem _ hs)
  have hsplit : ∀ s, s ∈ Q1 ++ r' :: Q2 → s = r' ∨ (s ∈ Q1 ∨ s ∈ Q2) := fun s hs => by
    rcases List.mem_append.1 hs with h | h
    · exact .inr (.inl h)
    · rcases List.mem_cons.1 h with h | h
      · exact .inl h
      · exact .inr (.inr h)
  -- the new row is apart from what is apart from the old one and old enough
  have hnew : ∀ k, r'.v.ownBlock = some k → k < W.heap.size → r.v.ownBlock = some k := fun k h1 h2 => by
    rcases hb with hb | ⟨j, h3, h4⟩
    · rw [← hb]; exact h1
    · rw [h3] at h1; cases h1; omega
  refine ⟨H.b.trans ?_, ⟨hS.1, hS.2.1, Nat.le_trans hS.2.2 hg.size⟩, ?_, fun s hs => ?_, fun s hs => ?_, fun p hp => ?_, H.xr, fun p hp s hs => ?_, H.xx, ?_, fun q hq s hs => ?_⟩
  · exact (Below.refl w.heap.size W).grown hg H.b.size (fun k e => by have := hlow k e; omega)
  · exact H.dk.row hg (fun k e => by have := hlow k e; omega)
  · exact owned_keep (H.r s hs) (fun k hk => hkeep k (owned_block (H.r s hs) hk).2.1 (fun e => H.qr r hrm s hs k e hk))
  · rcases hsplit s hs with rfl | hs
    · exact ho
    · exact owned_keep (H.q s (hmem s hs)) (fun k hk => hkeep k (owned_block (H.q s (hmem s hs)) hk).2.1 (fun e => hne s hs k hk e))
  · exact ⟨(H.x p hp).1, (hkeep p.1 (H.lt hp) (H.xq p hp r hrm)).trans (H.x p hp).2⟩
  · rcases hsplit s hs with rfl | hs
    · exact fun e => H.xq p hp r hrm (hnew p.1 e (H.lt hp))
    · exact H.xq p hp s (hmem s hs)
  · refine List.pairwise_append.2 ⟨hp.1, List.pairwise_cons.2 ⟨fun s hs k h1 h2 => ?_, hp2.2⟩, fun s hs t ht => ?_⟩
    · have h3 := (owned_block (H.q s (hmem s (.inr hs))) h2).2.1
      exact hp2.1 s hs k (hnew k h1 h3) h2
    · rcases List.mem_cons.1 ht with rfl | ht
      · intro k h1 h2
        have h3 := (owned_block (H.q s (hmem s (.inl hs))) h1).2.1
        exact hne s (.inl hs) k h1 (hnew k h2 h3)
      · exact hp.2.2 s hs t (List.mem_cons_of_mem _ ht)
  · rcases hsplit q hq with rfl | hq
    · intro k h1 h2
      have h3 := (owned_block (H.r s hs) h2).2.1
      exact H.qr r hrm s hs k (hnew k h1 h3) h2
    · exact H.qr q (hmem q hq) s hs
/-- a cell of a box is written -/
theorem Mem.putX {X1 X2 : List (Nat × Obj)} {p : Nat} {cs : Array Value} {t : TypeId} {fr : Nat × Nat} (H : Mem w S d c R Q (X1 ++ (p, .cells cs t fr) :: X2) W) (j : Nat) (v : Value) : Mem w S d c R Q (X1 ++ (p, .cells (cs.setIfInBounds j v) t fr) :: X2) (W.setCell ⟨p, j, none⟩ v) := by
  have hm : (p, Obj.cells cs t fr) ∈ X1 ++ (p, Obj.cells cs t fr) :: X2 := by simp
  have hS := H.o
  have hx := H.x _ hm
  have hx1 : S ≤ p := hx.1
  have hkeep : ∀ k, k ≠ p → (W.setCell ⟨p, j, none⟩ v).heap[k]? = W.heap[k]? := fun k hk => Below.heap_setCell W ⟨p, j, none⟩ v k hk
  have hp := List.pairwise_append.1 H.xx
  have hp2 := List.pairwise_cons.1 hp.2.1
  have hx1' : ∀ s, s ∈ X1 → s.1 ≠ p := fun s hs => hp.2.2 s hs _ List.mem_cons_self
  have hsplit : ∀ s, s ∈ X1 ++ (p, Obj.cells (cs.setIfInBounds j v) t fr) :: X2 → s = (p, Obj.cells (cs.setIfInBounds j v) t fr) ∨ (s ∈ X1 ++ (p, Obj.cells cs t fr) :: X2 ∧ s.1 ≠ p) := fun s hs => by
    rcases List.mem_append.1 hs with h | h
    · exact .inr ⟨List.mem_append_left _ h, hp.2.2 s h _ List.mem_cons_self⟩
    · rcases List.mem_cons.1 h with h | h
      · exact .inl h
      · exact .inr ⟨List.mem_append_right _ (List.mem_cons_of_mem _ h), fun e => hp2.1 s h e.symm⟩
  refine ⟨H.b.setCell (p := ⟨p, j, none⟩) (by show w.heap.size ≤ p; omega) v, ⟨hS.1, hS.2.1, by rw [World.size_setCell]; exact hS.2.2⟩, H.dk.far (by omega) j v, fun s hs => owned_keep (H.r s hs) (fun k hk => hkeep k (fun e => by subst e; exact H.xr _ hm s hs hk)), fun s hs => owned_keep (H.q s hs) (fun k hk => hkeep k (fun e => by subst e; exact H.xq _ hm s hs hk)), fun s hs => ?_, fun s hs r hr => ?_, fun s hs r hr => ?_, ?_, H.qq, H.qr⟩
  · rcases hsplit s hs with rfl | ⟨hs, hne⟩
    · exact ⟨hx1, heap_setCell_self v hx.2⟩
    · exact ⟨(H.x s hs).1, (hkeep s.1 hne).trans (H.x s hs).2⟩
  · rcases hsplit s hs with rfl | ⟨hs, hne⟩
    · exact H.xr _ hm r hr
    · exact H.xr s hs r hr
  · rcases hsplit s hs with rfl | ⟨hs, hne⟩
    · exact H.xq _ hm r hr
    · exact H.xq s hs r hr
  · exact List.pairwise_append.2 ⟨hp.1, List.pairwise_cons.2 ⟨fun s hs => hp2.1 s hs, hp2.2⟩, fun s hs t ht => by
      rcases List.mem_cons.1 ht with rfl | ht
      · exact hx1' s hs
      · exact hp.2.2 s hs t (List.mem_cons_of_mem _ ht)⟩
end
def rwI (v : Value) (n : Nat) (l : List Int) : Row := ⟨3, 1, v, n, ints l⟩
def rwS (v : Value) (n : Nat) (l : List (Int × Int)) : Row := ⟨28, 2, v, n, spans l⟩
theorem form_pos {W : World} {r : Row} {S : Nat} (h : r.Owned W S) (hn : 0 < r.n) : ∃ g cap, r.v = .slice (some ⟨g, 0, none⟩) r.n cap := by
  rcases h.2 with ⟨h1, h2⟩ | ⟨g, cap, cur, h1, -⟩
  · omega
  · exact ⟨g, cap, h1⟩
theorem row_cell {W : World} {r : Row} {S g n cap : Nat} (h : r.Owned W S) (hv : r.v = .slice (some ⟨g, 0, none⟩) n cap) {j : Nat} {u : Value} (hj : r.xs[j]? = some u) : W.cell? ⟨g, j, none⟩ = some u := by
  have := World.ownsRow.cells h (g := g) (by rw [hv]; rfl) j u hj
  rw [Addr.add_mid, Nat.zero_add] at this
  exact this
section
variable {w : World} {S d c c' : Nat} {R Q : List Row} {X : List (Nat × Obj)} {W W' : World}
theorem Mem.own (H : Mem w S d c R Q X W) {r : Row} (h : r ∈ R ∨ r ∈ Q) : r.Owned W S := h.elim (H.r r) (H.q r)
theorem Mem.rsI (H : Mem w S d c R Q X W) {v : Value} {n : Nat} {l : List Int} (h : rwI v n l ∈ R ∨ rwI v n l ∈ Q) (hn : l.length = n) : RS W.heap.size W v l.length (ints l) := by subst hn; exact RS.of_owns (H.own h)
theorem Mem.rsS (H : Mem w S d c R Q X W) {v : Value} {n : Nat} {l : List (Int × Int)} (h : rwS v n l ∈ R ∨ rwS v n l ∈ Q) (hn : l.length = n) : RS W.heap.size W v l.length (spans l) := by subst hn; exact RS.of_owns (H.own h)
theorem Mem.cellI (H : Mem w S d c R Q X W) {g n cap : Nat} {l : List Int} (h : rwI (.slice (some ⟨g, 0, none⟩) n cap) n l ∈ R ∨ rwI (.slice (some ⟨g, 0, none⟩) n cap) n l ∈ Q) {j : Nat} (hj : j < l.length) : W.cell? ⟨g, j, none⟩ = some (.int .i64 (l.getD j 0)) :=
  row_cell (H.own h) rfl (by show (ints l)[j]? = _; rw [ints_at' l j hj, List.getD_eq_getElem?_getD])
theorem Mem.cellS (H : Mem w S d c R Q X W) {g n cap : Nat} {l : List (Int × Int)} (h : rwS (.slice (some ⟨g, 0, none⟩) n cap) n l ∈ R ∨ rwS (.slice (some ⟨g, 0, none⟩) n cap) n l ∈ Q) {j : Nat} (hj : j < l.length) :
    W.cell? ⟨g, j * 2, none⟩ = some (.int .i64 (l.getD j (0, 0)).1) ∧ W.cell? ⟨g, j * 2 + 1, none⟩ = some (.int .i64 (l.getD j (0, 0)).2) :=
  ⟨row_cell (H.own h) rfl (by show (spans l)[j * 2]? = _; rw [spans_lo l j hj, List.getD_eq_getElem?_getD, List.getElem?_eq_getElem hj]; rfl), row_cell (H.own h) rfl (by show (spans l)[j * 2 + 1]? = _; rw [spans_hi l j hj, List.getD_eq_getElem?_getD, List.getElem?_eq_getElem hj]; rfl)⟩
/-- a number is written into a row -/
theorem set_owned {S g n cap : Nat} {e : TypeId} {l : List Int} (h : (⟨e, 1, .slice (some ⟨g, 0, none⟩) n cap, n, ints l⟩ : Row).Owned W S) (k : Nat) (x : Int) : (⟨e, 1, .slice (some ⟨g, 0, none⟩) n cap, n, ints (l.set k x)⟩ : Row).Owned (W.setCell ⟨g, k, none⟩ (.int .i64 x)) S := by
  show World.ownsRow _ _ _ _ _ _ (ints (l.set k x))
  rw [show ints (l.set k x) = (ints l).set k (.int .i64 x) from by unfold ints; rw [List.map_set]]
  exact (World.ownsRow.stored h k (.int .i64 x)).1
theorem Mem.setI {Q1 Q2 : List Row} {g n cap : Nat} {l : List Int} (H : Mem w S d c R (Q1 ++ rwI (.slice (some ⟨g, 0, none⟩) n cap) n l :: Q2) X W) (k : Nat) (x : Int) : Mem w S d c R (Q1 ++ rwI (.slice (some ⟨g, 0, none⟩) n cap) n (l.set k x) :: Q2) X (W.setCell ⟨g, k, none⟩ (.int .i64 x)) :=
  H.putQ (grown_set (d := g) W (grown_refl W _) k _) (set_owned (H.q (rwI (.slice (some ⟨g, 0, none⟩) n cap) n l) (by simp)) k x) (.inl rfl)
end
end Go.Proofs.Ytohjinbgbfggcaa
