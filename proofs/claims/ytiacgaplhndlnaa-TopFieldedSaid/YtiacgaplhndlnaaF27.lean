/-
  Parts of the proof, in the order in which they build: EMem, EMemB, SiI.
-/
import Derived.Maps.AppendAt
import Derived.Deep.CutRange
import Derived.Test.YtiacgaplhndlnaaF24
import Derived.Test.YtiacgaplhndlnaaF11
import Derived.Test.YtiacgaplhndlnaaF25
import Derived.Test.YtiacgaplhndlnaaF26
set_option linter.unusedVariables false
set_option linter.unusedSimpArgs false
/-
  What a statement's walk keeps: rows that are only read, rows that are written, boxes.
-/
namespace Go.Proofs.Ytiacgaplhndlnaa
open Go.RowKit Go.Shelf
open Lim

structure Row where
  e : TypeId
  size : Nat
  v : Value
  n : Nat
  xs : List Value
def Row.Owned (r : Row) (W : World) (S : Nat) : Prop := W.ownsRow S r.e r.size r.v r.n r.xs
theorem owned_block {r : Row} {W : World} {S : Nat} (h : r.Owned W S) {k : Nat} (hk : r.v.ownBlock = some k) : S ≤ k ∧ k < W.heap.size ∧ ∃ cs, W.heap[k]? = some (.cells cs r.e (0, 0)) := by
  rcases h.2 with ⟨h1, -⟩ | ⟨g, cap, cur, h1, hB, hg, -⟩
  · rw [h1] at hk; cases hk
  · rw [h1] at hk
    have e : g = k := by simpa [Value.ownBlock] using hk
    subst e
    exact ⟨hB, (Array.getElem?_eq_some_iff.1 hg).1, cur, hg⟩
theorem owned_keep {r : Row} {W W' : World} {S : Nat} (h : r.Owned W S) (hk : ∀ k, r.v.ownBlock = some k → W'.heap[k]? = W.heap[k]?) : r.Owned W' S := by
  refine ⟨h.1, ?_⟩
  rcases h.2 with hn | ⟨g, cap, cur, h1, hB, hg, r'⟩
  · exact .inl hn
  · exact .inr ⟨g, cap, cur, h1, hB, (hk g (by rw [h1]; rfl)).trans hg, r'⟩
def nilRow (e : TypeId) (size : Nat) : Row := ⟨e, size, .slice none 0 0, 0, []⟩
theorem nilRow_owned (e size : Nat) (W : World) (S : Nat) : (nilRow e size).Owned W S := World.ownsRow_nil _ _ _ _
/-- two rows share no memory -/
def Row.Apart (r s : Row) : Prop := ∀ k, r.v.ownBlock = some k → s.v.ownBlock ≠ some k
theorem Row.Apart.symm {r s : Row} (h : r.Apart s) : s.Apart r := fun k h1 h2 => h k h2 h1
/-- from w on nothing below S has been changed; above it lie rows R that are only read, rows Q that are written, boxes X -/
structure Mem (w : World) (S : Nat) (R Q : List Row) (X : List (Nat × Obj)) (W : World) : Prop where
  b : Below S w W
  o : S ≤ W.heap.size
  r : ∀ r ∈ R, r.Owned W S
  q : ∀ r ∈ Q, r.Owned W S
  x : ∀ p ∈ X, S ≤ p.1 ∧ W.heap[p.1]? = some p.2
  xr : ∀ p ∈ X, ∀ r ∈ R, r.v.ownBlock ≠ some p.1
  xq : ∀ p ∈ X, ∀ r ∈ Q, r.v.ownBlock ≠ some p.1
  xx : X.Pairwise (fun p p' => p.1 ≠ p'.1)
  qq : Q.Pairwise Row.Apart
  qr : ∀ q ∈ Q, ∀ r ∈ R, q.Apart r
section
variable {w : World} {S : Nat} {R Q : List Row} {X : List (Nat × Obj)} {W W' : World}
theorem Mem.lt (H : Mem w S R Q X W) {p : Nat × Obj} (h : p ∈ X) : p.1 < W.heap.size := (Array.getElem?_eq_some_iff.1 (H.x p h).2).1
/-- all blocks that are spoken of stay as they are -/
theorem Mem.keep (H : Mem w S R Q X W) (hb : Below S w W') (hs : S ≤ W'.heap.size) (hk : ∀ k, S ≤ k → k < W.heap.size → W'.heap[k]? = W.heap[k]?) : Mem w S R Q X W' :=
  ⟨hb, hs,
   fun r hr => owned_keep (H.r r hr) (fun k h => let h1 := owned_block (H.r r hr) h; hk k h1.1 h1.2.1),
   fun r hr => owned_keep (H.q r hr) (fun k h => let h1 := owned_block (H.q r hr) h; hk k h1.1 h1.2.1),
   fun p hp => ⟨(H.x p hp).1, (hk p.1 (H.x p hp).1 (H.lt hp)).trans (H.x p hp).2⟩, H.xr, H.xq, H.xx, H.qq, H.qr⟩
theorem Mem.grow (H : Mem w S R Q X W) (hb : Below W.heap.size W W') : Mem w S R Q X W' :=
  H.keep (H.b.trans (hb.mono H.o)) (Nat.le_trans H.o hb.size) (fun k _ h2 => hb.block k h2)
theorem Mem.drew (H : Mem w S R Q X W) : Mem w S R Q X W.drew := H.grow (Below.refl _ _).drew
theorem Mem.drewN (H : Mem w S R Q X W) (n : Nat) : Mem w S R Q X (W.drewN n) := H.grow (below_drewN (Below.refl _ _) n)
/-- a row that a call has made -/
theorem Mem.addR (H : Mem w S R Q X W) (hb : Below W.heap.size W W') {r : Row} (hr : r.Owned W' W.heap.size) : Mem w S (r :: R) Q X W' := by
  have H1 := H.grow hb
  refine ⟨H1.b, H1.o, fun q hq => ?_, H1.q, H1.x, fun p hp q hq => ?_, H1.xq, H1.xx, H1.qq, fun q hq s hs => ?_⟩
  · rcases List.mem_cons.1 hq with rfl | hq
    · exact owns_mono hr H.o
    · exact H1.r q hq
  · rcases List.mem_cons.1 hq with rfl | hq
    · intro e
      have h1 := (owned_block hr e).1
      have h2 := H.lt hp
      omega
    · exact H1.xr p hp q hq
  · rcases List.mem_cons.1 hs with rfl | hs
    · intro k h1 h2
      have h3 := (owned_block hr h2).1
      have h4 := (owned_block (H.q q hq) h1).2.1
      omega
    · exact H1.qr q hq s hs
theorem Mem.addQ (H : Mem w S R Q X W) (hb : Below W.heap.size W W') {r : Row} (hr : r.Owned W' W.heap.size) : Mem w S R (r :: Q) X W' := by
  have H1 := H.grow hb
  refine ⟨H1.b, H1.o, H1.r, fun q hq => ?_, H1.x, H1.xr, fun p hp q hq => ?_, H1.xx, List.pairwise_cons.2 ⟨fun s hs k h1 h2 => ?_, H1.qq⟩, fun q hq s hs => ?_⟩
  · rcases List.mem_cons.1 hq with rfl | hq
    · exact owns_mono hr H.o
    · exact H1.q q hq
  · rcases List.mem_cons.1 hq with rfl | hq
    · intro e
      have h1 := (owned_block hr e).1
      have h2 := H.lt hp
      omega
    · exact H1.xq p hp q hq
  · have h3 := (owned_block hr h1).1
    have h4 := (owned_block (H.q s hs) h2).2.1
    omega
  · rcases List.mem_cons.1 hq with rfl | hq
    · intro k h1 h2
      have h3 := (owned_block hr h1).1
      have h4 := (owned_block (H.r s hs) h2).2.1
      omega
    · exact H1.qr q hq s hs
theorem Mem.nilQ (H : Mem w S R Q X W) (e size : Nat) : Mem w S R (nilRow e size :: Q) X W := by
  refine ⟨H.b, H.o, H.r, fun q hq => ?_, H.x, H.xr, fun p hp q hq => ?_, H.xx, List.pairwise_cons.2 ⟨fun s hs k h1 h2 => (by cases h1), H.qq⟩, fun q hq s hs => ?_⟩
  · rcases List.mem_cons.1 hq with rfl | hq
    · exact nilRow_owned _ _ _ _
    · exact H.q q hq
  · rcases List.mem_cons.1 hq with rfl | hq
    · intro e; cases e
    · exact H.xq p hp q hq
  · rcases List.mem_cons.1 hq with rfl | hq
    · intro k h1; cases h1
    · exact H.qr q hq s hs
/-- a box that is laid -/
theorem Mem.lay (H : Mem w S R Q X W) (o : Obj) : Mem w S R Q ((W.heap.size, o) :: X) (W.alloc o) := by
  have H1 := H.grow ((Below.refl _ W).alloc (Nat.le_refl _) o)
  refine ⟨H1.b, H1.o, H1.r, H1.q, fun p hp => ?_, fun p hp r hr => ?_, fun p hp r hr => ?_, List.pairwise_cons.2 ⟨fun p hp e => ?_, H1.xx⟩, H1.qq, H1.qr⟩
  · rcases List.mem_cons.1 hp with rfl | hp
    · exact ⟨H.o, heap_alloc_new W o⟩
    · exact H1.x p hp
  · rcases List.mem_cons.1 hp with rfl | hp
    · intro e
      have := (owned_block (H.r r hr) e).2.1
      exact Nat.lt_irrefl _ this
    · exact H1.xr p hp r hr
  · rcases List.mem_cons.1 hp with rfl | hp
    · intro e
      have := (owned_block (H.q r hr) e).2.1
      exact Nat.lt_irrefl _ this
    · exact H1.xq p hp r hr
  · have h1 := H.lt hp
    have e : W.heap.size = p.1 := e
    omega
/-- a block that is made, as a row -/
theorem Mem.layQ (H : Mem w S R Q X W) (o : Obj) {r : Row} (hr : r.Owned (W.alloc o) W.heap.size) : Mem w S R (r :: Q) X (W.alloc o) :=
  H.addQ ((Below.refl _ W).alloc (Nat.le_refl _) o) hr
theorem Mem.layR (H : Mem w S R Q X W) (o : Obj) {r : Row} (hr : r.Owned (W.alloc o) W.heap.size) : Mem w S (r :: R) Q X (W.alloc o) :=
  H.addR ((Below.refl _ W).alloc (Nat.le_refl _) o) hr
theorem Mem.less (H : Mem w S R Q X W) {R' Q' : List Row} {X' : List (Nat × Obj)} (hR : ∀ r ∈ R', r ∈ R) (hQ : Q'.Sublist Q) (hX : X'.Sublist X) : Mem w S R' Q' X' W :=
  ⟨H.b, H.o, fun r hr => H.r r (hR r hr), fun r hr => H.q r (hQ.subset hr), fun p hp => H.x p (hX.subset hp), fun p hp r hr => H.xr p (hX.subset hp) r (hR r hr), fun p hp r hr => H.xq p (hX.subset hp) r (hQ.subset hr), H.xx.sublist hX, H.qq.sublist hQ, fun q hq r hr => H.qr q (hQ.subset hq) r (hR r hr)⟩
/-- a row that is written becomes one that is only read -/
theorem Mem.freeze {q : Row} (H : Mem w S R (q :: Q) X W) : Mem w S (q :: R) Q X W :=
  ⟨H.b, H.o, fun r hr => by
    rcases List.mem_cons.1 hr with rfl | hr
    · exact H.q _ List.mem_cons_self
    · exact H.r r hr,
   fun r hr => H.q r (List.mem_cons_of_mem _ hr), H.x, fun p hp r hr => by
    rcases List.mem_cons.1 hr with rfl | hr
    · exact H.xq p hp _ List.mem_cons_self
    · exact H.xr p hp r hr,
   fun p hp r hr => H.xq p hp r (List.mem_cons_of_mem _ hr), H.xx, (List.pairwise_cons.1 H.qq).2, fun a ha r hr => by
    rcases List.mem_cons.1 hr with rfl | hr
    · exact ((List.pairwise_cons.1 H.qq).1 a ha).symm
    · exact H.qr a (List.mem_cons_of_mem _ ha) r hr⟩
/-- a row is written, or laid anew -/
theorem Mem.putQ {Q1 Q2 : List Row} {r r' : Row} (H : Mem w S R (Q1 ++ r :: Q2) X W) (hg : W.grownBy W' r.v.ownBlock) (ho : r'.Owned W' S) (hb : r'.v.ownBlock = r.v.ownBlock ∨ ∃ k, r'.v.ownBlock = some k ∧ W.heap.size ≤ k) : Mem w S R (Q1 ++ r' :: Q2) X W' := by
  have hrm : r ∈ Q1 ++ r :: Q2 := by simp
  have hlow : ∀ k, r.v.ownBlock = some k → S ≤ k ∧ k < W.heap.size := fun k h => let h1 := owned_block (H.q r hrm) h; ⟨h1.1, h1.2.1⟩
  have hS := H.o
  have hkeep : ∀ k, k < W.heap.size → r.v.ownBlock ≠ some k → W'.heap[k]? = W.heap[k]? := fun k h1 h2 => hg.block k h1 (fun e => h2 e.symm)
  have hp := List.pairwise_append.1 H.qq
  have hp2 := List.pairwise_cons.1 hp.2.1
  have hne : ∀ s, s ∈ Q1 ∨ s ∈ Q2 → s.Apart r := fun s hs => by
    rcases hs with hs | hs
    · exact hp.2.2 s hs r List.mem_cons_self
    · exact (hp2.1 s hs).symm
  have hmem : ∀ s, s ∈ Q1 ∨ s ∈ Q2 → s ∈ Q1 ++ r :: Q2 := fun s hs => by
    rcases hs with hs | hs
    · exact List.mem_append_left _ hs
    · exact List.mem_append_right _ (List.mem_cons_of_mem _ hs)
  have hsplit : ∀ s, s ∈ Q1 ++ r' :: Q2 → s = r' ∨ (s ∈ Q1 ∨ s ∈ Q2) := fun s hs => by
    rcases List.mem_append.1 hs with h | h
    · exact .inr (.inl h)
    · rcases List.mem_cons.1 h with h | h
      · exact .inl h
      · exact .inr (.inr h)
  -- the new row is apart from what is apart from the old one and old enough
  have hnew : ∀ k, r'.v.ownBlock = some k → k < W.heap.size → r.v.ownBlock = some k := fun k h1 h2 => by
    rcases hb with hb | ⟨j, h3, h4⟩
    · rw [← hb]; exact h1
    · rw [h3] at h1; cases h1; omega
  refine ⟨H.b.trans ?_, Nat.le_trans hS hg.size, fun s hs => ?_, fun s hs => ?_, fun p hp => ?_, H.xr, fun p hp s hs => ?_, H.xx, ?_, fun q hq s hs => ?_⟩
  · exact (Below.refl S W).grown hg H.o (fun k e => by have := hlow k e; omega)
  · exact owned_keep (H.r s hs) (fun k hk => hkeep k (owned_block (H.r s hs) hk).2.1 (fun e => H.qr r hrm s hs k e hk))
  · rcases hsplit s hs with rfl | hs
    · exact ho
    · exact owned_keep (H.q s (hmem s hs)) (fun k hk => hkeep k (owned_block (H.q s (hmem s hs)) hk).2.1 (fun e => hne s hs k hk e))
  · exact ⟨(H.x p hp).1, (hkeep p.1 (H.lt hp) (H.xq p hp r hrm)).trans (H.x p hp).2⟩
  · rcases hsplit s hs with rfl | hs
    · exact fun e => H.xq p hp r hrm (hnew p.1 e (H.lt hp))
    · exact H.xq p hp s (hmem s hs)
  · refine List.pairwise_append.2 ⟨hp.1, List.pairwise_cons.2 ⟨fun s hs k h1 h2 => ?_, hp2.2⟩, fun s hs t ht => ?_⟩
    · have h3 := (owned_block (H.q s (hmem s (.inr hs))) h2).2.1
      exact hp2.1 s hs k (hnew k h1 h3) h2
    · rcases List.mem_cons.1 ht with rfl | ht
      · intro k h1 h2
        have h3 := (owned_block (H.q s (hmem s (.inl hs))) h1).2.1
        exact hne s (.inl hs) k h1 (hnew k h2 h3)
      · exact hp.2.2 s hs t (List.mem_cons_of_mem _ ht)
  · rcases hsplit q hq with rfl | hq
    · intro k h1 h2
      have h3 := (owned_block (H.r s hs) h2).2.1
      exact H.qr r hrm s hs k (hnew k h1 h3) h2
    · exact H.qr q (hmem q hq) s hs
/-- a cell of a box is written -/
theorem Mem.putX {X1 X2 : List (Nat × Obj)} {p : Nat} {cs : Array Value} {t : TypeId} {fr : Nat × Nat} (H : Mem w S R Q (X1 ++ (p, .cells cs t fr) :: X2) W) (j : Nat) (v : Value) : Mem w S R Q (X1 ++ (p, .cells (cs.setIfInBounds j v) t fr) :: X2) (W.setCell ⟨p, j, none⟩ v) := by
  have hm : (p, Obj.cells cs t fr) ∈ X1 ++ (p, Obj.cells cs t fr) :: X2 := by simp
  have hS := H.o
  have hx := H.x _ hm
  have hx1 : S ≤ p := hx.1
  have hkeep : ∀ k, k ≠ p → (W.setCell ⟨p, j, none⟩ v).heap[k]? = W.heap[k]? := fun k hk => Below.heap_setCell W ⟨p, j, none⟩ v k hk
  have hp := List.pairwise_append.1 H.xx
  have hp2 := List.pairwise_cons.1 hp.2.1
  have hx1' : ∀ s, s ∈ X1 → s.1 ≠ p := fun s hs => hp.2.2 s hs _ List.mem_cons_self
  have hsplit : ∀ s, s ∈ X1 ++ (p, Obj.cells (cs.setIfInBounds j v) t fr) :: X2 → s = (p, Obj.cells (cs.setIfInBounds j v) t fr) ∨ (s ∈ X1 ++ (p, Obj.cells cs t fr) :: X2 ∧ s.1 ≠ p) := fun s hs => by
    rcases List.mem_append.1 hs with h | h
    · exact .inr ⟨List.mem_append_left _ h, hp.2.2 s h _ List.mem_cons_self⟩
    · rcases List.mem_cons.1 h with h | h
      · exact .inl h
      · exact .inr ⟨List.mem_append_right _ (List.mem_cons_of_mem _ h), fun e => hp2.1 s h e.symm⟩
  refine ⟨H.b.setCell (p := ⟨p, j, none⟩) (by show S ≤ p; omega) v, by rw [World.size_setCell]; exact hS, fun s hs => owned_keep (H.r s hs) (fun k hk => hkeep k (fun e => by subst e; exact H.xr _ hm s hs hk)), fun s hs => owned_keep (H.q s hs) (fun k hk => hkeep k (fun e => by subst e; exact H.xq _ hm s hs hk)), fun s hs => ?_, fun s hs r hr => ?_, fun s hs r hr => ?_, ?_, H.qq, H.qr⟩
  · rcases hsplit s hs with rfl | ⟨hs, hne⟩
    · exact ⟨hx1, heap_setCell_self v hx.2⟩
    · exact ⟨(H.x s hs).1, (hkeep s.1 hne).trans (H.x s hs).2⟩
  · rcases hsplit s hs with rfl | ⟨hs, hne⟩
    · exact H.xr _ hm r hr
    · exact H.xr s hs r hr
  · rcases hsplit s hs with rfl | ⟨hs, hne⟩
    · exact H.xq _ hm r hr
    · exact H.xq s hs r hr
  · exact List.pairwise_append.2 ⟨hp.1, List.pairwise_cons.2 ⟨fun s hs => hp2.1 s hs, hp2.2⟩, fun s hs t ht => by
      rcases List.mem_cons.1 ht with rfl | ht
      · exact hx1' s hs
      · exact hp.2.2 s hs t (List.mem_cons_of_mem _ ht)⟩
end
def rwI (v : Value) (n : Nat) (l : List Int) : Row := ⟨3, 1, v, n, ints l⟩
theorem row_form {W : World} {r : Row} {S : Nat} (h : r.Owned W S) : ∃ a cap, r.v = .slice a r.n cap := by
  rcases h.2 with ⟨h1, h2⟩ | ⟨g, cap, cur, h1, -⟩
  · rw [h1, h2]; exact ⟨_, _, rfl⟩
  · exact ⟨_, _, h1⟩
theorem form_pos {W : World} {r : Row} {S : Nat} (h : r.Owned W S) (hn : 0 < r.n) : ∃ g cap, r.v = .slice (some ⟨g, 0, none⟩) r.n cap := by
  rcases h.2 with ⟨h1, h2⟩ | ⟨g, cap, cur, h1, -⟩
  · omega
  · exact ⟨g, cap, h1⟩
theorem row_cell {W : World} {r : Row} {S g n cap : Nat} (h : r.Owned W S) (hv : r.v = .slice (some ⟨g, 0, none⟩) n cap) {j : Nat} {u : Value} (hj : r.xs[j]? = some u) : W.cell? ⟨g, j, none⟩ = some u := by
  have := World.ownsRow.cells h (g := g) (by rw [hv]; rfl) j u hj
  rw [Addr.add_mid, Nat.zero_add] at this
  exact this
section
variable {w : World} {S : Nat} {R Q : List Row} {X : List (Nat × Obj)} {W W' : World}
theorem Mem.own (H : Mem w S R Q X W) {r : Row} (h : r ∈ R ∨ r ∈ Q) : r.Owned W S := h.elim (H.r r) (H.q r)
theorem Mem.rsI (H : Mem w S R Q X W) {v : Value} {n : Nat} {l : List Int} (h : rwI v n l ∈ R ∨ rwI v n l ∈ Q) (hn : l.length = n) : RS W.heap.size W v l.length (ints l) := by subst hn; exact RS.of_owns (H.own h)
theorem Mem.cellI (H : Mem w S R Q X W) {g n cap : Nat} {l : List Int} (h : rwI (.slice (some ⟨g, 0, none⟩) n cap) n l ∈ R ∨ rwI (.slice (some ⟨g, 0, none⟩) n cap) n l ∈ Q) {j : Nat} (hj : j < l.length) : W.cell? ⟨g, j, none⟩ = some (.int .i64 (l.getD j 0)) :=
  row_cell (H.own h) rfl (by show (ints l)[j]? = _; rw [ints_at' l j hj, List.getD_eq_getElem?_getD])
/-- a number is written into a row -/
theorem set_owned {S g n cap : Nat} {e : TypeId} {l : List Int} (h : (⟨e, 1, .slice (some ⟨g, 0, none⟩) n cap, n, ints l⟩ : Row).Owned W S) (k : Nat) (x : Int) : (⟨e, 1, .slice (some ⟨g, 0, none⟩) n cap, n, ints (l.set k x)⟩ : Row).Owned (W.setCell ⟨g, k, none⟩ (.int .i64 x)) S := by
  show World.ownsRow _ _ _ _ _ _ (ints (l.set k x))
  rw [show ints (l.set k x) = (ints l).set k (.int .i64 x) from by unfold ints; rw [List.map_set]]
  exact (World.ownsRow.stored h k (.int .i64 x)).1
theorem Mem.setI {Q1 Q2 : List Row} {g n cap : Nat} {l : List Int} (H : Mem w S R (Q1 ++ rwI (.slice (some ⟨g, 0, none⟩) n cap) n l :: Q2) X W) (k : Nat) (x : Int) : Mem w S R (Q1 ++ rwI (.slice (some ⟨g, 0, none⟩) n cap) n (l.set k x) :: Q2) X (W.setCell ⟨g, k, none⟩ (.int .i64 x)) :=
  H.putQ (grown_set (d := g) W (grown_refl W _) k _) (set_owned (H.q (rwI (.slice (some ⟨g, 0, none⟩) n cap) n l) (by simp)) k x) (.inl rfl)
end
def onR (b : Bool) (r : Row) : List Row := if b then [r] else []
def onX (b : Bool) (p : Nat) (o : Obj) : List (Nat × Obj) := if b then [(p, o)] else []
theorem onR_no {b : Bool} (h : b = false) (r : Row) : onR b r = [] := by rw [h]; rfl
theorem onR_yes {b : Bool} (h : b = true) (r : Row) : onR b r = [r] := by rw [h]; rfl
theorem onX_no {b : Bool} (h : b = false) (p : Nat) (o : Obj) : onX b p o = [] := by rw [h]; rfl
theorem onX_yes {b : Bool} (h : b = true) (p : Nat) (o : Obj) : onX b p o = [(p, o)] := by rw [h]; rfl
section
variable {w : World} {S : Nat} {R Q : List Row} {X : List (Nat × Obj)} {W W' : World}
theorem Mem.permQ {Q' : List Row} (H : Mem w S R Q X W) (h : Q.Perm Q') : Mem w S R Q' X W :=
  ⟨H.b, H.o, H.r, fun r hr => H.q r (h.mem_iff.2 hr), H.x, H.xr, fun p hp r hr => H.xq p hp r (h.mem_iff.2 hr), H.xx, h.pairwise H.qq (fun hab => hab.symm), fun q hq r hr => H.qr q (h.mem_iff.2 hq) r hr⟩
theorem Mem.permX {X' : List (Nat × Obj)} (H : Mem w S R Q X W) (h : X.Perm X') : Mem w S R Q X' W :=
  ⟨H.b, H.o, H.r, H.q, fun p hp => H.x p (h.mem_iff.2 hp), fun p hp => H.xr p (h.mem_iff.2 hp), fun p hp => H.xq p (h.mem_iff.2 hp), h.pairwise H.xx (fun hab => Ne.symm hab), H.qq, H.qr⟩
theorem Mem.insQ {Q1 Q2 : List Row} (H : Mem w S R (Q1 ++ Q2) X W) (hb : Below W.heap.size W W') {r : Row} (hr : r.Owned W' W.heap.size) : Mem w S R (Q1 ++ r :: Q2) X W' :=
  (H.addQ hb hr).permQ List.perm_middle.symm
theorem Mem.insR {R1 R2 : List Row} (H : Mem w S (R1 ++ R2) Q X W) (hb : Below W.heap.size W W') {r : Row} (hr : r.Owned W' W.heap.size) : Mem w S (R1 ++ r :: R2) Q X W' :=
  (H.addR hb hr).less (fun _ h => List.perm_middle.mem_iff.1 h) (List.Sublist.refl _) (List.Sublist.refl _)
theorem Mem.insX {X1 X2 : List (Nat × Obj)} (H : Mem w S R Q (X1 ++ X2) W) (o : Obj) : Mem w S R Q (X1 ++ (W.heap.size, o) :: X2) (W.alloc o) :=
  (H.lay o).permX List.perm_middle.symm
end
section
variable {w : World} {S : Nat} {R Q : List Row} {X : List (Nat × Obj)} {W W' : World}
theorem Mem.addQs (H : Mem w S R Q X W) (hb : Below W.heap.size W W') {P : List Row} (hP : ∀ r ∈ P, r.Owned W' W.heap.size) (hPP : P.Pairwise Row.Apart) : Mem w S R (P ++ Q) X W' := by
  have H1 := H.grow hb
  refine ⟨H1.b, H1.o, H1.r, fun q hq => ?_, H1.x, H1.xr, fun p hp q hq => ?_, H1.xx, List.pairwise_append.2 ⟨hPP, H1.qq, fun q hq s hs k h1 h2 => ?_⟩, fun q hq s hs => ?_⟩
  · rcases List.mem_append.1 hq with hq | hq
    · exact owns_mono (hP q hq) H.o
    · exact H1.q q hq
  · rcases List.mem_append.1 hq with hq | hq
    · intro e
      have h1 := (owned_block (hP q hq) e).1
      have h2 := H.lt hp
      omega
    · exact H1.xq p hp q hq
  · have h3 := (owned_block (hP q hq) h1).1
    have h4 := (owned_block (H.q s hs) h2).2.1
    omega
  · rcases List.mem_append.1 hq with hq | hq
    · intro k h1 h2
      have h3 := (owned_block (hP q hq) h1).1
      have h4 := (owned_block (H.r s hs) h2).2.1
      omega
    · exact H1.qr q hq s hs
theorem Mem.addRs (H : Mem w S R Q X W) (hb : Below W.heap.size W W') {P : List Row} (hP : ∀ r ∈ P, r.Owned W' W.heap.size) : Mem w S (P ++ R) Q X W' := by
  have H1 := H.grow hb
  refine ⟨H1.b, H1.o, fun q hq => ?_, H1.q, H1.x, fun p hp q hq => ?_, H1.xq, H1.xx, H1.qq, fun q hq s hs => ?_⟩
  · rcases List.mem_append.1 hq with hq | hq
    · exact owns_mono (hP q hq) H.o
    · exact H1.r q hq
  · rcases List.mem_append.1 hq with hq | hq
    · intro e
      have h1 := (owned_block (hP q hq) e).1
      have h2 := H.lt hp
      omega
    · exact H1.xr p hp q hq
  · rcases List.mem_append.1 hs with hs | hs
    · intro k h1 h2
      have h3 := (owned_block (hP s hs) h2).1
      have h4 := (owned_block (H.q q hq) h1).2.1
      omega
    · exact H1.qr q hq s hs
/-- two rows of different types, in the middle -/
theorem Mem.assocX {X1 X2 X3 : List (Nat × Obj)} (H : Mem w S R Q (X1 ++ (X2 ++ X3)) W) : Mem w S R Q ((X1 ++ X2) ++ X3) W := by rw [List.append_assoc]; exact H
theorem Mem.unassocX {X1 X2 X3 : List (Nat × Obj)} (H : Mem w S R Q ((X1 ++ X2) ++ X3) W) : Mem w S R Q (X1 ++ (X2 ++ X3)) W := by rw [← List.append_assoc]; exact H
theorem Mem.assocQ {X1 X2 X3 : List Row} (H : Mem w S R (X1 ++ (X2 ++ X3)) X W) : Mem w S R ((X1 ++ X2) ++ X3) X W := by rw [List.append_assoc]; exact H
theorem Mem.unassocQ {X1 X2 X3 : List Row} (H : Mem w S R ((X1 ++ X2) ++ X3) X W) : Mem w S R (X1 ++ (X2 ++ X3)) X W := by rw [← List.append_assoc]; exact H
end

def onL (b : Bool) (l : List Row) : List Row := if b then l else []
theorem onL_no {b : Bool} (h : b = false) (l : List Row) : onL b l = [] := by rw [h]; rfl
theorem onL_yes {b : Bool} (h : b = true) (l : List Row) : onL b l = l := by rw [h]; rfl
theorem Mem.nil {w W : World} (hb : Below w.heap.size w W) : Mem w w.heap.size [] [] [] W :=
  ⟨hb, hb.size, fun _ h => absurd h List.not_mem_nil, fun _ h => absurd h List.not_mem_nil, fun _ h => absurd h List.not_mem_nil, fun _ h => absurd h List.not_mem_nil, fun _ h => absurd h List.not_mem_nil, List.Pairwise.nil, List.Pairwise.nil, fun _ h => absurd h List.not_mem_nil⟩
section
variable {w : World} {S : Nat} {R Q : List Row} {X : List (Nat × Obj)} {W W' : World}
/-- the same, looked at from another world on: nothing above S was changed since -/
theorem Mem.rebase (H : Mem w S R Q X W) (hk : ∀ k, S ≤ k → k < W.heap.size → W'.heap[k]? = W.heap[k]?) (hs : W.heap.size ≤ W'.heap.size) : Mem W' S R Q X W' :=
  ⟨Below.refl _ _, Nat.le_trans H.o hs,
   fun r hr => owned_keep (H.r r hr) (fun k h => let h1 := owned_block (H.r r hr) h; hk k h1.1 h1.2.1),
   fun r hr => owned_keep (H.q r hr) (fun k h => let h1 := owned_block (H.q r hr) h; hk k h1.1 h1.2.1),
   fun p hp => ⟨(H.x p hp).1, (hk p.1 (H.x p hp).1 (H.lt hp)).trans (H.x p hp).2⟩, H.xr, H.xq, H.xx, H.qq, H.qr⟩
theorem Mem.dealt (H : Mem w S R Q X W) {d c : Nat} (hd : Dealt d c W W') (h : d < S) : Mem W' S R Q X W' :=
  H.rebase (fun k h1 h2 => hd.2.1.block k h2 (fun e => by cases e; omega)) hd.2.1.size
theorem Mem.insQs {Q1 Q2 P : List Row} (H : Mem w S R (Q1 ++ Q2) X W) (hb : Below W.heap.size W W') (hP : ∀ r ∈ P, r.Owned W' W.heap.size) (hPP : P.Pairwise Row.Apart) : Mem w S R (Q1 ++ (P ++ Q2)) X W' :=
  (H.addQs hb hP hPP).permQ (List.perm_append_comm_assoc _ _ _)
theorem Mem.put2 {X1 X2 : List (Nat × Obj)} {p : Nat} {u0 u1 : Value} {t : TypeId} (H : Mem w S R Q (X1 ++ (p, .cells #[u0, u1] t (0, 0)) :: X2) W) (a b : Value) :
    Mem w S R Q (X1 ++ (p, .cells #[a, b] t (0, 0)) :: X2) ((W.setCell ⟨p, 0, none⟩ a).setCell ⟨p, 1, none⟩ b) := (H.putX 0 a).putX 1 b
theorem Mem.put4 {X1 X2 : List (Nat × Obj)} {p : Nat} {u0 u1 u2 u3 : Value} {t : TypeId} (H : Mem w S R Q (X1 ++ (p, .cells #[u0, u1, u2, u3] t (0, 0)) :: X2) W) (a b e f : Value) :
    Mem w S R Q (X1 ++ (p, .cells #[a, b, e, f] t (0, 0)) :: X2) ((((W.setCell ⟨p, 0, none⟩ a).setCell ⟨p, 1, none⟩ b).setCell ⟨p, 2, none⟩ e).setCell ⟨p, 3, none⟩ f) :=
  (((H.putX 0 a).putX 1 b).putX 2 e).putX 3 f
theorem Mem.box2 (H : Mem w S R Q X W) {q : Nat} {a b : Value} {t : TypeId} (h : (q, Obj.cells #[a, b] t (0, 0)) ∈ X) : W.cell? ⟨q, 0, none⟩ = some a ∧ W.cell? ⟨q, 1, none⟩ = some b ∧ W.frozen? ⟨q, 0, none⟩ = false ∧ W.frozen? ⟨q, 1, none⟩ = false := by
  have h1 := (H.x _ h).2
  refine ⟨?_, ?_, ?_, ?_⟩ <;> simp [World.cell?, World.frozen?, h1]
theorem Mem.box4 (H : Mem w S R Q X W) {q : Nat} {a b e f : Value} {t : TypeId} (h : (q, Obj.cells #[a, b, e, f] t (0, 0)) ∈ X) : W.cell? ⟨q, 0, none⟩ = some a ∧ W.cell? ⟨q, 1, none⟩ = some b ∧ W.cell? ⟨q, 2, none⟩ = some e ∧ W.cell? ⟨q, 3, none⟩ = some f := by
  have h1 := (H.x _ h).2
  refine ⟨?_, ?_, ?_, ?_⟩ <;> simp [World.cell?, h1]
theorem Mem.frz4 (H : Mem w S R Q X W) {q : Nat} {a b e f : Value} {t : TypeId} (h : (q, Obj.cells #[a, b, e, f] t (0, 0)) ∈ X) : W.frozen? ⟨q, 0, none⟩ = false ∧ W.frozen? ⟨q, 1, none⟩ = false ∧ W.frozen? ⟨q, 2, none⟩ = false ∧ W.frozen? ⟨q, 3, none⟩ = false := by
  have h1 := (H.x _ h).2
  refine ⟨?_, ?_, ?_, ?_⟩ <;> simp [World.frozen?, h1]
theorem one_owned (W : World) (x : Int) : (rwI (.slice (some ⟨W.heap.size, 0, none⟩) 1 1) 1 [x]).Owned (W.alloc (.cells #[.int .i64 x] 3)) W.heap.size :=
  ⟨rfl, .inr ⟨W.heap.size, 1, #[.int .i64 x], rfl, Nat.le_refl _, heap_alloc_new W _, Nat.le_refl _, by unfold maxLen; omega, rfl, rfl⟩⟩
/-- a number more behind a row -/
theorem Mem.push {Q1 Q2 : List Row} {v v' : Value} {n : Nat} {l : List Int} {x : Int} (H : Mem w S R (Q1 ++ rwI v n l :: Q2) X W) (ho : W'.ownsRow S 3 1 v' (n + 1) (ints l ++ [.int .i64 x])) (hg : W.grownBy W' v.ownBlock) (hb : v'.ownBlock = v.ownBlock ∨ v'.ownBlock = some W.heap.size) : Mem w S R (Q1 ++ rwI v' (n + 1) (l ++ [x]) :: Q2) X W' :=
  H.putQ (r' := rwI v' (n + 1) (l ++ [x])) hg (by
    show W'.ownsRow S 3 1 v' (n + 1) (ints (l ++ [x]))
    simpa [ints] using ho) (hb.imp id fun h => ⟨_, h, Nat.le_refl _⟩)
theorem row_frz {W : World} {r : Row} {S g n cap : Nat} (h : r.Owned W S) (hv : r.v = .slice (some ⟨g, 0, none⟩) n cap) (j : Nat) : W.frozen? ⟨g, j, none⟩ = false := by
  obtain ⟨-, -, cs, h3⟩ := owned_block h (k := g) (by rw [hv]; rfl)
  simp [World.frozen?, h3]
end
theorem make_upon {F : Fence} {n : Nat} {P : Program} {Q : Exit → Act → World → Prop} {o : Oper} {a : Act} {K : Act → World → Prop} {w w' : World} {t : TypeId} {l c : Operand} {lv cv v : Value} (hop : o.op = Op.makeSlice t l c)
    (hl : a.eval l = lv) (hc : a.eval c = cv) (h : (Instr.makeSlice t lv cv).run P w = .ok v w') (hK : K (a.put o.dst v) w') : o.uponIn F n P a K Q ((execOp a.eval o).run P w) := by
  simp [execOp, hop, hl, hc, h, Result.andThen, Oper.uponIn]
  exact hK
theorem zeros_ints (n : Nat) : (madeCells (Value.int .i64 0).cells (n * 1)).toList = ints (List.replicate n 0) := by
  rw [Nat.mul_one]
  show (madeCells #[Value.int .i64 0] n).toList = _
  rw [toList_madeCells_one]
  simp [ints]
def zeros (n : Nat) : List Int := List.replicate n 0
theorem zeros_len (n : Nat) : (zeros n).length = n := List.length_replicate
/-- a list of zeros is made -/
theorem make_zeros {W : World} {i : TypeInfo} (hi : Try.prog.info? 3 = some i ∧ i.zero = some (.int .i64 0) ∧ i.size = 1 ∧ i.bytes = 8) {n : Nat} (hn : n ≤ 1000) :
    ∃ v W', (Instr.makeSlice 23 (.int .i64 (n : Int)) (.int .i64 (n : Int))).run Try.prog W = .ok v W' ∧ (rwI v n (zeros n)).Owned W' W.heap.size ∧ Below W.heap.size W W' ∧ v.oneCell' = true := by
  obtain ⟨W', h1, h2, h3⟩ := run_make_full (P := Try.prog) W W.heap.size 23 3 i (.int .i64 0) 1 Try.underlying23 hi.1 hi.2.1 hi.2.2.1 .i64 .i64 n (by rw [hi.2.2.2]; omega) (by unfold maxLen; omega) (Nat.le_refl _)
  rw [zeros_ints] at h2
  exact ⟨_, W', h1, h2, ⟨h3.os, h3.tape, h3.output, h3.size, fun k hk => h3.block k hk (fun e => by cases e)⟩, rfl⟩
end Go.Proofs.Ytiacgaplhndlnaa
/-
  More on what a statement's walk keeps.
-/
namespace Go.Proofs.Ytiacgaplhndlnaa
open Go.RowKit Go.Shelf
open Lim

section
variable {w : World} {S : Nat} {R Q : List Row} {X : List (Nat × Obj)} {W W' : World}
theorem Mem.rowsR (hb : Below S w W) (hS : S ≤ W.heap.size) (hR : ∀ r ∈ R, r.Owned W S) : Mem w S R [] [] W :=
  ⟨hb, hS, hR, fun _ h => absurd h List.not_mem_nil, fun _ h => absurd h List.not_mem_nil, fun _ h => absurd h List.not_mem_nil, fun _ h => absurd h List.not_mem_nil, List.Pairwise.nil, List.Pairwise.nil, fun _ h => absurd h List.not_mem_nil⟩
theorem Row.three {W : World} {a b c : Row} (ha : a.Owned W S) (hb : b.Owned W S) (hc : c.Owned W S) : ∀ r ∈ [a, b, c], r.Owned W S := fun r hr => by
  rcases List.mem_cons.1 hr with rfl | hr
  · exact ha
  · rcases List.mem_cons.1 hr with rfl | hr
    · exact hb
    · rw [List.mem_singleton.1 hr]; exact hc
theorem Mem.one {r : Row} (h : r.Owned W S) : ∀ q ∈ [r], q.Owned W S := fun q hq => by rw [List.mem_singleton.1 hq]; exact h
end
end Go.Proofs.Ytiacgaplhndlnaa
/-
  The memory of a call that deals of a deck and lays rows and boxes; True of law 11.
-/
namespace Go.Proofs.Ytiacgaplhndlnaa
open Go.RowKit Go.Shelf
open Lim

attribute [local go_sem] Oper.semAt_some

/-- rows Q and boxes X are laid since w0; besides only the deck d is changed -/
structure DkM (cv : Value) (dl : List Int) (w0 : World) (d c : Nat) (Q : List Row) (X : List (Nat × Obj)) (W : World) : Prop where
  me : Mem W w0.heap.size [] Q X W
  dk : DeckF cv dl W d c
  b : Sep (fun k => k = d) w0 W
  lt : d < w0.heap.size
section
variable {cv : Value} {dl : List Int} {w0 W W' : World} {d c : Nat} {Q : List Row} {X : List (Nat × Obj)}
theorem DkM.start (h : DeckF cv dl W d c) : DkM cv dl W d c [] [] W := ⟨Mem.rowsR (Below.refl _ W) (Nat.le_refl _) (fun _ h => absurd h List.not_mem_nil), h, Sep.refl W, h.lt⟩
theorem DkM.deckB (h : DkM cv dl w0 d c Q X W) (hs : ∀ k, k < w0.heap.size → W'.heap[k]? = W.heap[k]?) (hb : Below w0.heap.size W W') : DeckF cv dl W' d c := by
  exact h.dk.keep (hs d h.lt) (hb.mono (Nat.le_of_lt h.lt))
theorem DkM.below (h : DkM cv dl w0 d c Q X W) (hb : Below W.heap.size W W') : DkM cv dl w0 d c Q X W' :=
  ⟨h.me.rebase (fun k _ h2 => hb.block k h2) hb.size, h.deckB (fun k hk => hb.block k (Nat.lt_of_lt_of_le hk h.b.size)) (hb.mono h.b.size), h.b.trans (Sep.of_below hb), h.lt⟩
theorem DkM.dealt (h : DkM cv dl w0 d c Q X W) (hd : DealtF cv dl d c W W') : DkM cv dl w0 d (c + 1) Q X W' :=
  ⟨h.me.dealt hd.plain h.lt, hd.1, h.b.trans ((Sep.of_grown hd.2.1).mono (fun k e => by cases e; rfl)), h.lt⟩
theorem DkM.lay (h : DkM cv dl w0 d c Q X W) (o : Obj) : DkM cv dl w0 d c Q ((W.heap.size, o) :: X) (W.alloc o) :=
  have hb := (Below.refl _ W).alloc (Nat.le_refl _) o
  have h1 := h.below hb
  ⟨(h.me.lay o).rebase (fun _ _ _ => rfl) (Nat.le_refl _), h1.dk, h1.b, h1.lt⟩
theorem DkM.nilQ (h : DkM cv dl w0 d c Q X W) (e size : Nat) : DkM cv dl w0 d c (nilRow e size :: Q) X W := ⟨h.me.nilQ _ _, h.dk, h.b, h.lt⟩
theorem DkM.more (h : DkM cv dl w0 d c Q X W) {c' : Nat} (hc : c ≤ c') : DkM cv dl w0 d c' Q X W := by
  exact ⟨h.me, h.dk.more hc, h.b, h.lt⟩
theorem DkM.less (h : DkM cv dl w0 d c Q X W) {Q' : List Row} {X' : List (Nat × Obj)} (hQ : Q'.Sublist Q) (hX : X'.Sublist X) : DkM cv dl w0 d c Q' X' W := ⟨h.me.less (fun _ h => h) hQ hX, h.dk, h.b, h.lt⟩
theorem DkM.putQ {Q1 Q2 : List Row} {r r' : Row} (h : DkM cv dl w0 d c (Q1 ++ r :: Q2) X W) (hg : W.grownBy W' r.v.ownBlock) (ho : r'.Owned W' w0.heap.size) (hb : r'.v.ownBlock = r.v.ownBlock ∨ ∃ k, r'.v.ownBlock = some k ∧ W.heap.size ≤ k) : DkM cv dl w0 d c (Q1 ++ r' :: Q2) X W' := by
  have hlow : ∀ k, r.v.ownBlock = some k → w0.heap.size ≤ k := fun k e => (owned_block (h.me.q r (by simp)) e).1
  have hs := Sep.of_grown hg
  have hb1 : Below w0.heap.size W W' := hs.below h.b.size hlow
  exact ⟨(h.me.putQ hg ho hb).rebase (fun _ _ _ => rfl) (Nat.le_refl _), h.deckB (fun k hk => hb1.block k hk) hb1, h.b.from hs (fun k hk e => by have := hlow k e; omega), h.lt⟩
theorem DkM.putX {X1 X2 : List (Nat × Obj)} {p : Nat} {cs : Array Value} {t : TypeId} {fr : Nat × Nat} (h : DkM cv dl w0 d c Q (X1 ++ (p, .cells cs t fr) :: X2) W) (j : Nat) (v : Value) : DkM cv dl w0 d c Q (X1 ++ (p, .cells (cs.setIfInBounds j v) t fr) :: X2) (W.setCell ⟨p, j, none⟩ v) := by
  have hp : w0.heap.size ≤ p := (h.me.x (p, .cells cs t fr) (by simp)).1
  have hs := Sep.set W p j v
  have hb1 : Below w0.heap.size W (W.setCell ⟨p, j, none⟩ v) := hs.below h.b.size (fun k e => by rw [e]; exact hp)
  exact ⟨(h.me.putX j v).rebase (fun _ _ _ => rfl) (Nat.le_refl _), h.deckB (fun k hk => hb1.block k hk) hb1, h.b.from hs (fun k hk e => by rw [e] at hk; omega), h.lt⟩
end
/-- what True answers -/
def TrueAns (cv : Value) (dl : List Int) (f : Fil11) (d c : Nat) (w : World) (e : Ending) (w' : World) : Prop :=
  ∃ v T, e = .returned v ∧ f.Is T ∧ w'.ownsRow w.heap.size 3 1 v T.length (ints T) ∧ DeckF cv dl w' d (c + f.n) ∧ Sep (fun k => k = d) w w'
set_option maxRecDepth 20000 in
set_option maxHeartbeats 4000000 in
theorem true_any {cv : Value} {dl : List Int} {B pc d c : Nat} {pa : Option Addr} {f : Fil11} {w : World} (h : f.Ok) (hdk : DeckF cv dl w d c) (hc : c < 100000) (hv : ∀ W, Sep (fun k => k = d) w W → RS B W (.slice pa f.n pc) f.n (paps f.P)) :
    Calls Try.prog 24 #[.pointer (some ⟨d, 0, none⟩), .agg #[.int .i64 f.years, .int .i64 f.gap, .slice pa f.n pc]] w fun e w' => TrueAns cv dl f d c w e w' := by
  have HF := Lib.hid h
  have HV := Lib.hid hv
  have hn16 : f.n ≤ 16 := h.n
  have hn16' : (f.n : Int) ≤ 16 := by omega
  have H0 : Hid (DkM cv dl w d c [rwI (.slice none 0 0) 0 []] [(w.heap.size, .cells #[.int .i64 f.years, .int .i64 f.gap, .slice pa f.n pc] 69 (0, 0))] (w.alloc (.cells #[.int .i64 f.years, .int .i64 f.gap, .slice pa f.n pc] 69))) := Lib.hid (((DkM.start hdk).lay (.cells #[.int .i64 f.years, .int .i64 f.gap, .slice pa f.n pc] 69 (0, 0))).nilQ 3 1)
  have c2 : (w.alloc (.cells #[.int .i64 f.years, .int .i64 f.gap, .slice pa f.n pc] 69)).cell? ⟨w.heap.size, 2, none⟩ = some (.slice pa f.n pc) := by simp [go_sem]
  obtain ⟨i0, hi0, hz0, hz1, hz2⟩ := info_parts Try.infoInt
  have HI0 := Lib.hid (And.intro hi0 (And.intro hz0 (And.intro hz1 hz2)))
  clear h hdk hv hi0 hz0 hz1 hz2
  go_enter Try.func24, Try.ntmps24
  generalize hW : w.alloc (.cells #[.int .i64 f.years, .int .i64 f.gap, .slice pa f.n pc] 69) = w1 at H0 c2
  go_wp2_with fail
  clear c2
  go_loopw [5, 11] (fun v iv W => ∃ (i : Nat) (T : List Int), i ≤ f.n ∧ iv = .int .i64 i ∧ Hid (DkM cv dl w d (c + i) [rwI v T.length T] [(w.heap.size, .cells #[.int .i64 f.years, .int .i64 f.gap, .slice pa f.n pc] 69 (0, 0))] W ∧ T.length = i ∧ ∀ k, k < i → (f.at k).lo ≤ T.getD k 0 ∧ T.getD k 0 ≤ (f.at k).hi)) (fun _ iv _ => f.n - (intOf iv).toNat)
  case atStart => exact ⟨0, [], Nat.zero_le _, rfl, Lib.hid ⟨H0.out, rfl, fun k hk => by omega⟩⟩
  case round =>
    clear H0
    obtain ⟨i, T, hi, rfl, hI⟩ := hrel
    obtain ⟨va, vc, ev⟩ : ∃ a cap, u5 = .slice a T.length cap := row_form (r := rwI u5 T.length T) (hI.out.1.me.q _ (List.mem_singleton.2 rfl))
    subst ev
    by_cases hlt : i < f.n
    · have hlt' : (i : Int) < f.n := by omega
      obtain ⟨pb, po, cap, e, s0, s1, s2⟩ := pap_cells (HV.out wr hI.out.1.b) hlt
      simp only [Value.slice.injEq, true_and] at e
      obtain ⟨rfl, rfl⟩ := e
      obtain ⟨s, hs⟩ : ∃ s, s = (f.at i).s := ⟨_, rfl⟩
      obtain ⟨lo, hlo⟩ : ∃ s, s = (f.at i).lo := ⟨_, rfl⟩
      obtain ⟨hh, hhi⟩ : ∃ s, s = (f.at i).hi := ⟨_, rfl⟩
      have h1 := HF.out.lo i hlt
      have h2 := HF.out.hi i hlt
      rw [← hs] at s0
      rw [← hlo] at s1 h1 h2
      rw [← hhi] at s2 h2
      have HLH : Hid (lo = (f.at i).lo ∧ hh = (f.at i).hi) := Lib.hid ⟨hlo, hhi⟩
      have h3 := hI.out.1.below ((Below.refl _ wr).alloc (Nat.le_refl _) (.cells #[.int .i64 s, .int .i64 lo, .int .i64 hh] 82))
      have CB := Lib.hid (deckF_between (a := lo) (b := hh) h3.dk (by omega) (by omega) (by omega) h2.1)
      have HM3 := Lib.hid h3
      have b1 : (wr.alloc (.cells #[.int .i64 s, .int .i64 lo, .int .i64 hh] 82)).cell? ⟨wr.heap.size, 1, none⟩ = some (.int .i64 lo) := by simp [go_sem]
      have b2 : (wr.alloc (.cells #[.int .i64 s, .int .i64 lo, .int .i64 hh] 82)).cell? ⟨wr.heap.size, 2, none⟩ = some (.int .i64 hh) := by simp [go_sem]
      have HTL := Lib.hid hI.out.2
      have hTl : T.length ≤ 16 := by have := hI.out.2.1; omega
      clear h1 h2 h3 hs hlo hhi hI
      go_upto_region 5 with (fail)
      generalize wr.alloc (.cells #[.int .i64 s, .int .i64 lo, .int .i64 hh] 82) = w3 at CB HM3 b1 b2 ⊢
      clear s0 s1 s2
      go_wp2_with fail
      refine CB.out.mono ?_
      rintro e w4 ⟨x, rfl, hx, hdl⟩
      have HM4 := Lib.hid (HM3.out.dealt hdl)
      have HX := Lib.hid hx
      clear hdl hx CB HM3 b1 b2
      have HMB := Lib.hid (HM4.out.below ((Below.refl _ w4).alloc (Nat.le_refl _) (.cells #[.int .i64 x] 3)))
      have HOX : Hid ((w4.alloc (.cells #[.int .i64 x] 3)).ownsRow w.heap.size 3 1 (.slice va T.length vc) T.length (ints T)) := Lib.hid (HMB.out.me.q (rwI (.slice va T.length vc) T.length T) (List.mem_singleton.2 rfl))
      go_wp2_with (at_builtin; refine wpList_append_own_at _ rfl _ _ 23 rfl w.heap.size 3 i0 (.int .i64 0) 1 8 Try.underlying23 HI0.out.1 HI0.out.2.1 HI0.out.2.2.1 HI0.out.2.2.2 rfl (by decide) _ _ _ rfl HOX.out ⟨w4.heap.size, 0, none⟩ 1 1 [.int .i64 x] rfl rfl (cell_one_new _ _ _) (by simp [Value.oneCell']) (by unfold maxLen; omega) (by omega) HMB.out.me.o ?_; intro v10 w10 hown8 hgrow _ hat; have HM10 : Hid (DkM cv dl w d (c + i + 1) [rwI v10 (T ++ [x]).length (T ++ [x])] [(w.heap.size, .cells #[.int .i64 f.years, .int .i64 f.gap, .slice (some ⟨pb, po, none⟩) f.n pc] 69 (0, 0))] w10) := Lib.hid (HMB.out.putQ (Q1 := []) (r' := rwI v10 (T ++ [x]).length (T ++ [x])) hgrow (by { show w10.ownsRow w.heap.size 3 1 v10 (T ++ [x]).length (ints (T ++ [x])); rw [List.length_append]; simpa [ints] using hown8 }) (hat.imp id fun h => ⟨_, h, Nat.le_refl _⟩)); clear hown8 hgrow hat)
      go_roundw
      case rel => exact ⟨i + 1, T ++ [x], by omega, by go_num, Lib.hid ⟨HM10.out, by rw [List.length_append, HTL.out.1]; rfl, fun k hk => by
        by_cases e : k = i
        · subst e
          have e2 : (T ++ [x]).getD k 0 = x := by rw [← HTL.out.1]; simp
          rw [e2, ← HLH.out.1, ← HLH.out.2]; exact HX.out
        · have e2 : (T ++ [x]).getD k 0 = T.getD k 0 := by
            rw [List.getD_eq_getElem?_getD, List.getD_eq_getElem?_getD, List.getElem?_append_left (by rw [HTL.out.1]; omega)]
          rw [e2]; exact HTL.out.2 k (by omega)⟩⟩
      case measure => simp [intOf]; omega
    · have HIN : Hid (i = f.n) := Lib.hid (by omega)
      have hlt' : ¬ (i : Int) < f.n := by omega
      go_wp2_with fail
      go_ret
      exact ⟨_, T, rfl, ⟨by rw [hI.out.2.1, HIN.out], by rw [← HIN.out]; exact hI.out.2.2⟩, hI.out.1.me.q (rwI (.slice va T.length vc) T.length T) (List.mem_singleton.2 rfl), by rw [← HIN.out]; exact hI.out.1.dk, hI.out.1.b⟩
end Go.Proofs.Ytiacgaplhndlnaa
