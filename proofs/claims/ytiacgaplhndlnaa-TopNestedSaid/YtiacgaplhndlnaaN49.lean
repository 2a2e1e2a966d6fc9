/-
  Parts of the proof, in the order in which they build: EMem.
-/
import Derived.Test.YtiacgaplhndlnaaN44
import Derived.Test.YtiacgaplhndlnaaN17
set_option linter.unusedVariables false
set_option linter.unusedSimpArgs false
namespace Go.Proofs.Ytiacgaplhndlnaa
open Go.RowKit Go.Shelf
open Lim

structure Row where
  e : TypeId
  size : Nat
  v : Value
  n : Nat
  xs : List Value
def Row.Owned (r : Row) (W : World) (S : Nat) : Prop := W.ownsRow S r.e r.size r.v r.n r.xs
theorem owned_block {r : Row} {W : World} {S : Nat} (h : r.Owned W S) {k : Nat} (hk : r.v.ownBlock = some k) : S ≤ k ∧ k < W.heap.size ∧ ∃ cs, W.heap[k]? = some (.cells cs r.e (0, 0)) := by
  rcases h.2 with ⟨h1, -⟩ | ⟨g, cap, cur, h1, hB, hg, -⟩
  · rw [h1] at hk; cases hk
  · rw [h1] at hk
    have e : g = k := by simpa [Value.ownBlock] using hk
    subst e
    exact ⟨hB, (Array.getElem?_eq_some_iff.1 hg).1, cur, hg⟩
theorem owned_keep {r : Row} {W W' : World} {S : Nat} (h : r.Owned W S) (hk : ∀ k, r.v.ownBlock = some k → W'.heap[k]? = W.heap[k]?) : r.Owned W' S := by
  refine ⟨h.1, ?_⟩
  rcases h.2 with hn | ⟨g, cap, cur, h1, hB, hg, r'⟩
  · exact .inl hn
  · exact .inr ⟨g, cap, cur, h1, hB, (hk g (by rw [h1]; rfl)).trans hg, r'⟩
def nilRow (e : TypeId) (size : Nat) : Row := ⟨e, size, .slice none 0 0, 0, []⟩
theorem nilRow_owned (e size : Nat) (W : World) (S : Nat) : (nilRow e size).Owned W S := World.ownsRow_nil _ _ _ _
/-- two rows share no memory -/
def Row.Apart (r s : Row) : Prop := ∀ k, r.v.ownBlock = some k → s.v.ownBlock ≠ some k
theorem Row.Apart.symm {r s : Row} (h : r.Apart s) : s.Apart r := fun k h1 h2 => h k h2 h1
/-- from w on nothing below S has been changed; above it lie rows R that are only read, rows Q that are written, boxes X -/
structure Mem (w : World) (S : Nat) (R Q : List Row) (X : List (Nat × Obj)) (W : World) : Prop where
  b : Below S w W
  o : S ≤ W.heap.size
  r : ∀ r ∈ R, r.Owned W S
  q : ∀ r ∈ Q, r.Owned W S
  x : ∀ p ∈ X, S ≤ p.1 ∧ W.heap[p.1]? = some p.2
  xr : ∀ p ∈ X, ∀ r ∈ R, r.v.ownBlock ≠ some p.1
  xq : ∀ p ∈ X, ∀ r ∈ Q, r.v.ownBlock ≠ some p.1
  xx : X.Pairwise (fun p p' => p.1 ≠ p'.1)
  qq : Q.Pairwise Row.Apart
  qr : ∀ q ∈ Q, ∀ r ∈ R, q.Apart r
section
variable {w : World} {S : Nat} {R Q : List Row} {X : List (Nat × Obj)} {W W' : World}
theorem Mem.lt (H : Mem w S R Q X W) {p : Nat × Obj} (h : p ∈ X) : p.1 < W.heap.size := (Array.getElem?_eq_some_iff.1 (H.x p h).2).1
/-- all blocks that are spoken of stay as they are -/
theorem Mem.keep (H : Mem w S R Q X W) (hb : Below S w W') (hs : S ≤ W'.heap.size) (hk : ∀ k, S ≤ k → k < W.heap.size → W'.heap[k]? = W.heap[k]?) : Mem w S R Q X W' :=
  ⟨hb, hs,
   fun r hr => owned_keep (H.r r hr) (fun k h => let h1 := owned_block (H.r r hr) h; hk k h1.1 h1.2.1),
   fun r hr => owned_keep (H.q r hr) (fun k h => let h1 := owned_block (H.q r hr) h; hk k h1.1 h1.2.1),
   fun p hp => ⟨(H.x p hp).1, (hk p.1 (H.x p hp).1 (H.lt hp)).trans (H.x p hp).2⟩, H.xr, H.xq, H.xx, H.qq, H.qr⟩
theorem Mem.grow (H : Mem w S R Q X W) (hb : Below W.heap.size W W') : Mem w S R Q X W' :=
  H.keep (H.b.trans (hb.mono H.o)) (Nat.le_trans H.o hb.size) (fun k _ h2 => hb.block k h2)
theorem Mem.drew (H : Mem w S R Q X W) : Mem w S R Q X W.drew := H.grow (Below.refl _ _).drew
theorem Mem.drewN (H : Mem w S R Q X W) (n : Nat) : Mem w S R Q X (W.drewN n) := H.grow (below_drewN (Below.refl _ _) n)
/-- a row that a call has made -/
theorem Mem.addR (H : Mem w S R Q X W) (hb : Below W.heap.size W W') {r : Row} (hr : r.Owned W' W.heap.size) : Mem w S (r :: R) Q X W' := by
  have H1 := H.grow hb
  refine ⟨H1.b, H1.o, fun q hq => ?_, H1.q, H1.x, fun p hp q hq => ?_, H1.xq, H1.xx, H1.qq, fun q hq s hs => ?_⟩
  · rcases List.mem_cons.1 hq with rfl | hq
    · exact owns_mono hr H.o
    · exact H1.r q hq
  · rcases List.mem_cons.1 hq with rfl | hq
    · intro e
      have h1 := (owned_block hr e).1
      have h2 := H.lt hp
      omega
    · exact H1.xr p hp q hq
  · rcases List.mem_cons.1 hs with rfl | hs
    · intro k h1 h2
      have h3 := (owned_block hr h2).1
      have h4 := (owned_block (H.q q hq) h1).2.1
      omega
    · exact H1.qr q hq s hs
theorem Mem.addQ (H : Mem w S R Q X W) (hb : Below W.heap.size W W') {r : Row} (hr : r.Owned W' W.heap.size) : Mem w S R (r :: Q) X W' := by
  have H1 := H.grow hb
  refine ⟨H1.b, H1.o, H1.r, fun q hq => ?_, H1.x, H1.xr, fun p hp q hq => ?_, H1.xx, List.pairwise_cons.2 ⟨fun s hs k h1 h2 => ?_, H1.qq⟩, fun q hq s hs => ?_⟩
  · rcases List.mem_cons.1 hq with rfl | hq
    · exact owns_mono hr H.o
    · exact H1.q q hq
  · rcases List.mem_cons.1 hq with rfl | hq
    · intro e
      have h1 := (owned_block hr e).1
      have h2 := H.lt hp
      omega
    · exact H1.xq p hp q hq
  · have h3 := (owned_block hr h1).1
    have h4 := (owned_block (H.q s hs) h2).2.1
    omega
  · rcases List.mem_cons.1 hq with rfl | hq
    · intro k h1 h2
      have h3 := (owned_block hr h1).1
      have h4 := (owned_block (H.r s hs) h2).2.1
      omega
    · exact H1.qr q hq s hs
theorem Mem.nilQ (H : Mem w S R Q X W) (e size : Nat) : Mem w S R (nilRow e size :: Q) X W := by
  refine ⟨H.b, H.o, H.r, fun q hq => ?_, H.x, H.xr, fun p hp q hq => ?_, H.xx, List.pairwise_cons.2 ⟨fun s hs k h1 h2 => (by cases h1), H.qq⟩, fun q hq s hs => ?_⟩
  · rcases List.mem_cons.1 hq with rfl | hq
    · exact nilRow_owned _ _ _ _
    · exact H.q q hq
  · rcases List.mem_cons.1 hq with rfl | hq
    · intro e; cases e
    · exact H.xq p hp q hq
  · rcases List.mem_cons.1 hq with rfl | hq
    · intro k h1; cases h1
    · exact H.qr q hq s hs
/-- a box that is laid -/
theorem Mem.lay (H : Mem w S R Q X W) (o : Obj) : Mem w S R Q ((W.heap.size, o) :: X) (W.alloc o) := by
  have H1 := H.grow ((Below.refl _ W).alloc (Nat.le_refl _) o)
  refine ⟨H1.b, H1.o, H1.r, H1.q, fun p hp => ?_, fun p hp r hr => ?_, fun p hp r hr => ?_, List.pairwise_cons.2 ⟨fun p hp e => ?_, H1.xx⟩, H1.qq, H1.qr⟩
  · rcases List.mem_cons.1 hp with rfl | hp
    · exact ⟨H.o, heap_alloc_new W o⟩
    · exact H1.x p hp
  · rcases List.mem_cons.1 hp with rfl | hp
    · intro e
      have := (owned_block (H.r r hr) e).2.1
      exact Nat.lt_irrefl _ this
    · exact H1.xr p hp r hr
  · rcases List.mem_cons.1 hp with rfl | hp
    · intro e
      have := (owned_block (H.q r hr) e).2.1
      exact Nat.lt_irrefl _ this
    · exact H1.xq p hp r hr
  · have h1 := H.lt hp
    have e : W.heap.size = p.1 := e
    omega
/-- a block that is made, as a row -/
theorem Mem.layQ (H : Mem w S R Q X W) (o : Obj) {r : Row} (hr : r.Owned (W.alloc o) W.heap.size) : Mem w S R (r :: Q) X (W.alloc o) :=
  H.addQ ((Below.refl _ W).alloc (Nat.le_refl _) o) hr
theorem Mem.layR (H : Mem w S R Q X W) (o : Obj) {r : Row} (hr : r.Owned (W.alloc o) W.heap.size) : Mem w S (r :: R) Q X (W.alloc o) :=
  H.addR ((Below.refl _ W).alloc (Nat.le_refl _) o) hr
theorem Mem.less (H : Mem w S R Q X W) {R' Q' : List Row} {X' : List (Nat × Obj)} (hR : ∀ r ∈ R', r ∈ R) (hQ : Q'.Sublist Q) (hX : X'.Sublist X) : Mem w S R' Q' X' W :=
  ⟨H.b, H.o, fun r hr => H.r r (hR r hr), fun r hr => H.q r (hQ.subset hr), fun p hp => H.x p (hX.subset hp), fun p hp r hr => H.xr p (hX.subset hp) r (hR r hr), fun p hp r hr => H.xq p (hX.subset hp) r (hQ.subset hr), H.xx.sublist hX, H.qq.sublist hQ, fun q hq r hr => H.qr q (hQ.subset hq) r (hR r hr)⟩
/-- a row that is written becomes one that is only read -/
theorem Mem.freeze {q : Row} (H : Mem w S R (q :: Q) X W) : Mem w S (q :: R) Q X W :=
  ⟨H.b, H.o, fun r hr => by
    rcases List.mem_cons.1 hr with rfl | hr
    · exact H.q _ List.mem_cons_self
    · exact H.r r hr,
   fun r hr => H.q r (List.mem_cons_of_mem _ hr), H.x, fun p hp r hr => by
    rcases List.mem_cons.1 hr with rfl | hr
    · exact H.xq p hp _ List.mem_cons_self
    · exact H.xr p hp r hr,
   fun p hp r hr => H.xq p hp r (List.mem_cons_of_mem _ hr), H.xx, (List.pairwise_cons.1 H.qq).2, fun a ha r hr => by
    rcases List.mem_cons.1 hr with rfl | hr
    · exact ((List.pairwise_cons.1 H.qq).1 a ha).symm
    · exact H.qr a (List.mem_cons_of_mem _ ha) r hr⟩
/-- a row is written, or laid anew -/
theorem Mem.putQ {Q1 Q2 : List Row} {r r' : Row} (H : Mem w S R (Q1 ++ r :: Q2) X W) (hg : W.grownBy W' r.v.ownBlock) (ho : r'.Owned W' S) (hb : r'.v.ownBlock = r.v.ownBlock ∨ ∃ k, r'.v.ownBlock = some k ∧ W.heap.size ≤ k) : Mem w S R (Q1 ++ r' :: Q2) X W' := by
  have hrm : r ∈ Q1 ++ r :: Q2 := by simp
  have hlow : ∀ k, r.v.ownBlock = some k → S ≤ k ∧ k < W.heap.size := fun k h => let h1 := owned_block (H.q r hrm) h; ⟨h1.1, h1.2.1⟩
  have hS := H.o
  have hkeep : ∀ k, k < W.heap.size → r.v.ownBlock ≠ some k → W'.heap[k]? = W.heap[k]? := fun k h1 h2 => hg.block k h1 (fun e => h2 e.symm)
  have hp := List.pairwise_append.1 H.qq
  have hp2 := List.pairwise_cons.1 hp.2.1
  have hne : ∀ s, s ∈ Q1 ∨ s ∈ Q2 → s.Apart r := fun s hs => by
    rcases hs with hs | hs
    · exact hp.2.2 s hs r List.mem_cons_self
    · exact (hp2.1 s hs).symm
  have hmem : ∀ s, s ∈ Q1 ∨ s ∈ Q2 → s ∈ Q1 ++ r :: Q2 := fun s hs => by
    rcases hs with hs | hs
    · exact List.mem_append_left _ hs
    · exact List.mem_append_right _ (List.mem_cons_of_mem _ hs)
  have hsplit : ∀ s, s ∈ Q1 ++ r' :: Q2 → s = r' ∨ (s ∈ Q1 ∨ s ∈ Q2) := fun s hs => by
    rcases List.mem_append.1 hs with h | h
    · exact .inr (.inl h)
    · rcases List.mem_cons.1 h with h | h
      · exact .inl h
      · exact .inr (.inr h)
  -- the new row is apart from what is apart from the old one and old enough
  have hnew : ∀ k, r'.v.ownBlock = some k → k < W.heap.size → r.v.ownBlock = some k := fun k h1 h2 => by
    rcases hb with hb | ⟨j, h3, h4⟩
    · rw [← hb]; exact h1
    · rw [h3] at h1; cases h1; omega
  refine ⟨H.b.trans ?_, Nat.le_trans hS hg.size, fun s hs => ?_, fun s hs => ?_, fun p hp => ?_, H.xr, fun p hp s hs => ?_, H.xx, ?_, fun q hq s hs => ?_⟩
  · exact (Below.refl S W).grown hg H.o (fun k e => by have := hlow k e; omega)
  · exact owned_keep (H.r s hs) (fun k hk => hkeep k (owned_block (H.r s hs) hk).2.1 (fun e => H.qr r hrm s hs k e hk))
  · rcases hsplit s hs with rfl | hs
    · exact ho
    · exact owned_keep (H.q s (hmem s hs)) (fun k hk => hkeep k (owned_block (H.q s (hmem s hs)) hk).2.1 (fun e => hne s hs k hk e))
  · exact ⟨(H.x p hp).1, (hkeep p.1 (H.lt hp) (H.xq p hp r hrm)).trans (H.x p hp).2⟩
  · rcases hsplit s hs with rfl | hs
    · exact fun e => H.xq p hp r hrm (hnew p.1 e (H.lt hp))
    · exact H.xq p hp s (hmem s hs)
  · refine List.pairwise_append.2 ⟨hp.1, List.pairwise_cons.2 ⟨fun s hs k h1 h2 => ?_, hp2.2⟩, fun s hs t ht => ?_⟩
    · have h3 := (owned_block (H.q s (hmem s (.inr hs))) h2).2.1
      exact hp2.1 s hs k (hnew k h1 h3) h2
    · rcases List.mem_cons.1 ht with rfl | ht
      · intro k h1 h2
        have h3 := (owned_block (H.q s (hmem s (.inl hs))) h1).2.1
        exact hne s (.inl hs) k h1 (hnew k h2 h3)
      · exact hp.2.2 s hs t (List.mem_cons_of_mem _ ht)
  · rcases hsplit q hq with rfl | hq
    · intro k h1 h2
      have h3 := (owned_block (H.r s hs) h2).2.1
      exact H.qr r hrm s hs k (hnew k h1 h3) h2
    · exact H.qr q (hmem q hq) s hs
/-- a cell of a box is written -/
theorem Mem.putX {X1 X2 : List (Nat × Obj)} {p : Nat} {cs : Array Value} {t : TypeId} {fr : Nat × Nat} (H : Mem w S R Q (X1 ++ (p, .cells cs t fr) :: X2) W) (j : Nat) (v : Value) : Mem w S R Q (X1 ++ (p, .cells (cs.setIfInBounds j v) t fr) :: X2) (W.setCell ⟨p, j, none⟩ v) := by
  have hm : (p, Obj.cells cs t fr) ∈ X1 ++ (p, Obj.cells cs t fr) :: X2 := by simp
  have hS := H.o
  have hx := H.x _ hm
  have hx1 : S ≤ p := hx.1
  have hkeep : ∀ k, k ≠ p → (W.setCell ⟨p, j, none⟩ v).heap[k]? = W.heap[k]? := fun k hk => Below.heap_setCell W ⟨p, j, none⟩ v k hk
  have hp := List.pairwise_append.1 H.xx
  have hp2 := List.pairwise_cons.1 hp.2.1
  have hx1' : ∀ s, s ∈ X1 → s.1 ≠ p := fun s hs => hp.2.2 s hs _ List.mem_cons_self
  have hsplit : ∀ s, s ∈ X1 ++ (p, Obj.cells (cs.setIfInBounds j v) t fr) :: X2 → s = (p, Obj.cells (cs.setIfInBounds j v) t fr) ∨ (s ∈ X1 ++ (p, Obj.cells cs t fr) :: X2 ∧ s.1 ≠ p) := fun s hs => by
    rcases List.mem_append.1 hs with h | h
    · exact .inr ⟨List.mem_append_left _ h, hp.2.2 s h _ List.mem_cons_self⟩
    · rcases List.mem_cons.1 h with h | h
      · exact .inl h
      · exact .inr ⟨List.mem_append_right _ (List.mem_cons_of_mem _ h), fun e => hp2.1 s h e.symm⟩
  refine ⟨H.b.setCell (p := ⟨p, j, none⟩) (by show S ≤ p; omega) v, by rw [World.size_setCell]; exact hS, fun s hs => owned_keep (H.r s hs) (fun k hk => hkeep k (fun e => by subst e; exact H.xr _ hm s hs hk)), fun s hs => owned_keep (H.q s hs) (fun k hk => hkeep k (fun e => by subst e; exact H.xq _ hm s hs hk)), fun s hs => ?_, fun s hs r hr => ?_, fun s hs r hr => ?_, ?_, H.qq, H.qr⟩
  · rcases hsplit s hs with rfl | ⟨hs, hne⟩
    · exact ⟨hx1, heap_setCell_self v hx.2⟩
    · exact ⟨(H.x s hs).1, (hkeep s.1 hne).trans (H.x s hs).2⟩
  · rcases hsplit s hs with rfl | ⟨hs, hne⟩
    · exact H.xr _ hm r hr
    · exact H.xr s hs r hr
  · rcases hsplit s hs with rfl | ⟨hs, hne⟩
    · exact H.xq _ hm r hr
    · exact H.xq s hs r hr
  · exact List.pairwise_append.2 ⟨hp.1, List.pairwise_cons.2 ⟨fun s hs => hp2.1 s hs, hp2.2⟩, fun s hs t ht => by
      rcases List.mem_cons.1 ht with rfl | ht
      · exact hx1' s hs
      · exact hp.2.2 s hs t (List.mem_cons_of_mem _ ht)⟩
end
def rwI (v : Value) (n : Nat) (l : List Int) : Row := ⟨3, 1, v, n, ints l⟩
theorem row_form {W : World} {r : Row} {S : Nat} (h : r.Owned W S) : ∃ a cap, r.v = .slice a r.n cap := by
  rcases h.2 with ⟨h1, h2⟩ | ⟨g, cap, cur, h1, -⟩
  · rw [h1, h2]; exact ⟨_, _, rfl⟩
  · exact ⟨_, _, h1⟩
theorem form_pos {W : World} {r : Row} {S : Nat} (h : r.Owned W S) (hn : 0 < r.n) : ∃ g cap, r.v = .slice (some ⟨g, 0, none⟩) r.n cap := by
  rcases h.2 with ⟨h1, h2⟩ | ⟨g, cap, cur, h1, -⟩
  · omega
  · exact ⟨g, cap, h1⟩
theorem row_cell {W : World} {r : Row} {S g n cap : Nat} (h : r.Owned W S) (hv : r.v = .slice (some ⟨g, 0, none⟩) n cap) {j : Nat} {u : Value} (hj : r.xs[j]? = some u) : W.cell? ⟨g, j, none⟩ = some u := by
  have := World.ownsRow.cells h (g := g) (by rw [hv]; rfl) j u hj
  rw [Addr.add_mid, Nat.zero_add] at this
  exact this
section
variable {w : World} {S : Nat} {R Q : List Row} {X : List (Nat × Obj)} {W W' : World}
theorem Mem.own (H : Mem w S R Q X W) {r : Row} (h : r ∈ R ∨ r ∈ Q) : r.Owned W S := h.elim (H.r r) (H.q r)
theorem Mem.rsI (H : Mem w S R Q X W) {v : Value} {n : Nat} {l : List Int} (h : rwI v n l ∈ R ∨ rwI v n l ∈ Q) (hn : l.length = n) : RS W.heap.size W v l.length (ints l) := by subst hn; exact RS.of_owns (H.own h)
theorem Mem.cellI (H : Mem w S R Q X W) {g n cap : Nat} {l : List Int} (h : rwI (.slice (some ⟨g, 0, none⟩) n cap) n l ∈ R ∨ rwI (.slice (some ⟨g, 0, none⟩) n cap) n l ∈ Q) {j : Nat} (hj : j < l.length) : W.cell? ⟨g, j, none⟩ = some (.int .i64 (l.getD j 0)) :=
  row_cell (H.own h) rfl (by show (ints l)[j]? = _; rw [ints_at' l j hj, List.getD_eq_getElem?_getD])
/-- a number is written into a row -/
theorem set_owned {S g n cap : Nat} {e : TypeId} {l : List Int} (h : (⟨e, 1, .slice (some ⟨g, 0, none⟩) n cap, n, ints l⟩ : Row).Owned W S) (k : Nat) (x : Int) : (⟨e, 1, .slice (some ⟨g, 0, none⟩) n cap, n, ints (l.set k x)⟩ : Row).Owned (W.setCell ⟨g, k, none⟩ (.int .i64 x)) S := by
  show World.ownsRow _ _ _ _ _ _ (ints (l.set k x))
  rw [show ints (l.set k x) = (ints l).set k (.int .i64 x) from by unfold ints; rw [List.map_set]]
  exact (World.ownsRow.stored h k (.int .i64 x)).1
theorem Mem.setI {Q1 Q2 : List Row} {g n cap : Nat} {l : List Int} (H : Mem w S R (Q1 ++ rwI (.slice (some ⟨g, 0, none⟩) n cap) n l :: Q2) X W) (k : Nat) (x : Int) : Mem w S R (Q1 ++ rwI (.slice (some ⟨g, 0, none⟩) n cap) n (l.set k x) :: Q2) X (W.setCell ⟨g, k, none⟩ (.int .i64 x)) :=
  H.putQ (grown_set (d := g) W (grown_refl W _) k _) (set_owned (H.q (rwI (.slice (some ⟨g, 0, none⟩) n cap) n l) (by simp)) k x) (.inl rfl)
end
def onR (b : Bool) (r : Row) : List Row := if b then [r] else []
def onX (b : Bool) (p : Nat) (o : Obj) : List (Nat × Obj) := if b then [(p, o)] else []
theorem onR_no {b : Bool} (h : b = false) (r : Row) : onR b r = [] := by rw [h]; rfl
theorem onR_yes {b : Bool} (h : b = true) (r : Row) : onR b r = [r] := by rw [h]; rfl
theorem onX_no {b : Bool} (h : b = false) (p : Nat) (o : Obj) : onX b p o = [] := by rw [h]; rfl
theorem onX_yes {b : Bool} (h : b = true) (p : Nat) (o : Obj) : onX b p o = [(p, o)] := by rw [h]; rfl
section
variable {w : World} {S : Nat} {R Q : List Row} {X : List (Nat × Obj)} {W W' : World}
theorem Mem.permQ {Q' : List Row} (H : Mem w S R Q X W) (h : Q.Perm Q') : Mem w S R Q' X W :=
  ⟨H.b, H.o, H.r, fun r hr => H.q r (h.mem_iff.2 hr), H.x, H.xr, fun p hp r hr => H.xq p hp r (h.mem_iff.2 hr), H.xx, h.pairwise H.qq (fun hab => hab.symm), fun q hq r hr => H.qr q (h.mem_iff.2 hq) r hr⟩
theorem Mem.permX {X' : List (Nat × Obj)} (H : Mem w S R Q X W) (h : X.Perm X') : Mem w S R Q X' W :=
  ⟨H.b, H.o, H.r, H.q, fun p hp => H.x p (h.mem_iff.2 hp), fun p hp => H.xr p (h.mem_iff.2 hp), fun p hp => H.xq p (h.mem_iff.2 hp), h.pairwise H.xx (fun hab => Ne.symm hab), H.qq, H.qr⟩
theorem Mem.insQ {Q1 Q2 : List Row} (H : Mem w S R (Q1 ++ Q2) X W) (hb : Below W.heap.size W W') {r : Row} (hr : r.Owned W' W.heap.size) : Mem w S R (Q1 ++ r :: Q2) X W' :=
  (H.addQ hb hr).permQ List.perm_middle.symm
theorem Mem.insR {R1 R2 : List Row} (H : Mem w S (R1 ++ R2) Q X W) (hb : Below W.heap.size W W') {r : Row} (hr : r.Owned W' W.heap.size) : Mem w S (R1 ++ r :: R2) Q X W' :=
  (H.addR hb hr).less (fun _ h => List.perm_middle.mem_iff.1 h) (List.Sublist.refl _) (List.Sublist.refl _)
theorem Mem.insX {X1 X2 : List (Nat × Obj)} (H : Mem w S R Q (X1 ++ X2) W) (o : Obj) : Mem w S R Q (X1 ++ (W.heap.size, o) :: X2) (W.alloc o) :=
  (H.lay o).permX List.perm_middle.symm
end
section
variable {w : World} {S : Nat} {R Q : List Row} {X : List (Nat × Obj)} {W W' : World}
theorem Mem.addQs (H : Mem w S R Q X W) (hb : Below W.heap.size W W') {P : List Row} (hP : ∀ r ∈ P, r.Owned W' W.heap.size) (hPP : P.Pairwise Row.Apart) : Mem w S R (P ++ Q) X W' := by
  have H1 := H.grow hb
  refine ⟨H1.b, H1.o, H1.r, fun q hq => ?_, H1.x, H1.xr, fun p hp q hq => ?_, H1.xx, List.pairwise_append.2 ⟨hPP, H1.qq, fun q hq s hs k h1 h2 => ?_⟩, fun q hq s hs => ?_⟩
  · rcases List.mem_append.1 hq with hq | hq
    · exact owns_mono (hP q hq) H.o
    · exact H1.q q hq
  · rcases List.mem_append.1 hq with hq | hq
    · intro e
      have h1 := (owned_block (hP q hq) e).1
      have h2 := H.lt hp
      omega
    · exact H1.xq p hp q hq
  · have h3 := (owned_block (hP q hq) h1).1
    have h4 := (owned_block (H.q s hs) h2).2.1
    omega
  · rcases List.mem_append.1 hq with hq | hq
    · intro k h1 h2
      have h3 := (owned_block (hP q hq) h1).1
      have h4 := (owned_block (H.r s hs) h2).2.1
      omega
    · exact H1.qr q hq s hs
theorem Mem.addRs (H : Mem w S R Q X W) (hb : Below W.heap.size W W') {P : List Row} (hP : ∀ r ∈ P, r.Owned W' W.heap.size) : Mem w S (P ++ R) Q X W' := by
  have H1 := H.grow hb
  refine ⟨H1.b, H1.o, fun q hq => ?_, H1.q, H1.x, fun p hp q hq => ?_, H1.xq, H1.xx, H1.qq, fun q hq s hs => ?_⟩
  · rcases List.mem_append.1 hq with hq | hq
    · exact owns_mono (hP q hq) H.o
    · exact H1.r q hq
  · rcases List.mem_append.1 hq with hq | hq
    · intro e
      have h1 := (owned_block (hP q hq) e).1
      have h2 := H.lt hp
      omega
    · exact H1.xr p hp q hq
  · rcases List.mem_append.1 hs with hs | hs
    · intro k h1 h2
      have h3 := (owned_block (hP s hs) h2).1
      have h4 := (owned_block (H.q q hq) h1).2.1
      omega
    · exact H1.qr q hq s hs
/-- two rows of different types, in the middle -/
theorem Mem.assocX {X1 X2 X3 : List (Nat × Obj)} (H : Mem w S R Q (X1 ++ (X2 ++ X3)) W) : Mem w S R Q ((X1 ++ X2) ++ X3) W := by rw [List.append_assoc]; exact H
theorem Mem.unassocX {X1 X2 X3 : List (Nat × Obj)} (H : Mem w S R Q ((X1 ++ X2) ++ X3) W) : Mem w S R Q (X1 ++ (X2 ++ X3)) W := by rw [← List.append_assoc]; exact H
theorem Mem.assocQ {X1 X2 X3 : List Row} (H : Mem w S R (X1 ++ (X2 ++ X3)) X W) : Mem w S R ((X1 ++ X2) ++ X3) X W := by rw [List.append_assoc]; exact H
theorem Mem.unassocQ {X1 X2 X3 : List Row} (H : Mem w S R ((X1 ++ X2) ++ X3) X W) : Mem w S R (X1 ++ (X2 ++ X3)) X W := by rw [← List.append_assoc]; exact H
end

def onL (b : Bool) (l : List Row) : List Row := if b then l else []
theorem onL_no {b : Bool} (h : b = false) (l : List Row) : onL b l = [] := by rw [h]; rfl
theorem onL_yes {b : Bool} (h : b = true) (l : List Row) : onL b l = l := by rw [h]; rfl
theorem Mem.nil {w W : World} (hb : Below w.heap.size w W) : Mem w w.heap.size [] [] [] W :=
  ⟨hb, hb.size, fun _ h => absurd h List.not_mem_nil, fun _ h => absurd h List.not_mem_nil, fun _ h => absurd h List.not_mem_nil, fun _ h => absurd h List.not_mem_nil, fun _ h => absurd h List.not_mem_nil, List.Pairwise.nil, List.Pairwise.nil, fun _ h => absurd h List.not_mem_nil⟩
section
variable {w : World} {S : Nat} {R Q : List Row} {X : List (Nat × Obj)} {W W' : World}
/-- the same, looked at from another world on: nothing above S was changed since -/
theorem Mem.rebase (H : Mem w S R Q X W) (hk : ∀ k, S ≤ k → k < W.heap.size → W'.heap[k]? = W.heap[k]?) (hs : W.heap.size ≤ W'.heap.size) : Mem W' S R Q X W' :=
  ⟨Below.refl _ _, Nat.le_trans H.o hs,
   fun r hr => owned_keep (H.r r hr) (fun k h => let h1 := owned_block (H.r r hr) h; hk k h1.1 h1.2.1),
   fun r hr => owned_keep (H.q r hr) (fun k h => let h1 := owned_block (H.q r hr) h; hk k h1.1 h1.2.1),
   fun p hp => ⟨(H.x p hp).1, (hk p.1 (H.x p hp).1 (H.lt hp)).trans (H.x p hp).2⟩, H.xr, H.xq, H.xx, H.qq, H.qr⟩
theorem Mem.dealt (H : Mem w S R Q X W) {d c : Nat} (hd : Dealt d c W W') (h : d < S) : Mem W' S R Q X W' :=
  H.rebase (fun k h1 h2 => hd.2.1.block k h2 (fun e => by cases e; omega)) hd.2.1.size
theorem Mem.insQs {Q1 Q2 P : List Row} (H : Mem w S R (Q1 ++ Q2) X W) (hb : Below W.heap.size W W') (hP : ∀ r ∈ P, r.Owned W' W.heap.size) (hPP : P.Pairwise Row.Apart) : Mem w S R (Q1 ++ (P ++ Q2)) X W' :=
  (H.addQs hb hP hPP).permQ (List.perm_append_comm_assoc _ _ _)
theorem Mem.put2 {X1 X2 : List (Nat × Obj)} {p : Nat} {u0 u1 : Value} {t : TypeId} (H : Mem w S R Q (X1 ++ (p, .cells #[u0, u1] t (0, 0)) :: X2) W) (a b : Value) :
    Mem w S R Q (X1 ++ (p, .cells #[a, b] t (0, 0)) :: X2) ((W.setCell ⟨p, 0, none⟩ a).setCell ⟨p, 1, none⟩ b) := (H.putX 0 a).putX 1 b
theorem Mem.put4 {X1 X2 : List (Nat × Obj)} {p : Nat} {u0 u1 u2 u3 : Value} {t : TypeId} (H : Mem w S R Q (X1 ++ (p, .cells #[u0, u1, u2, u3] t (0, 0)) :: X2) W) (a b e f : Value) :
    Mem w S R Q (X1 ++ (p, .cells #[a, b, e, f] t (0, 0)) :: X2) ((((W.setCell ⟨p, 0, none⟩ a).setCell ⟨p, 1, none⟩ b).setCell ⟨p, 2, none⟩ e).setCell ⟨p, 3, none⟩ f) :=
  (((H.putX 0 a).putX 1 b).putX 2 e).putX 3 f
theorem Mem.box2 (H : Mem w S R Q X W) {q : Nat} {a b : Value} {t : TypeId} (h : (q, Obj.cells #[a, b] t (0, 0)) ∈ X) : W.cell? ⟨q, 0, none⟩ = some a ∧ W.cell? ⟨q, 1, none⟩ = some b ∧ W.frozen? ⟨q, 0, none⟩ = false ∧ W.frozen? ⟨q, 1, none⟩ = false := by
  have h1 := (H.x _ h).2
  refine ⟨?_, ?_, ?_, ?_⟩ <;> simp [World.cell?, World.frozen?, h1]
theorem Mem.box4 (H : Mem w S R Q X W) {q : Nat} {a b e f : Value} {t : TypeId} (h : (q, Obj.cells #[a, b, e, f] t (0, 0)) ∈ X) : W.cell? ⟨q, 0, none⟩ = some a ∧ W.cell? ⟨q, 1, none⟩ = some b ∧ W.cell? ⟨q, 2, none⟩ = some e ∧ W.cell? ⟨q, 3, none⟩ = some f := by
  have h1 := (H.x _ h).2
  refine ⟨?_, ?_, ?_, ?_⟩ <;> simp [World.cell?, h1]
theorem Mem.frz4 (H : Mem w S R Q X W) {q : Nat} {a b e f : Value} {t : TypeId} (h : (q, Obj.cells #[a, b, e, f] t (0, 0)) ∈ X) : W.frozen? ⟨q, 0, none⟩ = false ∧ W.frozen? ⟨q, 1, none⟩ = false ∧ W.frozen? ⟨q, 2, none⟩ = false ∧ W.frozen? ⟨q, 3, none⟩ = false := by
  have h1 := (H.x _ h).2
  refine ⟨?_, ?_, ?_, ?_⟩ <;> simp [World.frozen?, h1]
theorem one_owned (W : World) (x : Int) : (rwI (.slice (some ⟨W.heap.size, 0, none⟩) 1 1) 1 [x]).Owned (W.alloc (.cells #[.int .i64 x] 3)) W.heap.size :=
  ⟨rfl, .inr ⟨W.heap.size, 1, #[.int .i64 x], rfl, Nat.le_refl _, heap_alloc_new W _, Nat.le_refl _, by unfold maxLen; omega, rfl, rfl⟩⟩
/-- a number more behind a row -/
theorem Mem.push {Q1 Q2 : List Row} {v v' : Value} {n : Nat} {l : List Int} {x : Int} (H : Mem w S R (Q1 ++ rwI v n l :: Q2) X W) (ho : W'.ownsRow S 3 1 v' (n + 1) (ints l ++ [.int .i64 x])) (hg : W.grownBy W' v.ownBlock) (hb : v'.ownBlock = v.ownBlock ∨ v'.ownBlock = some W.heap.size) : Mem w S R (Q1 ++ rwI v' (n + 1) (l ++ [x]) :: Q2) X W' :=
  H.putQ (r' := rwI v' (n + 1) (l ++ [x])) hg (by
    show W'.ownsRow S 3 1 v' (n + 1) (ints (l ++ [x]))
    simpa [ints] using ho) (hb.imp id fun h => ⟨_, h, Nat.le_refl _⟩)
theorem row_frz {W : World} {r : Row} {S g n cap : Nat} (h : r.Owned W S) (hv : r.v = .slice (some ⟨g, 0, none⟩) n cap) (j : Nat) : W.frozen? ⟨g, j, none⟩ = false := by
  obtain ⟨-, -, cs, h3⟩ := owned_block h (k := g) (by rw [hv]; rfl)
  simp [World.frozen?, h3]
end
theorem make_upon {F : Fence} {n : Nat} {P : Program} {Q : Exit → Act → World → Prop} {o : Oper} {a : Act} {K : Act → World → Prop} {w w' : World} {t : TypeId} {l c : Operand} {lv cv v : Value} (hop : o.op = Op.makeSlice t l c)
    (hl : a.eval l = lv) (hc : a.eval c = cv) (h : (Instr.makeSlice t lv cv).run P w = .ok v w') (hK : K (a.put o.dst v) w') : o.uponIn F n P a K Q ((execOp a.eval o).run P w) := by
  simp [execOp, hop, hl, hc, h, Result.andThen, Oper.uponIn]
  exact hK
theorem zeros_ints (n : Nat) : (madeCells (Value.int .i64 0).cells (n * 1)).toList = ints (List.replicate n 0) := by
  rw [Nat.mul_one]
  show (madeCells #[Value.int .i64 0] n).toList = _
  rw [toList_madeCells_one]
  simp [ints]
def zeros (n : Nat) : List Int := List.replicate n 0
theorem zeros_len (n : Nat) : (zeros n).length = n := List.length_replicate
/-- a list of zeros is made -/
theorem make_zeros {W : World} {i : TypeInfo} (hi : Try.prog.info? 3 = some i ∧ i.zero = some (.int .i64 0) ∧ i.size = 1 ∧ i.bytes = 8) {n : Nat} (hn : n ≤ 1000) :
    ∃ v W', (Instr.makeSlice 23 (.int .i64 (n : Int)) (.int .i64 (n : Int))).run Try.prog W = .ok v W' ∧ (rwI v n (zeros n)).Owned W' W.heap.size ∧ Below W.heap.size W W' ∧ v.oneCell' = true := by
  obtain ⟨W', h1, h2, h3⟩ := run_make_full (P := Try.prog) W W.heap.size 23 3 i (.int .i64 0) 1 Try.underlying23 hi.1 hi.2.1 hi.2.2.1 .i64 .i64 n (by rw [hi.2.2.2]; omega) (by unfold maxLen; omega) (Nat.le_refl _)
  rw [zeros_ints] at h2
  exact ⟨_, W', h1, h2, ⟨h3.os, h3.tape, h3.output, h3.size, fun k hk => h3.block k hk (fun e => by cases e)⟩, rfl⟩
end Go.Proofs.Ytiacgaplhndlnaa
